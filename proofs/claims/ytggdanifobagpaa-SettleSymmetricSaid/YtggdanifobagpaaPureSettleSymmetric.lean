/- Plain law: the other side's settlement. -/
import Derived.Test.YtggdanifobagpaaEPlainWay
import Derived.Test.YtggdanifobagpaaQSymS
namespace Go.Proofs.Ytggdanifobagpaa.Pure
set_option linter.unusedVariables false
set_option linter.unusedSimpArgs false
open Go.RowKit Go.Proofs.Ytggdanifobagpaa.Q Go.Proofs.Ytggdanifobagpaa.Ext Go.Proofs.YtggdanifobagpaaW.PrintWords Go.Proofs.YtggdanifobagpaaW.PrintLast Go.Proofs.YtggdanifobagpaaW.PrintMore

theorem sM {l : List S38} {i : Nat} (h : i < l.length) : rd_T38 l (i : Int) = l[i] := by simp [rd_T38, List.getD_eq_getElem?_getD, h]
theorem few_sym (a b : List S36) : ∃ t, crossbarref31_Few.f a b = some t ∧ (t = true → a.length ≤ 60 → b.length ≤ 60) := by
  unfold crossbarref31_Few.f
  by_cases h1 : (a.length : Int) ≤ 60
  · rw [if_pos h1]
    by_cases h2 : (b.length : Int) ≤ 60
    · rw [if_pos h2]
      exact ⟨true, rfl, fun _ _ => by omega⟩
    · rw [if_neg h2, if_neg (by omega)]
      exact ⟨false, rfl, fun h => by cases h⟩
  · rw [if_neg h1]
    split
    · split
      · exact ⟨_, rfl, fun _ h => absurd h (by omega)⟩
      · exact ⟨false, rfl, fun h => by cases h⟩
    · exact ⟨false, rfl, fun h => by cases h⟩
theorem ints_s (l : List Int) (hn : l.length ≤ 100000) : ∀ (d i k : Nat), l.length - i = d → i ≤ l.length → d < k → crossbarref31_Ints.l0 k l l (i : Int) = some true := by
  intro d
  induction d with
  | zero =>
    intro i k hd hi hk
    obtain ⟨k, rfl⟩ : ∃ q, k = q + 1 := ⟨k - 1, by omega⟩
    simp only [crossbarref31_Ints.l0]
    rw [if_neg (by omega)]
  | succ d ih =>
    intro i k hd hi hk
    obtain ⟨k, rfl⟩ : ∃ q, k = q + 1 := ⟨k - 1, by omega⟩
    simp only [crossbarref31_Ints.l0]
    rw [if_pos (by omega), if_pos (by omega), if_pos (by omega), if_pos trivial, pS (i := i) (by omega)]
    exact ih (i + 1) k (by omega) (by omega) (by omega)
theorem ints_same (l : List Int) (hn : l.length ≤ 100000) {k : Nat} (hk : l.length < k) : crossbarref31_Ints.f k l l = some true := by
  unfold crossbarref31_Ints.f
  rw [if_pos rfl]
  exact ints_s l hn l.length 0 k rfl (Nat.zero_le _) hk
theorem sym_l0 (u u' : Int) (c c' : List Int) (m : List S38) (hn : m.length ≤ 100000) : ∀ (d i k : Nat), m.length - i = d → i ≤ m.length → d < k → crossbarlaw31_SettleSymmetric.l0 k (i : Int) u c m u' c' (m.map xm) = some true := by
  intro d
  induction d with
  | zero =>
    intro i k hd hi hk
    obtain ⟨k, rfl⟩ : ∃ q, k = q + 1 := ⟨k - 1, by omega⟩
    simp only [crossbarlaw31_SettleSymmetric.l0]
    rw [if_neg (by omega)]
  | succ d ih =>
    intro i k hd hi hk
    obtain ⟨k, rfl⟩ : ∃ q, k = q + 1 := ⟨k - 1, by omega⟩
    have hi' : i < m.length := by omega
    have hgo := ih (i + 1) k (by omega) (by omega) (by omega)
    have hl : (m.map xm).length = m.length := List.length_map ..
    have hx : rd_T38 (m.map xm) (i : Int) = xm m[i] := by rw [sM (by omega), List.getElem_map]
    simp only [crossbarlaw31_SettleSymmetric.l0]
    rw [if_pos (by omega), if_pos (by omega), sM hi', hx, hl, pS (i := i) (by omega), hgo]
    have hi2 : (i : Int) < (m.length : Int) := by omega
    by_cases h1 : m[i].f0 = 1
    · rw [if_pos h1, if_pos hi2, if_neg]
      simp [xm, xkind, h1]
    · rw [if_neg h1]
      by_cases h2 : m[i].f0 = 2
      · rw [if_pos h2, if_pos hi2, if_neg]
        simp [xm, xkind, h2]
      · rw [if_neg h2, if_pos hi2, if_neg]
        simp [xm, xkind, h1, h2]
theorem wrap_neg (u : Int) : wrap64 u = wrap64 (-(wrap64 (-u))) := by unfold wrap64; omega
theorem SettleSymmetric (a b : List S36) (tol : Int) : ∃ k, crossbarlaw31_SettleSymmetric.f k a b tol = some true := by
  have hsane : crossbarlaw31_sane.f = some true := rfl
  have jt : ∀ k, crossbarlaw31_SettleSymmetric.j0 (k + 1) a b tol true = some true := fun k => by
    simp only [crossbarlaw31_SettleSymmetric.j0, if_true]
  unfold crossbarlaw31_SettleSymmetric.f
  rw [hsane]
  simp only [Option.bind_some, if_true]
  obtain ⟨t, ht, hlen⟩ := few_sym a b
  rw [ht]
  simp only [Option.bind_some]
  cases t with
  | false =>
    refine ⟨1, ?_⟩
    simp only [Bool.false_eq_true, if_false]
    exact jt 0
  | true =>
    simp only [if_true]
    by_cases h : (a.length : Int) > 60
    · refine ⟨1, ?_⟩
      rw [if_pos h]
      exact jt 0
    · have ha : a.length ≤ 60 := by omega
      have hb := hlen rfl ha
      obtain ⟨K, t, hK, hw⟩ := way_eq a b (by omega) (by omega)
      refine ⟨K + 1000, ?_⟩
      rw [if_neg h, hK _ (by omega), Option.bind_some]
      cases t with
      | false => exact jt _
      | true =>
        have hw := hw rfl
        obtain ⟨u, e, c, m, e1, e2⟩ := matchL_x a b tol hw
        have l1 := matchL_lens a b tol
        rw [e1] at l1
        simp only at l1
        show crossbarlaw31_SettleSymmetric.j0 ((K + 999) + 1) a b tol false = some true
        simp only [crossbarlaw31_SettleSymmetric.j0, Bool.false_eq_true, if_false]
        rw [f_eq a b (by omega) (by omega), Option.bind_some, f_eq b a (by omega) (by omega), Option.bind_some, e1, e2]
        simp only
        rw [if_pos trivial, if_pos (wrap_neg u), ints_same c (by omega) (by omega), Option.bind_some, if_pos rfl, List.length_map]
        have e3 : ((m.length : Int) != (m.length : Int)) = false := by simp
        rw [e3]
        show crossbarlaw31_SettleSymmetric.j1 ((K + 998) + 1) false _ _ _ _ _ _ = some true
        simp only [crossbarlaw31_SettleSymmetric.j1, Bool.false_eq_true, if_false]
        exact sym_l0 _ _ _ _ m (by omega) m.length 0 (K + 998) rfl (Nat.zero_le _) (by omega)
end Go.Proofs.Ytggdanifobagpaa.Pure
