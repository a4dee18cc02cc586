/- Plain law: every leg is a call or a mismatch, in order. -/
import Derived.Test.YtggdanifobagpaaEPlainLegs
import Derived.Test.YtggdanifobagpaaQCovS
namespace Go.Proofs.Ytggdanifobagpaa.Pure
set_option linter.unusedVariables false
set_option linter.unusedSimpArgs false
open Go.RowKit Go.Proofs.Ytggdanifobagpaa.Q Go.Proofs.Ytggdanifobagpaa.Ext Go.Proofs.YtggdanifobagpaaW.PrintWords Go.Proofs.YtggdanifobagpaaW.PrintLast Go.Proofs.YtggdanifobagpaaW.PrintMore

theorem pM {l : List S38} {i : Nat} (h : i < l.length) : rd_T38 l (i : Int) = l[i] := by simp [rd_T38, List.getD_eq_getElem?_getD, h]
theorem pI {l : List Int} {i : Nat} (h : i < l.length) : rd l (i : Int) = l[i] := by simp [rd, List.getD_eq_getElem?_getD, h]
theorem pP {i : Nat} (h : 0 < i) (h2 : i < 1000000000) : wrap64 ((i : Int) - 1) = ((i - 1 : Nat) : Int) := by unfold wrap64; omega
theorem few_some'' (a b : List S36) : ∃ t, crossbarref31_Few.f a b = some t ∧ (t = true → a.length ≤ 60 → b.length ≤ 60) := by
  unfold crossbarref31_Few.f
  by_cases h1 : (a.length : Int) ≤ 60
  · rw [if_pos h1]
    by_cases h2 : (b.length : Int) ≤ 60
    · rw [if_pos h2]
      exact ⟨true, rfl, fun _ _ => by omega⟩
    · rw [if_neg h2, if_neg (by omega)]
      exact ⟨false, rfl, fun h => by cases h⟩
  · rw [if_neg h1]
    split
    · split
      · exact ⟨_, rfl, fun _ h => absurd h (by omega)⟩
      · exact ⟨false, rfl, fun h => by cases h⟩
    · exact ⟨false, rfl, fun h => by cases h⟩
theorem cov_l1 (a b : List S36) (u : Int) (c : List Int) (m : List S38) (hn : m.length ≤ 100000) (hc : c.length ≤ 100000)
    (hs : m.Pairwise (fun a b => a.f1 ≤ b.f1)) (hk : ∀ x ∈ m, 1 ≤ x.f0 ∧ x.f0 ≤ 5 ∧ (x.f0 = 1 → x.f3 = 0) ∧ (x.f0 = 2 → x.f2 = 0))
    (K : Nat) (hl : ∀ k, K ≤ k → crossbarlaw31_legs.f k a b = some ((c.length + m.length : Nat) : Int)) :
    ∀ (d i k : Nat), m.length - i = d → i ≤ m.length → K + d < k → crossbarlaw31_SettleCoversLegs.l1 k a b (i : Int) u c m = some true := by
  intro d
  induction d with
  | zero =>
    intro i k hd hi hK
    obtain ⟨k, rfl⟩ : ∃ q, k = q + 1 := ⟨k - 1, by omega⟩
    simp only [crossbarlaw31_SettleCoversLegs.l1]
    rw [if_neg (by omega), hl k (by omega), Option.bind_some]
    have e : wrap64 ((c.length : Int) + (m.length : Int)) = ((c.length + m.length : Nat) : Int) := by unfold wrap64; omega
    rw [e]
    simp
  | succ d ih =>
    intro i k hd hi hK
    obtain ⟨k, rfl⟩ : ∃ q, k = q + 1 := ⟨k - 1, by omega⟩
    have hi' : i < m.length := by omega
    have hgo := ih (i + 1) k (by omega) (by omega) (by omega)
    obtain ⟨h1, h5, hA, hB⟩ := hk m[i] (List.getElem_mem hi')
    simp only [crossbarlaw31_SettleCoversLegs.l1]
    rw [if_pos (by omega), if_pos (by omega), pM hi', pS (i := i) (by omega)]
    generalize hG : (if m[i].f0 < 1 then some false else _ : Option Bool) = G
    have eG : G = some true := by
      rw [← hG, if_neg (by omega), if_neg (by omega)]
      by_cases c1 : m[i].f0 = 1
      · rw [if_pos c1, if_pos (hA c1), if_neg (by omega)]
        exact hgo
      · rw [if_neg c1]
        by_cases c2 : m[i].f0 = 2
        · rw [if_pos c2, if_pos (hB c2)]
          exact hgo
        · rw [if_neg c2]
          exact hgo
    by_cases h0 : (i : Int) > 0
    · have hp : m[i - 1].f1 ≤ m[i].f1 := List.pairwise_iff_getElem.1 hs (i - 1) i (by omega) hi' (by omega)
      rw [if_pos h0, pP (by omega) (by omega), if_pos (by omega), if_pos (by omega), pM (by omega), if_neg (by omega)]
      exact eG
    · rw [if_neg h0]
      exact eG
theorem cov_l0 (a b : List S36) (u : Int) (c : List Int) (m : List S38) (hc : c.length ≤ 100000) (hs : c.Pairwise (fun a b => a ≤ b))
    (K : Nat) (hl : ∀ k, K ≤ k → crossbarlaw31_SettleCoversLegs.l1 k a b 0 u c m = some true) :
    ∀ (d i k : Nat), c.length - i = d → 1 ≤ i → K + d < k → crossbarlaw31_SettleCoversLegs.l0 k a b (i : Int) u c m = some true := by
  intro d
  induction d with
  | zero =>
    intro i k hd hi hK
    obtain ⟨k, rfl⟩ : ∃ q, k = q + 1 := ⟨k - 1, by omega⟩
    simp only [crossbarlaw31_SettleCoversLegs.l0]
    rw [if_neg (by omega)]
    exact hl k (by omega)
  | succ d ih =>
    intro i k hd hi hK
    obtain ⟨k, rfl⟩ : ∃ q, k = q + 1 := ⟨k - 1, by omega⟩
    have hi' : i < c.length := by omega
    have hp : c[i - 1] ≤ c[i] := List.pairwise_iff_getElem.1 hs (i - 1) i (by omega) hi' (by omega)
    simp only [crossbarlaw31_SettleCoversLegs.l0]
    rw [if_pos (by omega), pP (by omega) (by omega), if_pos (by omega), if_pos (by omega), if_pos (by omega), pI (by omega), pI hi', if_neg (by omega), pS (i := i) (by omega)]
    exact ih (i + 1) k (by omega) (by omega) (by omega)
theorem SettleCoversLegs (a b : List S36) (tol : Int) : ∃ k, crossbarlaw31_SettleCoversLegs.f k a b tol = some true := by
  have hsane : crossbarlaw31_sane.f = some true := rfl
  have jt : ∀ k, crossbarlaw31_SettleCoversLegs.j0 (k + 1) a b tol true = some true := fun k => by
    simp only [crossbarlaw31_SettleCoversLegs.j0, if_true]
  unfold crossbarlaw31_SettleCoversLegs.f
  rw [hsane]
  simp only [Option.bind_some, if_true]
  obtain ⟨t, ht, hlen⟩ := few_some'' a b
  rw [ht]
  simp only [Option.bind_some]
  cases t with
  | false =>
    refine ⟨1, ?_⟩
    simp only [Bool.false_eq_true, if_false]
    exact jt 0
  | true =>
    simp only [if_true]
    by_cases h : (a.length : Int) > 60
    · rw [decide_eq_true h]
      exact ⟨1, jt 0⟩
    · rw [decide_eq_false h]
      have ha : a.length ≤ 60 := by omega
      have hb := hlen rfl ha
      have hm := f_eq a b (by omega) (by omega) tol
      by_cases hz : (matchL a b tol).2.2.2 = 0
      · have hf := matchL_zero hz
        obtain ⟨K, hK⟩ := legs_eq hf (by omega) (by omega)
        have hks := keysL_sorted a b
        have hl := setL_lens tol (LL a b) (keysL a b)
        have hkl := keysL_len a b
        rw [matchL_fine hf] at hm
        refine ⟨K + 1000, ?_⟩
        show crossbarlaw31_SettleCoversLegs.j0 ((K + 999) + 1) a b tol false = some true
        simp only [crossbarlaw31_SettleCoversLegs.j0, Bool.false_eq_true, if_false]
        rw [hm, Option.bind_some]
        simp only [if_true]
        have h1 := cov_l1 a b (wrap64 (setL tol (LL a b) (keysL a b)).u) (setL tol (LL a b) (keysL a b)).calls (setL tol (LL a b) (keysL a b)).mis (by omega) (by omega)
          (mis_sorted tol _ hks) (mis_kind tol _ _) K (fun k hk => by rw [hK k hk, hl])
        have h0 := cov_l0 a b (wrap64 (setL tol (LL a b) (keysL a b)).u) (setL tol (LL a b) (keysL a b)).calls (setL tol (LL a b) (keysL a b)).mis (by omega)
          (calls_sorted tol _ hks) (K + 200) (fun k hk => h1 _ 0 k rfl (Nat.zero_le _) (by omega))
        exact h0 _ 1 (K + 999) rfl (Nat.le_refl _) (by omega)
      · refine ⟨1, ?_⟩
        show crossbarlaw31_SettleCoversLegs.j0 (0 + 1) a b tol false = some true
        simp only [crossbarlaw31_SettleCoversLegs.j0, Bool.false_eq_true, if_false]
        rw [hm, Option.bind_some, if_neg hz]
end Go.Proofs.Ytggdanifobagpaa.Pure
