/- Plain laws: Few, reversed, Ints and Same of equal settlements. -/
import Derived.Test.YtggdanifobagpaaQx3
import Derived.Test.YtggdanifobagpaaQx5
import Derived.Test.YtggdanifobagpaaEPlainMat
namespace Go.Proofs.Ytggdanifobagpaa.Pure
set_option linter.unusedVariables false
set_option linter.unusedSimpArgs false
open Go.RowKit Go.Proofs.Ytggdanifobagpaa.Q Go.Proofs.Ytggdanifobagpaa.Ext Go.Proofs.YtggdanifobagpaaW.PrintWords Go.Proofs.YtggdanifobagpaaW.PrintLast Go.Proofs.YtggdanifobagpaaW.PrintMore

theorem wS {i : Nat} (h : i < 1000000000) : wrap64 ((i : Int) + 1) = ((i + 1 : Nat) : Int) := by unfold wrap64; omega
theorem match_eq (a b : List S36) (tol : Int) (ha : a.length ≤ 1000000) (hb : b.length ≤ 1000000) : settle_Match.f a b tol = some (matchL a b tol) := f_eq a b ha hb tol
theorem mirror_eq (a : List S36) (own : Int) (ha : a.length ≤ 1000000) : settle_Mirror.f a own = some (mirL own a) := by
  unfold settle_Mirror.f
  rw [if_pos ha]
theorem few_some (a b : List S36) : ∃ t, crossbarref31_Few.f a b = some t ∧ (t = true → a.length ≤ 60 → b.length ≤ 60) := by
  unfold crossbarref31_Few.f
  by_cases h1 : (a.length : Int) ≤ 60
  · rw [if_pos h1]
    by_cases h2 : (b.length : Int) ≤ 60
    · rw [if_pos h2]
      exact ⟨true, rfl, fun _ _ => by omega⟩
    · rw [if_neg h2, if_neg (by omega)]
      exact ⟨false, rfl, fun h => by cases h⟩
  · rw [if_neg h1]
    split
    · split
      · exact ⟨_, rfl, fun _ h => absurd h (by omega)⟩
      · exact ⟨false, rfl, fun h => by cases h⟩
    · exact ⟨false, rfl, fun h => by cases h⟩
theorem ints_l (l : List Int) (hn : l.length ≤ 100000) : ∀ (d i k : Nat), l.length - i = d → i ≤ l.length → d < k → crossbarref31_Ints.l0 k l l (i : Int) = some true := by
  intro d
  induction d with
  | zero =>
    intro i k hd hi hk
    obtain ⟨k, rfl⟩ : ∃ q, k = q + 1 := ⟨k - 1, by omega⟩
    simp only [crossbarref31_Ints.l0]
    rw [if_neg (by omega)]
  | succ d ih =>
    intro i k hd hi hk
    obtain ⟨k, rfl⟩ : ∃ q, k = q + 1 := ⟨k - 1, by omega⟩
    simp only [crossbarref31_Ints.l0]
    rw [if_pos (by omega), if_pos (by omega), if_pos (by omega), if_pos trivial, wS (by omega)]
    exact ih (i + 1) k (by omega) (by omega) (by omega)
theorem ints_refl (l : List Int) (hn : l.length ≤ 100000) {k : Nat} (hk : l.length < k) : crossbarref31_Ints.f k l l = some true := by
  unfold crossbarref31_Ints.f
  rw [if_pos rfl]
  exact ints_l l hn l.length 0 k rfl (Nat.zero_le _) hk
theorem same_l (u : Int) (c : List Int) (m : List S38) (hn : m.length ≤ 100000) : ∀ (d i k : Nat), m.length - i = d → i ≤ m.length → d < k → crossbarref31_Same.l0 k (i : Int) u c m u c m = some true := by
  intro d
  induction d with
  | zero =>
    intro i k hd hi hk
    obtain ⟨k, rfl⟩ : ∃ q, k = q + 1 := ⟨k - 1, by omega⟩
    simp only [crossbarref31_Same.l0]
    rw [if_neg (by omega)]
  | succ d ih =>
    intro i k hd hi hk
    obtain ⟨k, rfl⟩ : ∃ q, k = q + 1 := ⟨k - 1, by omega⟩
    simp only [crossbarref31_Same.l0]
    rw [if_pos (by omega), if_pos (by omega), if_pos (by omega), if_neg (by simp), wS (by omega)]
    exact ih (i + 1) k (by omega) (by omega) (by omega)
theorem same_refl (u : Int) (c : List Int) (m : List S38) (hc : c.length ≤ 100000) (hn : m.length ≤ 100000) {k : Nat} (hk : c.length < k) (hk' : m.length + 1 < k) : crossbarref31_Same.f k u c m u c m = some true := by
  unfold crossbarref31_Same.f
  rw [if_pos rfl, ints_refl c hc hk]
  simp only [Option.bind_some, if_true]
  obtain ⟨k, rfl⟩ : ∃ q, k = q + 1 := ⟨k - 1, by omega⟩
  have e : ((m.length : Int) != (m.length : Int)) = false := by simp
  rw [e]
  simp only [crossbarref31_Same.j0, Bool.false_eq_true, if_false]
  exact same_l u c m hn m.length 0 k rfl (Nat.zero_le _) (by omega)
theorem rdT {l : List S36} {i : Nat} (h : i < l.length) : rd_T36 l (i : Int) = l[i] := by simp [rd_T36, List.getD_eq_getElem?_getD, h]
theorem rdM {l : List S38} {i : Nat} (h : i < l.length) : rd_T38 l (i : Int) = l[i] := by simp [rd_T38, List.getD_eq_getElem?_getD, h]
theorem rev_l (l : List S36) (hn : l.length ≤ 100000) : ∀ (i k : Nat) (x : List S36), i ≤ l.length → i < k → x.length + i ≤ 200000 → crossbarlaw31_reversed.l0 k l x ((i : Int) - 1) = some (x ++ (l.take i).reverse) := by
  intro i
  induction i with
  | zero =>
    intro k x hi hk hx
    obtain ⟨k, rfl⟩ : ∃ q, k = q + 1 := ⟨k - 1, by omega⟩
    simp only [crossbarlaw31_reversed.l0]
    rw [if_neg (by omega)]
    simp
  | succ i ih =>
    intro k x hi hk hx
    obtain ⟨k, rfl⟩ : ∃ q, k = q + 1 := ⟨k - 1, by omega⟩
    have e0 : (((i + 1 : Nat) : Int) - 1) = (i : Int) := by omega
    rw [e0]
    simp only [crossbarlaw31_reversed.l0]
    have e : wrap64 ((i : Int) - 1) = (i : Int) - 1 := by unfold wrap64; omega
    rw [if_pos (by omega), if_pos (by omega), if_pos (by omega), if_pos (by omega), rdT (by omega), e]
    rw [ih k _ (by omega) (by omega) (by rw [List.length_append, List.length_singleton]; omega)]
    rw [List.take_succ_eq_append_getElem (by omega), List.reverse_append]
    simp
theorem rev_eq (l : List S36) (hn : l.length ≤ 100000) {k : Nat} (hk : l.length < k) : crossbarlaw31_reversed.f k l = some l.reverse := by
  unfold crossbarlaw31_reversed.f
  have e : wrap64 ((l.length : Int) - 1) = (l.length : Int) - 1 := by unfold wrap64; omega
  rw [e, rev_l l hn l.length k [] (Nat.le_refl _) hk (by simp; omega)]
  simp
end Go.Proofs.Ytggdanifobagpaa.Pure
