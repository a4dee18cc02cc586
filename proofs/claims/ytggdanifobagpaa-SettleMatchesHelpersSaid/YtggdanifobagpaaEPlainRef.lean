/- Plain laws: the reference's Ints, Rows, Matrix and Net, and Mirror, answer as settle's do. -/
import Derived.Test.YtggdanifobagpaaEPlainNet
import Derived.Test.YtggdanifobagpaaQx5
import Derived.Test.YtggdanifobagpaaQx8
namespace Go.Proofs.Ytggdanifobagpaa.Pure
set_option linter.unusedVariables false
set_option linter.unusedSimpArgs false
open Go.RowKit Go.Proofs.Ytggdanifobagpaa.Q Go.Proofs.Ytggdanifobagpaa.Ext Go.Proofs.YtggdanifobagpaaW.PrintWords Go.Proofs.YtggdanifobagpaaW.PrintLast Go.Proofs.YtggdanifobagpaaW.PrintMore

theorem getD_int {l : List Int} {i : Nat} (h : i < l.length) : l.getD i 0 = l[i] := by simp [List.getD_eq_getElem?_getD, h]
theorem getD_row {l : List (List Int)} {i : Nat} (h : i < l.length) : l.getD i [] = l[i] := by simp [List.getD_eq_getElem?_getD, h]

theorem ints_l0 (a b : List Int) (hl : a.length = b.length) (hn : a.length ≤ 100000) : ∀ (d i k : Nat), a.length - i = d → i ≤ a.length → d < k → crossbarref31_Ints.l0 k a b (i : Int) = some (decide (a.drop i = b.drop i)) := by
  intro d
  induction d with
  | zero =>
    intro i k hd hi hk
    obtain ⟨k, rfl⟩ : ∃ q, k = q + 1 := ⟨k - 1, by omega⟩
    simp only [crossbarref31_Ints.l0]
    rw [if_neg (by omega), List.drop_of_length_le (by omega), List.drop_of_length_le (by omega)]; simp
  | succ d ih =>
    intro i k hd hi hk
    obtain ⟨k, rfl⟩ : ∃ q, k = q + 1 := ⟨k - 1, by omega⟩
    have ha : i < a.length := by omega
    have hb : i < b.length := by omega
    simp only [crossbarref31_Ints.l0]
    rw [if_pos (by omega), if_pos (by omega), if_pos (by omega), rd_nat, rd_nat, getD_int ha, getD_int hb, wsucc (by omega), List.drop_eq_getElem_cons ha, List.drop_eq_getElem_cons hb]
    by_cases e : a[i] = b[i]
    · rw [if_pos e, ih (i + 1) k (by omega) (by omega) (by omega)]
      refine congrArg some ?_
      rw [decide_eq_decide, List.cons.injEq]
      exact ⟨fun h => ⟨e, h⟩, fun h => h.2⟩
    · rw [if_neg e]
      refine congrArg some ?_
      symm
      rw [decide_eq_false_iff_not, List.cons.injEq]
      exact fun h => e h.1
theorem ints_eq (a b : List Int) (hn : a.length ≤ 100000) {k : Nat} (hk : a.length < k) : crossbarref31_Ints.f k a b = some (decide (a = b)) := by
  unfold crossbarref31_Ints.f
  by_cases hl : a.length = b.length
  · rw [if_pos (by omega)]
    have := ints_l0 a b hl hn a.length 0 k rfl (Nat.zero_le _) hk
    simpa using this
  · rw [if_neg (by omega), decide_eq_false (fun h => hl (by rw [h]))]

theorem rows_l0 (a b : List (List Int)) (hl : a.length = b.length) (hn : a.length ≤ 1000) (hr : ∀ r ∈ a, r.length ≤ 1000) : ∀ (d i k : Nat), a.length - i = d → i ≤ a.length → d + 1002 < k → crossbarref31_Rows.l0 k a b (i : Int) = some (decide (a.drop i = b.drop i)) := by
  intro d
  induction d with
  | zero =>
    intro i k hd hi hk
    obtain ⟨k, rfl⟩ : ∃ q, k = q + 1 := ⟨k - 1, by omega⟩
    simp only [crossbarref31_Rows.l0]
    rw [if_neg (by omega), List.drop_of_length_le (by omega), List.drop_of_length_le (by omega)]; simp
  | succ d ih =>
    intro i k hd hi hk
    obtain ⟨k, rfl⟩ : ∃ q, k = q + 1 := ⟨k - 1, by omega⟩
    have ha : i < a.length := by omega
    have hb : i < b.length := by omega
    have hra := hr _ (List.getElem_mem ha)
    simp only [crossbarref31_Rows.l0]
    rw [if_pos (by omega), if_pos (by omega), if_pos (by omega), rdL_nat, rdL_nat, getD_row ha, getD_row hb, wsucc (by omega), List.drop_eq_getElem_cons ha, List.drop_eq_getElem_cons hb, ints_eq _ _ (by omega) (by omega)]
    simp only [Option.bind_some]
    by_cases e : a[i] = b[i]
    · rw [decide_eq_true e, if_pos rfl, ih (i + 1) k (by omega) (by omega) (by omega)]
      refine congrArg some ?_
      rw [decide_eq_decide, List.cons.injEq]
      exact ⟨fun h => ⟨e, h⟩, fun h => h.2⟩
    · rw [decide_eq_false e, if_neg (by decide)]
      refine congrArg some ?_
      symm
      rw [decide_eq_false_iff_not, List.cons.injEq]
      exact fun h => e h.1
theorem rows_eq (a b : List (List Int)) (hn : a.length ≤ 1000) (hr : ∀ r ∈ a, r.length ≤ 1000) {k : Nat} (hk : 2100 ≤ k) : crossbarref31_Rows.f k a b = some (decide (a = b)) := by
  unfold crossbarref31_Rows.f
  by_cases hl : a.length = b.length
  · rw [if_pos (by omega)]
    have := rows_l0 a b hl hn hr a.length 0 k rfl (Nat.zero_le _) (by omega)
    simpa using this
  · rw [if_neg (by omega), decide_eq_false (fun h => hl (by rw [h]))]

/-! ### Matrix -/
theorem mat_l1 (o : List (List Int)) (hn : o.length ≤ 64) (i : Nat) (hi : i < o.length) (hl : (o.getD i []).length = o.length) (R : Option Bool) (need : Nat)
    (next : (∀ x ∈ o.getD i [], 0 ≤ x ∧ x ≤ 1152921504606846976) → ∀ k, need ≤ k → crossbarref31_Matrix.l0 k o (o.length : Int) ((i + 1 : Nat) : Int) = R)
    (bad : ¬ (∀ x ∈ o.getD i [], 0 ≤ x ∧ x ≤ 1152921504606846976) → R = some false) :
    ∀ (e j k : Nat), o.length - j = e → j ≤ o.length → need + e + 1 ≤ k → (∀ x ∈ (o.getD i []).take j, 0 ≤ x ∧ x ≤ 1152921504606846976) → crossbarref31_Matrix.l1 k o (o.length : Int) (i : Int) (j : Int) = R := by
  intro e
  induction e with
  | zero =>
    intro j k he hj hk h
    obtain ⟨k, rfl⟩ : ∃ q, k = q + 1 := ⟨k - 1, by omega⟩
    simp only [crossbarref31_Matrix.l1]
    rw [if_neg (by omega), wsucc (by omega)]
    exact next (fun x hx => h x (by rw [List.take_of_length_le (by omega)]; exact hx)) k (by omega)
  | succ e ih =>
    intro j k he hj hk h
    obtain ⟨k, rfl⟩ : ∃ q, k = q + 1 := ⟨k - 1, by omega⟩
    have hj' : j < (o.getD i []).length := by omega
    simp only [crossbarref31_Matrix.l1]
    rw [if_pos (by omega), if_pos (by omega), if_pos (by omega), if_pos (by omega), rdL_nat, if_pos (by omega), rd_nat, getD_int hj', wsucc (by omega)]
    by_cases h1 : (o.getD i [])[j] < 0
    · rw [if_pos h1, bad]
      intro hb
      have := (hb _ (List.getElem_mem hj')).1
      omega
    · rw [if_neg h1]
      by_cases h2 : (o.getD i [])[j] > 1152921504606846976
      · rw [if_pos h2, bad]
        intro hb
        have := (hb _ (List.getElem_mem hj')).2
        omega
      · rw [if_neg h2]
        refine ih (j + 1) k (by omega) (by omega) (by omega) fun x hx => ?_
        rw [List.take_succ_eq_append_getElem hj', List.mem_append] at hx
        rcases hx with hx | hx
        · exact h x hx
        · rw [List.mem_singleton] at hx; subst hx; exact ⟨by omega, by omega⟩

theorem mat_l0 (o : List (List Int)) (h1 : 1 ≤ o.length) (hn : o.length ≤ 64) (R : Option Bool) (good : MatOk o → R = some true) (bad : ¬ MatOk o → R = some false) :
    ∀ (d i k : Nat), o.length - i = d → i ≤ o.length → 70 * d + 10 ≤ k → (∀ a, a < i → RowOk o.length a (o.getD a [])) → crossbarref31_Matrix.l0 k o (o.length : Int) (i : Int) = R := by
  intro d
  induction d with
  | zero =>
    intro i k hd hi hk h
    obtain ⟨k, rfl⟩ : ∃ q, k = q + 1 := ⟨k - 1, by omega⟩
    simp only [crossbarref31_Matrix.l0]
    rw [if_neg (by omega), good ⟨h1, hn, fun a ha => h a (by omega)⟩]
  | succ d ih =>
    intro i k hd hi hk h
    obtain ⟨k, rfl⟩ : ∃ q, k = q + 2 := ⟨k - 2, by omega⟩
    have hi' : i < o.length := by omega
    simp only [crossbarref31_Matrix.l0]
    rw [if_pos (by omega), if_pos (by omega), if_pos (by omega), rdL_nat]
    by_cases hl : (o.getD i []).length = o.length
    · rw [if_pos (by omega), if_pos (by omega), rd_nat]
      simp only [crossbarref31_Matrix.j2]
      by_cases h0 : (o.getD i []).getD i 0 = 0
      · rw [if_neg (by rw [h0]; decide)]
        refine mat_l1 o hn i hi' hl R (70 * d + 10) (fun hx k hk => ih (i + 1) k (by omega) (by omega) hk fun a ha => ?_) (fun hx => bad fun hm => hx (hm.2.2 i hi').2.2) o.length 0 k (by omega) (by omega) (by omega) (by simp)
        by_cases hai : a = i
        · subst hai; exact ⟨hl, h0, hx⟩
        · exact h a (by omega)
      · rw [if_pos (by simpa using h0), bad (fun hm => h0 (hm.2.2 i hi').2.1)]
    · rw [if_neg (by omega)]
      simp only [crossbarref31_Matrix.j2, if_true]
      rw [bad (fun hm => hl (hm.2.2 i hi').1)]
/-- **The reference's Matrix.** -/
theorem mat_any (o : List (List Int)) {k : Nat} (hk : 5000 ≤ k) : (MatOk o → crossbarref31_Matrix.f k o = some true) ∧ (¬ MatOk o → crossbarref31_Matrix.f k o = some false) := by
  obtain ⟨k, rfl⟩ : ∃ q, k = q + 1 := ⟨k - 1, by omega⟩
  by_cases h1 : 1 ≤ o.length
  · by_cases hn : o.length ≤ 64
    · have hf : crossbarref31_Matrix.f (k + 1) o = crossbarref31_Matrix.l0 k o (o.length : Int) ((0 : Nat) : Int) := by
        unfold crossbarref31_Matrix.f
        rw [if_neg (by omega), decide_eq_false (by omega)]
        simp only [crossbarref31_Matrix.j0, Bool.false_eq_true, if_false]; rfl
      rw [hf]
      exact ⟨fun hm => mat_l0 o h1 hn _ (fun _ => rfl) (fun h => absurd hm h) o.length 0 k (by omega) (by omega) (by omega) (fun a ha => by omega),
        fun hm => mat_l0 o h1 hn _ (fun h => absurd h hm) (fun _ => rfl) o.length 0 k (by omega) (by omega) (by omega) (fun a ha => by omega)⟩
    · refine ⟨fun hm => absurd hm.2.1 hn, fun _ => ?_⟩
      unfold crossbarref31_Matrix.f
      rw [if_neg (by omega), decide_eq_true (by omega)]
      simp only [crossbarref31_Matrix.j0, if_true]
  · refine ⟨fun hm => absurd hm.1 h1, fun _ => ?_⟩
    unfold crossbarref31_Matrix.f
    rw [if_pos (by omega)]
    simp only [crossbarref31_Matrix.j0, if_true]
end Go.Proofs.Ytggdanifobagpaa.Pure
