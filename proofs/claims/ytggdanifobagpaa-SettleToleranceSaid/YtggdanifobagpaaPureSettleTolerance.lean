/- Plain law: greater tolerances. -/
import Derived.Test.YtggdanifobagpaaEPlainSet
import Derived.Test.YtggdanifobagpaaQTolP
namespace Go.Proofs.Ytggdanifobagpaa.Pure
set_option linter.unusedVariables false
set_option linter.unusedSimpArgs false
open Go.RowKit Go.Proofs.Ytggdanifobagpaa.Q Go.Proofs.Ytggdanifobagpaa.Ext Go.Proofs.YtggdanifobagpaaW.PrintWords Go.Proofs.YtggdanifobagpaaW.PrintLast Go.Proofs.YtggdanifobagpaaW.PrintMore

theorem bits_255 (x : Int) : 0 ≤ Go.bits .and .i64 x 255 ∧ Go.bits .and .i64 x 255 ≤ 255 := by
  have h : (BitVec.ofInt 64 x &&& BitVec.ofInt 64 255).toNat ≤ 255 := by
    rw [BitVec.toNat_and]
    have e : (BitVec.ofInt 64 255).toNat = 255 := by decide
    rw [e]
    exact Nat.and_le_right
  have e : Go.bits .and .i64 x 255 = IntKind.i64.wrap ((BitVec.ofInt 64 x &&& BitVec.ofInt 64 255).toNat : Int) := rfl
  rw [e, IntKind.wrap_i64]
  omega
theorem tS {i : Nat} (h : i < 1000000000) : wrap64 ((i : Int) + 1) = ((i + 1 : Nat) : Int) := by unfold wrap64; omega
theorem tM {l : List S38} {i : Nat} (h : i < l.length) : rd_T38 l (i : Int) = l[i] := by simp [rd_T38, List.getD_eq_getElem?_getD, h]
theorem count_l0 (l : List S38) (hn : l.length ≤ 100000) (c : Int) : ∀ (d i k : Nat) (n : Nat), l.length - i = d → i ≤ l.length → d < k → n ≤ i →
    crossbarlaw31_count.l0 k l c (n : Int) (i : Int) = some ((n + ((l.drop i).filter (fun m => decide (m.f0 = c))).length : Nat) : Int) := by
  intro d
  induction d with
  | zero =>
    intro i k n hd hi hk hni
    obtain ⟨k, rfl⟩ : ∃ q, k = q + 1 := ⟨k - 1, by omega⟩
    simp only [crossbarlaw31_count.l0]
    rw [if_neg (by omega), List.drop_of_length_le (by omega)]
    simp
  | succ d ih =>
    intro i k n hd hi hk hni
    obtain ⟨k, rfl⟩ : ∃ q, k = q + 1 := ⟨k - 1, by omega⟩
    have hi' : i < l.length := by omega
    simp only [crossbarlaw31_count.l0]
    rw [if_pos (by omega), if_pos (by omega), tM hi', List.drop_eq_getElem_cons hi', tS (i := i) (by omega)]
    by_cases h : l[i].f0 = c
    · rw [if_pos h, tS (i := n) (by omega), ih (i + 1) k (n + 1) (by omega) (by omega) (by omega) (by omega), List.filter_cons_of_pos (by simp [h]), List.length_cons]
      congr 2
      omega
    · rw [if_neg h, ih (i + 1) k n (by omega) (by omega) (by omega) (by omega), List.filter_cons_of_neg (by simp [h])]
theorem count_eq (l : List S38) (hn : l.length ≤ 100000) (c : Int) {k : Nat} (hk : l.length < k) : crossbarlaw31_count.f k l c = some ((l.filter (fun m => decide (m.f0 = c))).length : Int) := by
  unfold crossbarlaw31_count.f
  have := count_l0 l hn c l.length 0 k 0 rfl (Nat.zero_le _) hk (Nat.le_refl _)
  simpa using this
theorem mis_count (tol : Int) (L : LegsL) (ks : List Key) (c : Int) (hc : c ≠ 0) : ((setL tol L ks).mis.filter (fun m => decide (m.f0 = c))).length = ks.countP (fun k => decide (kd tol L k = c)) := by
  rw [setL_eq, List.filter_map, List.length_map, List.filter_filter, List.countP_eq_length_filter]
  refine congrArg List.length (List.filter_congr fun k _ => ?_)
  simp only [Function.comp, mkM, zz]
  by_cases h : kd tol L k = c
  · have : kd tol L k ≠ 0 := by omega
    simp [h, hc]
  · simp [h]
theorem calls_count (tol : Int) (L : LegsL) (ks : List Key) : (setL tol L ks).calls.length = ks.countP (fun k => decide (kd tol L k = 0)) := by
  rw [setL_eq, List.length_map, List.countP_eq_length_filter]
  rfl
/-- What a greater tolerance may do to a leg. -/
theorem kind_more {tol tol' : Int} (h : tol ≤ tol') (x y : List S36) :
    (kindOf tol x y = 1 ↔ kindOf tol' x y = 1) ∧ (kindOf tol x y = 2 ↔ kindOf tol' x y = 2) ∧ (kindOf tol x y = 5 ↔ kindOf tol' x y = 5) ∧ (kindOf tol' x y = 3 → kindOf tol x y = 3) ∧ (kindOf tol x y = 0 → kindOf tol' x y = 0) := by
  rw [kind_cases, kind_cases]
  by_cases hy : y = []
  · simp [hy]
  · rw [if_neg hy, if_neg hy]
    by_cases hx : x = []
    · simp [hx]
    · rw [if_neg hx, if_neg hx]
      by_cases hb : (sumB x || sumB y) = true
      · rw [if_pos hb, if_pos hb]
        simp
      · rw [if_neg hb, if_neg hb]
        generalize max (durOf x - durOf y) (-(durOf x - durOf y)) = D
        by_cases h1 : tol < D
        · rw [if_pos h1]
          by_cases h2 : tol' < D
          · rw [if_pos h2]; simp
          · rw [if_neg h2]
            split <;> simp
        · have h2 : ¬ tol' < D := by omega
          rw [if_neg h1, if_neg h2]
          split <;> simp
theorem tol_law (a b : List S36) {tol t2 : Int} (h0 : 0 ≤ tol) (h1 : tol ≤ t2) (h2 : t2 ≤ 1099511627776) :
    (matchL a b tol).2.2.2 = (matchL a b t2).2.2.2 ∧
    (∀ c : Int, (c = 1 ∨ c = 2 ∨ c = 5) → ((matchL a b tol).2.2.1.filter (fun m => decide (m.f0 = c))).length = ((matchL a b t2).2.2.1.filter (fun m => decide (m.f0 = c))).length) ∧
    ((matchL a b t2).2.2.1.filter (fun m => decide (m.f0 = 3))).length ≤ ((matchL a b tol).2.2.1.filter (fun m => decide (m.f0 = 3))).length ∧
    (matchL a b tol).2.1.length ≤ (matchL a b t2).2.1.length := by
  by_cases hf : Fine a b tol
  · have hf2 : Fine a b t2 := ⟨by omega, h2, hf.2.2⟩
    rw [matchL_fine hf, matchL_fine hf2]
    refine ⟨rfl, fun c hc => ?_, ?_, ?_⟩
    · show ((setL tol (LL a b) (keysL a b)).mis.filter (fun m => decide (m.f0 = c))).length = ((setL t2 (LL a b) (keysL a b)).mis.filter (fun m => decide (m.f0 = c))).length
      rw [mis_count _ _ _ c (by omega), mis_count _ _ _ c (by omega)]
      refine List.countP_congr fun k _ => ?_
      obtain ⟨m1, m2, m5, _⟩ := kind_more h1 (LL a b k false) (LL a b k true)
      rw [decide_eq_true_iff, decide_eq_true_iff]
      rcases hc with rfl | rfl | rfl
      · exact m1
      · exact m2
      · exact m5
    · show ((setL t2 (LL a b) (keysL a b)).mis.filter (fun m => decide (m.f0 = 3))).length ≤ ((setL tol (LL a b) (keysL a b)).mis.filter (fun m => decide (m.f0 = 3))).length
      rw [mis_count _ _ _ 3 (by omega), mis_count _ _ _ 3 (by omega)]
      refine List.countP_mono_left fun k _ hk => ?_
      rw [decide_eq_true_iff] at hk ⊢
      exact (kind_more h1 (LL a b k false) (LL a b k true)).2.2.2.1 hk
    · show (setL tol (LL a b) (keysL a b)).calls.length ≤ (setL t2 (LL a b) (keysL a b)).calls.length
      rw [calls_count, calls_count]
      refine List.countP_mono_left fun k _ hk => ?_
      rw [decide_eq_true_iff] at hk ⊢
      exact (kind_more h1 (LL a b k false) (LL a b k true)).2.2.2.2 hk
  · have e : matchL a b tol = matchL a b t2 := by
      have hc : (tol < 0 ∨ 1099511627776 < tol ∨ allOk a = false ∨ allOk b = false) ↔ (t2 < 0 ∨ 1099511627776 < t2 ∨ allOk a = false ∨ allOk b = false) := by
        constructor
        · rintro (h | h | h | h)
          · omega
          · omega
          · exact .inr (.inr (.inl h))
          · exact .inr (.inr (.inr h))
        · rintro (h | h | h | h)
          · omega
          · omega
          · exact .inr (.inr (.inl h))
          · exact .inr (.inr (.inr h))
      by_cases h1 : tol < 0 ∨ 1099511627776 < tol ∨ allOk a = false ∨ allOk b = false
      · unfold matchL
        rw [if_pos h1, if_pos (hc.1 h1)]
      · by_cases h3 : limE a ≠ 0 ∨ limE b ≠ 0
        · unfold matchL
          rw [if_neg h1, if_neg (fun h => h1 (hc.2 h)), if_pos h3, if_pos h3]
        · exfalso
          refine hf ⟨by omega, by omega, ?_, ?_, by omega, by omega⟩
          · cases e : allOk a with
            | true => rfl
            | false => exact absurd (.inr (.inr (.inl e))) h1
          · cases e : allOk b with
            | true => rfl
            | false => exact absurd (.inr (.inr (.inr e))) h1
    rw [e]
    exact ⟨rfl, fun _ _ => rfl, Nat.le_refl _, Nat.le_refl _⟩

theorem to_j1 (a b : List S36) (tol kk : Int) (f : Bool) (ha : a.length ≤ 60) (hb : b.length ≤ 60) (hk0 : 0 ≤ kk) (hk1 : kk ≤ 255) (hf : f = false → 0 ≤ tol ∧ tol ≤ 1099511627776 - kk) (k : Nat) (hk : 1000 < k) :
    crossbarlaw31_SettleTolerance.j1 k a b tol kk f = some true := by
  obtain ⟨k, rfl⟩ : ∃ q, k = q + 1 := ⟨k - 1, by omega⟩
  cases f with
  | true => simp only [crossbarlaw31_SettleTolerance.j1, if_true]
  | false =>
    obtain ⟨h0, h1⟩ := hf rfl
    simp only [crossbarlaw31_SettleTolerance.j1, Bool.false_eq_true, if_false]
    have ew : wrap64 (tol + kk) = tol + kk := wrap64_id _ (by omega) (by omega)
    obtain ⟨e0, e1, e3, e4⟩ := tol_law a b (tol := tol) (t2 := tol + kk) h0 (by omega) (by omega)
    have l1 := matchL_lens a b tol
    have l2 := matchL_lens a b (tol + kk)
    rw [ew, f_eq a b (by omega) (by omega), Option.bind_some, f_eq a b (by omega) (by omega), Option.bind_some, if_pos e0,
      count_eq _ (by omega) 1 (by omega), Option.bind_some, count_eq _ (by omega) 1 (by omega), Option.bind_some, if_pos (by rw [e1 1 (.inl rfl)]),
      count_eq _ (by omega) 2 (by omega), Option.bind_some, count_eq _ (by omega) 2 (by omega), Option.bind_some, if_pos (by rw [e1 2 (.inr (.inl rfl))]),
      count_eq _ (by omega) 5 (by omega), Option.bind_some, count_eq _ (by omega) 5 (by omega), Option.bind_some, if_pos (by rw [e1 5 (.inr (.inr rfl))]),
      count_eq _ (by omega) 3 (by omega), Option.bind_some, count_eq _ (by omega) 3 (by omega), Option.bind_some, if_pos (by omega)]
    rw [decide_eq_true (by omega)]
theorem few_some' (a b : List S36) : ∃ t, crossbarref31_Few.f a b = some t ∧ (t = true → a.length ≤ 60 → b.length ≤ 60) := by
  unfold crossbarref31_Few.f
  by_cases h1 : (a.length : Int) ≤ 60
  · rw [if_pos h1]
    by_cases h2 : (b.length : Int) ≤ 60
    · rw [if_pos h2]
      exact ⟨true, rfl, fun _ _ => by omega⟩
    · rw [if_neg h2, if_neg (by omega)]
      exact ⟨false, rfl, fun h => by cases h⟩
  · rw [if_neg h1]
    split
    · split
      · exact ⟨_, rfl, fun _ h => absurd h (by omega)⟩
      · exact ⟨false, rfl, fun h => by cases h⟩
    · exact ⟨false, rfl, fun h => by cases h⟩
theorem SettleTolerance (a b : List S36) (tol more : Int) : ∃ k, crossbarlaw31_SettleTolerance.f k a b tol more = some true := by
  refine ⟨3000, ?_⟩
  have hsane : crossbarlaw31_sane.f = some true := rfl
  have jt : ∀ k, crossbarlaw31_SettleTolerance.j0 (k + 1) a b tol more true = some true := fun k => by
    simp only [crossbarlaw31_SettleTolerance.j0, if_true]
  unfold crossbarlaw31_SettleTolerance.f
  rw [hsane]
  simp only [Option.bind_some, if_true]
  obtain ⟨t, ht, hlen⟩ := few_some' a b
  rw [ht]
  simp only [Option.bind_some]
  cases t with
  | false =>
    simp only [Bool.false_eq_true, if_false]
    exact jt 2999
  | true =>
    simp only [if_true]
    by_cases h : (a.length : Int) > 60
    · rw [decide_eq_true h]
      exact jt 2999
    · rw [decide_eq_false h]
      have ha : a.length ≤ 60 := by omega
      have hb := hlen rfl ha
      obtain ⟨k0, k1⟩ := bits_255 more
      show crossbarlaw31_SettleTolerance.j0 (2999 + 1) a b tol more false = some true
      simp only [crossbarlaw31_SettleTolerance.j0, Bool.false_eq_true, if_false]
      by_cases hn : tol < 0
      · rw [if_pos hn]
        exact to_j1 a b tol _ true ha hb k0 k1 (fun h => by cases h) 2999 (by omega)
      · rw [if_neg hn]
        have ew : wrap64 (1099511627776 - Go.bits .and .i64 more 255) = 1099511627776 - Go.bits .and .i64 more 255 := wrap64_id _ (by omega) (by omega)
        rw [ew]
        refine to_j1 a b tol _ _ ha hb k0 k1 (fun h => ?_) 2999 (by omega)
        have := of_decide_eq_false h
        omega
end Go.Proofs.Ytggdanifobagpaa.Pure
