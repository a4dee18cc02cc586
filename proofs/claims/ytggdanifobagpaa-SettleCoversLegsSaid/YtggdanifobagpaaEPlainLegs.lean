/- Plain laws: how many legs there are, and that a settlement's lists are in order. -/
import Derived.Test.YtggdanifobagpaaEPlainFirsts
import Derived.Test.YtggdanifobagpaaQLegs
namespace Go.Proofs.Ytggdanifobagpaa.Pure
set_option linter.unusedVariables false
set_option linter.unusedSimpArgs false
open Go.RowKit Go.Proofs.Ytggdanifobagpaa.Q Go.Proofs.Ytggdanifobagpaa.Ext Go.Proofs.YtggdanifobagpaaW.PrintWords Go.Proofs.YtggdanifobagpaaW.PrintLast Go.Proofs.YtggdanifobagpaaW.PrintMore

theorem legs_l1 (l : List S36) (hn : l.length ≤ 100000) (i : Nat) (hi : i < l.length) (n : Int) (k : Nat) :
    ∀ (d j m : Nat) (f : Bool), i - j = d → j ≤ i → m = k + d + 1 → crossbarlaw31_legs.l1 m l n (i : Int) f (j : Int) =
      (if (f && fresh ((l.take i).drop j) l[i]) = true then crossbarlaw31_legs.l0 k l (wrap64 (n + 1)) (wrap64 ((i : Int) + 1)) else crossbarlaw31_legs.l0 k l n (wrap64 ((i : Int) + 1))) := by
  intro d
  induction d with
  | zero =>
    intro j m f hd hj hm
    obtain rfl : m = k + 1 := by omega
    simp only [crossbarlaw31_legs.l1]
    rw [if_neg (by omega), List.drop_of_length_le (by rw [List.length_take]; omega)]
    simp [fresh]
  | succ d ih =>
    intro j m f hd hj hm
    obtain ⟨m, rfl⟩ : ∃ q, m = q + 1 := ⟨m - 1, by omega⟩
    have hj' : j < l.length := by omega
    have hd2 : (l.take i).drop j = l[j] :: (l.take i).drop (j + 1) := by
      rw [List.drop_eq_getElem_cons (by rw [List.length_take]; omega), List.getElem_take]
    simp only [crossbarlaw31_legs.l1]
    rw [if_pos (by omega), hd2]
    cases f with
    | false =>
      rw [if_neg (show ¬ (false = true) by simp), pS (i := j) (by omega), ih (j + 1) m false (by omega) (by omega) (by omega)]
      simp
    | true =>
      rw [if_pos (show true = true from rfl), if_pos (by omega), if_pos (by omega), if_pos (by omega), if_pos (by omega), pT hj', pT hi, pS (i := j) (by omega)]
      by_cases h : l[j].f0 = l[i].f0
      · rw [if_pos h, ih (j + 1) m _ (by omega) (by omega) (by omega)]
        have e : (l[j].f1 != l[i].f1) = !sameKey l[j] l[i] := by by_cases h1 : l[j].f1 = l[i].f1 <;> simp [sameKey, h, h1]
        have e2 : fresh (l[j] :: (l.take i).drop (j + 1)) l[i] = (!sameKey l[j] l[i] && fresh ((l.take i).drop (j + 1)) l[i]) := rfl
        rw [e, e2, Bool.true_and]
      · rw [if_neg h, ih (j + 1) m true (by omega) (by omega) (by omega)]
        have e : sameKey l[j] l[i] = false := by simp [sameKey, h]
        have e2 : fresh (l[j] :: (l.take i).drop (j + 1)) l[i] = (!sameKey l[j] l[i] && fresh ((l.take i).drop (j + 1)) l[i]) := rfl
        rw [e2, e, Bool.not_false, Bool.true_and, Bool.true_and]

theorem legs_l0 (l : List S36) (hn : l.length ≤ 100000) (hr : ∀ r ∈ l, 1 ≤ r.f1 ∧ r.f1 ≤ 3) :
    ∀ d i : Nat, l.length - i = d → i ≤ l.length → ∃ K, ∀ k, K ≤ k → crossbarlaw31_legs.l0 k l ((firsts (l.take i)).length : Int) (i : Int) = some ((firsts l).length : Int) := by
  intro d
  induction d with
  | zero =>
    intro i hd hi
    refine ⟨1, fun k hk => ?_⟩
    obtain ⟨k, rfl⟩ : ∃ q, k = q + 1 := ⟨k - 1, by omega⟩
    simp only [crossbarlaw31_legs.l0]
    rw [if_neg (by omega), List.take_of_length_le (by omega)]
  | succ d ih =>
    intro i hd hi
    obtain ⟨K, hK⟩ := ih (i + 1) (by omega) (by omega)
    refine ⟨K + i + 3, fun k hk => ?_⟩
    obtain ⟨m, rfl⟩ : ∃ m, k = m + 1 + 1 := ⟨k - 2, by omega⟩
    have hi' : i < l.length := by omega
    have hri := hr l[i] (List.getElem_mem hi')
    simp only [crossbarlaw31_legs.l0, crossbarlaw31_legs.j1]
    rw [if_pos (by omega), if_pos (by omega), pT hi']
    have hb := firsts_len (l.take i)
    rw [List.length_take] at hb
    generalize hn0 : (firsts (l.take i)).length = n at hb ⊢
    have e0 : (if l[i].f1 = 2 then crossbarlaw31_legs.l1 m l (n : Int) (i : Int) true 0 else crossbarlaw31_legs.l1 m l (n : Int) (i : Int) (l[i].f1 == 3) 0) = crossbarlaw31_legs.l1 m l (n : Int) (i : Int) (decide (l[i].f1 ≠ 1)) 0 := by
      by_cases h2 : l[i].f1 = 2
      · rw [if_pos h2, h2]; rfl
      · rw [if_neg h2]
        have : l[i].f1 = 1 ∨ l[i].f1 = 3 := by omega
        rcases this with h | h
        · rw [h]; rfl
        · rw [h]; rfl
    have e1 : crossbarlaw31_legs.l1 m l (n : Int) (i : Int) (decide (l[i].f1 ≠ 1)) 0 = _ := legs_l1 l hn i hi' (n : Int) (m - i - 1) i 0 m (decide (l[i].f1 ≠ 1)) (by omega) (Nat.zero_le _) (by omega)
    rw [e0, e1, List.drop_zero, pS (i := i) (by omega), pS (i := n) (by omega)]
    have es : firsts (l.take (i + 1)) = addK (firsts (l.take i)) l[i] := by rw [List.take_succ_eq_append_getElem hi', firsts_snoc]
    have hk' := hK (m - i - 1) (by omega)
    by_cases hc : (decide (l[i].f1 ≠ 1) && fresh (l.take i) l[i]) = true
    · rw [if_pos hc]
      rw [Bool.and_eq_true, decide_eq_true_iff] at hc
      have h2 := (fresh_iff _ _ hc.1).1 hc.2
      have el : (firsts (l.take (i + 1))).length = n + 1 := by
        rw [es]
        unfold addK
        rw [if_neg (by rintro (h | h); exact hc.1 h; exact h2 h), List.length_append, hn0]
        rfl
      rw [el] at hk'
      exact hk'
    · rw [if_neg hc]
      have el : (firsts (l.take (i + 1))).length = n := by
        rw [es]
        unfold addK
        rw [if_pos, hn0]
        by_cases h1 : l[i].f1 = 1
        · exact .inl h1
        · right
          refine Classical.byContradiction fun h2 => hc ?_
          rw [(fresh_iff _ _ h1).2 h2, decide_eq_true h1]
          rfl
      rw [el] at hk'
      exact hk'
theorem legs_eq {a b : List S36} {tol : Int} (hf : Fine a b tol) (ha : a.length ≤ 10000) (hb : b.length ≤ 10000) : ∃ K, ∀ k, K ≤ k → crossbarlaw31_legs.f k a b = some ((keysL a b).length : Int) := by
  have hm := Ext.mir_len 0 b
  have hlen : (a ++ mirL 0 b).length ≤ 100000 := by rw [List.length_append]; omega
  obtain ⟨K, hK⟩ := legs_l0 (a ++ mirL 0 b) hlen (both_roles hf.2.2.1 hf.2.2.2.1) _ 0 rfl (Nat.zero_le _)
  have ek : (firsts (a ++ mirL 0 b)).length = (keysL a b).length :=
    ((List.perm_ext_iff_of_nodup (firsts_nodup _) (keys_nodup a b)).2 fun k => keys_firsts hf.2.2.1 hf.2.2.2.1 k).length_eq
  refine ⟨K, fun k hk => ?_⟩
  have hk' := hK k hk
  rw [List.take_zero] at hk'
  unfold crossbarlaw31_legs.f settle_Mirror.f
  simp only [Option.bind_some, List.nil_append]
  rw [if_pos (by simp; omega), if_pos (by omega), Option.bind_some, if_pos (by omega), ← ek]
  exact hk'

/-! ### the lists of a settlement -/
theorem calls_sorted (tol : Int) (L : LegsL) {ks : List Key} (h : ks.Pairwise (fun a b => ltKey a b = true)) : (setL tol L ks).calls.Pairwise (fun a b => a ≤ b) := by
  rw [setL_eq]
  show List.Pairwise _ ((ks.filter (zz tol L)).map (·.1))
  rw [List.pairwise_map]
  exact (h.filter _).imp fun {a b} h => by rw [ltKey_iff] at h; omega
theorem mis_sorted (tol : Int) (L : LegsL) {ks : List Key} (h : ks.Pairwise (fun a b => ltKey a b = true)) : (setL tol L ks).mis.Pairwise (fun a b => a.f1 ≤ b.f1) := by
  rw [setL_eq]
  show List.Pairwise _ ((ks.filter (fun k => !zz tol L k)).map (mkM tol L))
  rw [List.pairwise_map]
  exact (h.filter _).imp fun {a b} h => by rw [ltKey_iff] at h; show a.1 ≤ b.1; omega
theorem mis_kind (tol : Int) (L : LegsL) (ks : List Key) : ∀ m ∈ (setL tol L ks).mis, 1 ≤ m.f0 ∧ m.f0 ≤ 5 ∧ (m.f0 = 1 → m.f3 = 0) ∧ (m.f0 = 2 → m.f2 = 0) := by
  rw [setL_eq]
  intro m hm
  obtain ⟨k, hk, rfl⟩ := List.mem_map.1 hm
  have hz := (List.mem_filter.1 hk).2
  have hk0 : kd tol L k ≠ 0 := by
    intro e
    simp [zz, e] at hz
  have hc := kind_cases tol (L k false) (L k true)
  show 1 ≤ kd tol L k ∧ kd tol L k ≤ 5 ∧ (kd tol L k = 1 → unitsOf (L k true) = 0) ∧ (kd tol L k = 2 → unitsOf (L k false) = 0)
  show 1 ≤ kindOf tol (L k false) (L k true) ∧ kindOf tol (L k false) (L k true) ≤ 5 ∧ (kindOf tol (L k false) (L k true) = 1 → unitsOf (L k true) = 0) ∧ (kindOf tol (L k false) (L k true) = 2 → unitsOf (L k false) = 0)
  have hk1 : kindOf tol (L k false) (L k true) ≠ 0 := hk0
  by_cases hy : L k true = []
  · rw [if_pos hy] at hc
    rw [hc, hy]
    exact ⟨by decide, by decide, fun _ => rfl, fun h => absurd h (by decide)⟩
  · rw [if_neg hy] at hc
    by_cases hx : L k false = []
    · rw [if_pos hx] at hc
      rw [hc, hx]
      exact ⟨by decide, by decide, fun h => absurd h (by decide), fun _ => rfl⟩
    · rw [if_neg hx] at hc
      split at hc
      · rw [hc]; exact ⟨by decide, by decide, fun h => absurd h (by decide), fun h => absurd h (by decide)⟩
      · split at hc
        · rw [hc]; exact ⟨by decide, by decide, fun h => absurd h (by decide), fun h => absurd h (by decide)⟩
        · split at hc
          · rw [hc]; exact ⟨by decide, by decide, fun h => absurd h (by decide), fun h => absurd h (by decide)⟩
          · exact absurd hc hk1
end Go.Proofs.Ytggdanifobagpaa.Pure
