/- Plain laws: oneWay, and a settlement seen from the other side. -/
import Derived.Test.YtggdanifobagpaaEPlainFirsts
import Derived.Test.YtggdanifobagpaaQWay
namespace Go.Proofs.Ytggdanifobagpaa.Pure
set_option linter.unusedVariables false
set_option linter.unusedSimpArgs false
open Go.RowKit Go.Proofs.Ytggdanifobagpaa.Q Go.Proofs.Ytggdanifobagpaa.Ext Go.Proofs.YtggdanifobagpaaW.PrintWords Go.Proofs.YtggdanifobagpaaW.PrintLast Go.Proofs.YtggdanifobagpaaW.PrintMore

/-- Two records that do not contradict each other in the role. -/
def okp (q r : S36) : Bool := decide (¬ (q.f0 = r.f0 ∧ q.f1 ≠ r.f1 ∧ q.f1 ≠ 1 ∧ r.f1 ≠ 1))
theorem way_l1 (l : List S36) (hn : l.length ≤ 100000) (i : Nat) (hi : i < l.length) (k : Nat) :
    ∀ (d j m : Nat), i - j = d → j ≤ i → m = k + d + 1 → crossbarlaw31_oneWay.l1 m l (i : Int) (j : Int) =
      (if ((l.take i).drop j).all (fun q => okp q l[i]) = true then crossbarlaw31_oneWay.l0 k l (wrap64 ((i : Int) + 1)) else some false) := by
  intro d
  induction d with
  | zero =>
    intro j m hd hj hm
    obtain rfl : m = k + 1 := by omega
    simp only [crossbarlaw31_oneWay.l1]
    rw [if_neg (by omega), List.drop_of_length_le (by rw [List.length_take]; omega)]
    simp
  | succ d ih =>
    intro j m hd hj hm
    obtain ⟨m, rfl⟩ : ∃ q, m = q + 1 := ⟨m - 1, by omega⟩
    have hj' : j < l.length := by omega
    have hd2 : (l.take i).drop j = l[j] :: (l.take i).drop (j + 1) := by
      rw [List.drop_eq_getElem_cons (by rw [List.length_take]; omega), List.getElem_take]
    have hgo := ih (j + 1) m (by omega) (by omega) (by omega)
    simp only [crossbarlaw31_oneWay.l1]
    rw [if_pos (by omega), if_pos (by omega), if_pos (by omega), if_pos (by omega), if_pos (by omega), pT hj', pT hi, pS (i := j) (by omega), hgo, hd2, List.all_cons]
    by_cases h : l[j].f0 = l[i].f0
    · rw [if_pos h]
      by_cases h1 : l[j].f1 = l[i].f1
      · have e : okp l[j] l[i] = true := by simp [okp, h1]
        rw [if_pos h1, e, Bool.true_and]
      · rw [if_neg h1]
        by_cases h2 : l[j].f1 = 1
        · have e : okp l[j] l[i] = true := by simp [okp, h2]
          rw [if_pos h2, e, Bool.true_and]
        · rw [if_neg h2]
          by_cases h3 : l[i].f1 = 1
          · have e : okp l[j] l[i] = true := by simp [okp, h3]
            rw [if_pos h3, e, Bool.true_and]
          · have e : okp l[j] l[i] = false := by simp [okp, h, h1, h2, h3]
            rw [if_neg h3, e, Bool.false_and, if_neg (show ¬ (false = true) by simp)]
    · have e : okp l[j] l[i] = true := by simp [okp, h]
      rw [if_neg h, e, Bool.true_and]
theorem way_l0 (l : List S36) (hn : l.length ≤ 100000) :
    ∀ d i : Nat, l.length - i = d → i ≤ l.length → ∃ (K : Nat) (t : Bool), (∀ k, K ≤ k → crossbarlaw31_oneWay.l0 k l (i : Int) = some t) ∧ (t = true → ∀ j, i ≤ j → (hj : j < l.length) → (l.take j).all (fun q => okp q l[j]) = true) := by
  intro d
  induction d with
  | zero =>
    intro i hd hi
    refine ⟨1, true, fun k hk => ?_, fun _ j h1 h2 => absurd h2 (by omega)⟩
    obtain ⟨k, rfl⟩ : ∃ q, k = q + 1 := ⟨k - 1, by omega⟩
    simp only [crossbarlaw31_oneWay.l0]
    rw [if_neg (by omega)]
  | succ d ih =>
    intro i hd hi
    obtain ⟨K, t, hK, ht⟩ := ih (i + 1) (by omega) (by omega)
    have hi' : i < l.length := by omega
    have go : ∀ k, K + i + 2 ≤ k → crossbarlaw31_oneWay.l0 k l (i : Int) = (if (l.take i).all (fun q => okp q l[i]) = true then some t else some false) := by
      intro k hk
      obtain ⟨m, rfl⟩ : ∃ m, k = m + 1 := ⟨k - 1, by omega⟩
      simp only [crossbarlaw31_oneWay.l0]
      have e1 : crossbarlaw31_oneWay.l1 m l (i : Int) 0 = _ := way_l1 l hn i hi' (m - i - 1) i 0 m (by omega) (Nat.zero_le _) (by omega)
      rw [if_pos (by omega), e1, List.drop_zero, pS (i := i) (by omega), hK (m - i - 1) (by omega)]
    by_cases h : (l.take i).all (fun q => okp q l[i]) = true
    · refine ⟨K + i + 2, t, fun k hk => by rw [go k hk, if_pos h], fun e j h1 h2 => ?_⟩
      by_cases ej : j = i
      · subst ej; exact h
      · exact ht e j (by omega) h2
    · exact ⟨K + i + 2, false, fun k hk => by rw [go k hk, if_neg h], fun e => by cases e⟩
/-- The records of both sides name one role for each reference. -/
def OneWay (a b : List S36) : Prop := ∀ q ∈ a ++ mirL 0 b, ∀ r ∈ a ++ mirL 0 b, q.f1 ≠ 1 → r.f1 ≠ 1 → q.f0 = r.f0 → q.f1 = r.f1
theorem way_eq (a b : List S36) (ha : a.length ≤ 10000) (hb : b.length ≤ 10000) : ∃ (K : Nat) (t : Bool), (∀ k, K ≤ k → crossbarlaw31_oneWay.f k a b = some t) ∧ (t = true → OneWay a b) := by
  have hm := Ext.mir_len 0 b
  have hlen : (a ++ mirL 0 b).length ≤ 100000 := by rw [List.length_append]; omega
  obtain ⟨K, t, hK, ht⟩ := way_l0 (a ++ mirL 0 b) hlen _ 0 rfl (Nat.zero_le _)
  refine ⟨K, t, fun k hk => ?_, fun e q hq r hr h1 h2 h3 => ?_⟩
  · have hk' := hK k hk
    unfold crossbarlaw31_oneWay.f settle_Mirror.f
    simp only [Option.bind_some, List.nil_append]
    rw [if_pos (by simp; omega), if_pos (by omega), Option.bind_some, if_pos (by omega)]
    exact hk'
  · have key : ∀ i j (hi : i < (a ++ mirL 0 b).length) (hj : j < (a ++ mirL 0 b).length), i < j → okp (a ++ mirL 0 b)[i] (a ++ mirL 0 b)[j] = true := by
      intro i j hi hj hij
      have h := ht e j (Nat.zero_le _) hj
      rw [List.all_eq_true] at h
      refine h _ ?_
      rw [List.mem_take_iff_getElem]
      exact ⟨i, by omega, rfl⟩
    obtain ⟨i, hi, rfl⟩ := List.getElem_of_mem hq
    obtain ⟨j, hj, rfl⟩ := List.getElem_of_mem hr
    refine Classical.byContradiction fun hne => ?_
    rcases Nat.lt_trichotomy i j with h | h | h
    · have := key i j hi hj h
      exact absurd ⟨h3, hne, h1, h2⟩ (of_decide_eq_true this)
    · subst h
      exact hne rfl
    · have := key j i hj hi h
      exact absurd ⟨h3.symm, fun e => hne e.symm, h2, h1⟩ (of_decide_eq_true this)

/-! ### the other side's view -/
def xk (k : Key) : Key := (k.1, exch k.2)
theorem exch_exch (x : Int) : exch (exch x) = x := by unfold exch; split <;> (try split) <;> (try split) <;> (try split) <;> omega
theorem exch_iff (x y : Int) : exch x = y ↔ x = exch y := by
  constructor
  · intro h; rw [← h, exch_exch]
  · intro h; rw [h, exch_exch]
theorem LL_x (a b : List S36) (k : Key) : LL b a (xk k) false = LL a b k true ∧ LL b a (xk k) true = LL a b k false := by
  constructor
  · rw [LL_false, LL_true]
    refine List.filter_congr fun r _ => ?_
    refine decide_eq_decide.2 (and_congr_right fun _ => ?_)
    rw [xk, Prod.ext_iff, Prod.ext_iff]
    exact and_congr_right fun _ => (exch_iff _ _).symm
  · rw [LL_false, LL_true]
    refine List.filter_congr fun r _ => ?_
    refine decide_eq_decide.2 (and_congr_right fun _ => ?_)
    rw [xk, Prod.ext_iff, Prod.ext_iff]
    exact and_congr_right fun _ => by show exch r.f1 = exch k.2 ↔ r.f1 = k.2; rw [exch_iff, exch_exch]
theorem xk_xk (k : Key) : xk (xk k) = k := by
  unfold xk
  rw [exch_exch]
theorem keys_one {a b : List S36} (h3 : allOk a = true) (h4 : allOk b = true) (hw : OneWay a b) : ∀ k ∈ keysL a b, ∀ k' ∈ keysL a b, k.1 = k'.1 → k = k' := by
  intro k hk k' hk' e
  obtain ⟨q, hq, h1, rfl⟩ := (firsts_mem _ _).1 ((keys_firsts h3 h4 k).2 hk)
  obtain ⟨r, hr, h2, rfl⟩ := (firsts_mem _ _).1 ((keys_firsts h3 h4 k').2 hk')
  exact Prod.ext e (hw q hq r hr h1 h2 e)
theorem keys_role {a b : List S36} (h3 : allOk a = true) (h4 : allOk b = true) : ∀ k ∈ keysL a b, k.2 = 2 ∨ k.2 = 3 := by
  intro k hk
  obtain ⟨q, hq, h1, rfl⟩ := (firsts_mem _ _).1 ((keys_firsts h3 h4 k).2 hk)
  have := both_roles h3 h4 q hq
  show q.f1 = 2 ∨ q.f1 = 3
  omega
theorem keys_x {a b : List S36} (h3 : allOk a = true) (h4 : allOk b = true) (hw : OneWay a b) : keysL b a = (keysL a b).map xk := by
  refine strict_unique (keysL_sorted b a) ?_ fun k => ?_
  · rw [List.pairwise_map]
    refine (List.Pairwise.and_mem.1 (keysL_sorted a b)).imp fun {x y} h => ?_
    obtain ⟨hx, hy, hlt⟩ := h
    have irr : ∀ x : Key, ltKey x x = true → False := fun x h => by rw [ltKey_iff] at h; omega
    have hne : x.1 ≠ y.1 := fun e => irr y (by rw [keys_one h3 h4 hw x hx y hy e] at hlt; exact hlt)
    rw [ltKey_iff] at hlt ⊢
    show x.1 < y.1 ∨ _
    omega
  · rw [keysL_mem, List.mem_map]
    have e := LL_x a b (xk k)
    rw [xk_xk] at e
    rw [e.1, e.2]
    constructor
    · intro h
      exact ⟨xk k, (keysL_mem a b _).2 (h.symm), xk_xk k⟩
    · rintro ⟨q, hq, rfl⟩
      rw [xk_xk]
      exact ((keysL_mem a b q).1 hq).symm
/-- The kind as the other side sees it. -/
def xkind (c : Int) : Int := if c = 1 then 2 else if c = 2 then 1 else c
theorem kind_x (tol : Int) (x y : List S36) (h : x ≠ [] ∨ y ≠ []) : kindOf tol y x = xkind (kindOf tol x y) := by
  rw [kind_cases, kind_cases]
  by_cases hx : x = []
  · have hy : y ≠ [] := by
      rcases h with h | h
      · exact absurd hx h
      · exact h
    rw [if_pos hx, if_neg hy, if_pos hx]
    rfl
  · rw [if_neg hx]
    by_cases hy : y = []
    · rw [if_pos hy, if_pos hy]
      rfl
    · rw [if_neg hy, if_neg hy, if_neg hx]
      have e1 : (sumB y || sumB x) = (sumB x || sumB y) := Bool.or_comm _ _
      have e2 : max (durOf y - durOf x) (-(durOf y - durOf x)) = max (durOf x - durOf y) (-(durOf x - durOf y)) := by omega
      have e3 : (sumR y == sumR x) = (sumR x == sumR y) := by
        by_cases e : sumR x = sumR y
        · rw [e]
        · rw [beq_eq_false_iff_ne.2 e, beq_eq_false_iff_ne.2 (fun h => e h.symm)]
      rw [e1, e2, e3]
      split
      · rfl
      · split
        · rfl
        · split <;> rfl
def xm (m : S38) : S38 := ⟨xkind m.f0, m.f1, m.f3, m.f2⟩
theorem sum_neg (ks : List Key) (f g : Key → Int) (h : ∀ k ∈ ks, f k = -g k) : (ks.map f).sum = -(ks.map g).sum := by
  induction ks with
  | nil => rfl
  | cons k ks ih =>
    rw [List.map_cons, List.map_cons, List.sum_cons, List.sum_cons, h k (by simp), ih (fun q hq => h q (by simp [hq]))]
    omega
theorem xkind_zero (c : Int) : xkind c = 0 ↔ c = 0 := by unfold xkind; split <;> (try split) <;> omega
theorem setL_x {a b : List S36} (h3 : allOk a = true) (h4 : allOk b = true) (hw : OneWay a b) (tol : Int) :
    setL tol (LL b a) (keysL b a) = ⟨-(setL tol (LL a b) (keysL a b)).u, (setL tol (LL a b) (keysL a b)).calls, (setL tol (LL a b) (keysL a b)).mis.map xm⟩ := by
  have hkd : ∀ k ∈ keysL a b, kd tol (LL b a) (xk k) = xkind (kd tol (LL a b) k) := fun k hk => by
    show kindOf tol (LL b a (xk k) false) (LL b a (xk k) true) = _
    rw [(LL_x a b k).1, (LL_x a b k).2]
    exact kind_x tol _ _ ((keysL_mem a b k).1 hk)
  have hz : ∀ k ∈ keysL a b, zz tol (LL b a) (xk k) = zz tol (LL a b) k := fun k hk => by
    unfold zz
    rw [hkd k hk]
    exact decide_eq_decide.2 (xkind_zero _)
  rw [setL_eq, setL_eq, keys_x h3 h4 hw, List.filter_map, List.filter_map, List.map_map, List.map_map, List.map_map]
  have f1 : (keysL a b).filter (zz tol (LL b a) ∘ xk) = (keysL a b).filter (zz tol (LL a b)) := List.filter_congr fun k hk => hz k hk
  have f2 : (keysL a b).filter ((fun k => !zz tol (LL b a) k) ∘ xk) = (keysL a b).filter (fun k => !zz tol (LL a b) k) := List.filter_congr fun k hk => by
    show (!zz tol (LL b a) (xk k)) = !zz tol (LL a b) k
    rw [hz k hk]
  rw [f1, f2]
  have g1 : (((keysL a b).filter (zz tol (LL a b))).map (gain (LL b a) ∘ xk)).sum = -(((keysL a b).filter (zz tol (LL a b))).map (gain (LL a b))).sum := by
    refine sum_neg _ _ _ fun k hk => ?_
    have hk' := (List.mem_filter.1 hk).1
    show gain (LL b a) (xk k) = -gain (LL a b) k
    unfold gain
    rw [(LL_x a b k).1, (LL_x a b k).2]
    show (if exch k.2 = 3 then _ else _) = _
    rcases keys_role h3 h4 k hk' with e | e
    · have e1 : exch k.2 = 3 := by rw [e]; rfl
      rw [if_pos e1, if_neg (by omega), Int.min_comm]
    · have e1 : exch k.2 = 2 := by rw [e]; rfl
      rw [if_neg (by omega), if_pos e, Int.min_comm, Int.neg_neg]
  have g2 : ((keysL a b).filter (zz tol (LL a b))).map ((fun k : Key => k.1) ∘ xk) = ((keysL a b).filter (zz tol (LL a b))).map (fun k => k.1) := rfl
  have g3 : ((keysL a b).filter (fun k => !zz tol (LL a b) k)).map (mkM tol (LL b a) ∘ xk) = (((keysL a b).filter (fun k => !zz tol (LL a b) k)).map (mkM tol (LL a b))).map xm := by
    rw [List.map_map]
    refine List.map_congr_left fun k hk => ?_
    have hk' := (List.mem_filter.1 hk).1
    show mkM tol (LL b a) (xk k) = xm (mkM tol (LL a b) k)
    unfold mkM xm
    rw [hkd k hk', (LL_x a b k).1, (LL_x a b k).2]
    rfl
  rw [g1, g2, g3]
theorem matchL_x (a b : List S36) (tol : Int) (hw : OneWay a b) : ∃ u e c m, matchL a b tol = (wrap64 u, c, m, e) ∧ matchL b a tol = (wrap64 (-u), c, m.map xm, e) := by
  by_cases hf : Fine a b tol
  · have hf' : Fine b a tol := ⟨hf.1, hf.2.1, hf.2.2.2.1, hf.2.2.1, hf.2.2.2.2.2, hf.2.2.2.2.1⟩
    refine ⟨_, _, _, _, matchL_fine hf, ?_⟩
    rw [matchL_fine hf', setL_x hf.2.2.1 hf.2.2.2.1 hw]
  · unfold matchL
    by_cases h1 : tol < 0 ∨ 1099511627776 < tol ∨ allOk a = false ∨ allOk b = false
    · refine ⟨0, 1, [], [], (if_pos h1).trans (by rw [show wrap64 0 = (0 : Int) from by unfold wrap64; omega]), (if_pos ?_).trans (by rw [show wrap64 (-0) = (0 : Int) from by unfold wrap64; omega]; rfl)⟩
      rcases h1 with h | h | h | h
      · exact .inl h
      · exact .inr (.inl h)
      · exact .inr (.inr (.inr h))
      · exact .inr (.inr (.inl h))
    · have h1' : ¬ (tol < 0 ∨ 1099511627776 < tol ∨ allOk b = false ∨ allOk a = false) := by
        rintro (h | h | h | h)
        · exact h1 (.inl h)
        · exact h1 (.inr (.inl h))
        · exact h1 (.inr (.inr (.inr h)))
        · exact h1 (.inr (.inr (.inl h)))
      rw [if_neg h1, if_neg h1']
      by_cases h2 : limE a ≠ 0 ∨ limE b ≠ 0
      · exact ⟨0, 2, [], [], (if_pos h2).trans (by rw [show wrap64 0 = (0 : Int) from by unfold wrap64; omega]), (if_pos h2.symm).trans (by rw [show wrap64 (-0) = (0 : Int) from by unfold wrap64; omega]; rfl)⟩
      · exfalso
        refine hf ⟨by omega, by omega, ?_, ?_, by omega, by omega⟩
        · cases e : allOk a with
          | true => rfl
          | false => exact absurd (.inr (.inr (.inl e))) h1
        · cases e : allOk b with
          | true => rfl
          | false => exact absurd (.inr (.inr (.inr e))) h1
end Go.Proofs.Ytggdanifobagpaa.Pure
