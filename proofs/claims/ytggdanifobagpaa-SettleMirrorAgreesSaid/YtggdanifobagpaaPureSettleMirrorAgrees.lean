/- Plain law: records that are compared with their mirror image have no mismatches except Duplicate. -/
import Derived.Test.YtggdanifobagpaaEPlainSet
import Derived.Test.YtggdanifobagpaaQx3
namespace Go.Proofs.Ytggdanifobagpaa.Pure
set_option linter.unusedVariables false
set_option linter.unusedSimpArgs false
open Go.RowKit Go.Proofs.Ytggdanifobagpaa.Q Go.Proofs.Ytggdanifobagpaa.Ext Go.Proofs.YtggdanifobagpaaW.PrintWords Go.Proofs.YtggdanifobagpaaW.PrintLast Go.Proofs.YtggdanifobagpaaW.PrintMore

def fl (own : Int) (r : S36) : S36 := ⟨r.f0, exch r.f1, own, r.f3, r.f4, r.f5, r.f6, r.f7⟩
theorem alike_fl (own : Int) : Alike (fl own) := fun _ => ⟨rfl, rfl, rfl, rfl⟩
theorem mir_true (own : Int) (k : Key) : ∀ (l : List S36), (∀ r ∈ l, 1 ≤ r.f1 ∧ r.f1 ≤ 3) →
    (mirL own l).filter (fun r => decide (r.f1 ≠ 1 ∧ (r.f0, exch r.f1) = k)) = (l.filter (fun r => decide (r.f1 ≠ 1 ∧ (r.f0, r.f1) = k))).map (fl own)
  | [], _ => rfl
  | r :: l, h => by
    have ih := mir_true own k l (fun q hq => h q (by simp [hq]))
    have hr := h r (by simp)
    have e : mirL own (r :: l) = mirE own r ++ mirL own l := rfl
    rw [e, List.filter_append, ih]
    have hc : r.f1 = 1 ∨ r.f1 = 2 ∨ r.f1 = 3 := by omega
    rcases hc with hc | hc | hc
    · simp [mirE, exch, hc]
    · by_cases hk : (r.f0, (2 : Int)) = k
      · simp [mirE, exch, hc, hk, fl]
      · simp [mirE, exch, hc, hk, fl]
    · by_cases hk : (r.f0, (3 : Int)) = k
      · simp [mirE, exch, hc, hk, fl]
      · simp [mirE, exch, hc, hk, fl]
section
variable {l : List S36} {own tol : Int} (hf : Fine l (mirL own l) tol)
theorem ma_LL (hf : Fine l (mirL own l) tol) (k : Key) : LL l (mirL own l) k true = (LL l (mirL own l) k false).map (fl own) := by
  rw [LL_true, LL_false]
  exact mir_true own k l (roles_ok hf.2.2.1)
theorem ma_ne (hf : Fine l (mirL own l) tol) {k : Key} (hk : k ∈ keysL l (mirL own l)) : LL l (mirL own l) k false ≠ [] := by
  rcases (keysL_mem l _ k).1 hk with h | h
  · exact h
  · intro e
    rw [ma_LL hf, e] at h
    exact h rfl
theorem ma_kind (hf : Fine l (mirL own l) tol) {k : Key} (hk : k ∈ keysL l (mirL own l)) : kd tol (LL l (mirL own l)) k = if sumB (LL l (mirL own l) k false) = true then 5 else 0 := by
  have hg := fine_good hf k false
  have h1 : kd tol (LL l (mirL own l)) k = kindOf tol (LL l (mirL own l) k false) (LL l (mirL own l) k false) := by
    refine kind_perm_map alike_id (alike_fl own) ?_ ?_ hg hg
    · rw [List.map_id]
    · rw [ma_LL hf]
  rw [h1, kind_same tol _ (ma_ne hf hk) hf.1]
theorem ma_units (hf : Fine l (mirL own l) tol) (k : Key) : unitsOf (LL l (mirL own l) k true) = unitsOf (LL l (mirL own l) k false) := by
  rw [ma_LL hf, units_map (alike_fl own)]
theorem ma_mis (hf : Fine l (mirL own l) tol) : ∀ m ∈ (setL tol (LL l (mirL own l)) (keysL l (mirL own l))).mis, m.f0 = 5 ∧ m.f2 = m.f3 := by
  intro m hm
  rw [setL_eq] at hm
  obtain ⟨k, hk, rfl⟩ := List.mem_map.1 hm
  obtain ⟨h1, h2⟩ := List.mem_filter.1 hk
  have hkd := ma_kind hf h1
  refine ⟨?_, (ma_units hf k).symm⟩
  show kd tol (LL l (mirL own l)) k = 5
  rw [hkd]
  split
  · rfl
  · rename_i hb
    rw [if_neg hb] at hkd
    simp [zz, hkd] at h2
end

/-- What a record gives. -/
def con (r : S36) : Int := if r.f1 = 2 then r.f7 else if r.f1 = 3 then -r.f7 else 0
def sg (k : Key) (x : Int) : Int := if k.2 = 3 then -x else x
theorem sg_add (k : Key) (x y : Int) : sg k (x + y) = sg k x + sg k y := by unfold sg; split <;> omega
theorem sum_legs (ks : List Key) (hn : ks.Nodup) : ∀ (l : List S36), (∀ r ∈ l, 1 ≤ r.f1 ∧ r.f1 ≤ 3) → (∀ r ∈ l, r.f1 ≠ 1 → (r.f0, r.f1) ∈ ks) →
    (ks.map (fun k => sg k (unitsOf (l.filter (fun r => decide (r.f1 ≠ 1 ∧ (r.f0, r.f1) = k)))))).sum = (l.map con).sum
  | [], _, _ => by
    refine sum_zero ks _ (fun k _ => ?_)
    simp [unitsOf, sg]
  | r :: l, hr, hk => by
    have ih := sum_legs ks hn l (fun q hq => hr q (by simp [hq])) (fun q hq => hk q (by simp [hq]))
    rw [List.map_cons, List.sum_cons, ← ih]
    have h1 := hr r (by simp)
    by_cases h : r.f1 = 1
    · have e : ∀ k : Key, (r :: l).filter (fun r => decide (r.f1 ≠ 1 ∧ (r.f0, r.f1) = k)) = l.filter (fun r => decide (r.f1 ≠ 1 ∧ (r.f0, r.f1) = k)) := fun k => List.filter_cons_of_neg (by simp [h])
      simp only [e]
      have e2 : con r = 0 := by unfold con; rw [if_neg (by omega), if_neg (by omega)]
      rw [e2, Int.zero_add]
    · have hmem := hk r (by simp) h
      have e : ∀ k : Key, sg k (unitsOf ((r :: l).filter (fun r => decide (r.f1 ≠ 1 ∧ (r.f0, r.f1) = k)))) = (if k = (r.f0, r.f1) then con r else 0) + sg k (unitsOf (l.filter (fun r => decide (r.f1 ≠ 1 ∧ (r.f0, r.f1) = k)))) := fun k => by
        by_cases hk' : (r.f0, r.f1) = k
        · subst hk'
          rw [List.filter_cons_of_pos (by simp [h]), if_pos rfl]
          have eu : ∀ m : List S36, unitsOf (r :: m) = r.f7 + unitsOf m := fun m => by unfold unitsOf; rw [List.map_cons, List.sum_cons]
          rw [eu, sg_add]
          have e3 : sg (r.f0, r.f1) r.f7 = con r := by
            unfold sg con
            by_cases h3 : r.f1 = 3
            · rw [if_pos h3, if_neg (by omega), if_pos h3]
            · rw [if_neg h3, if_pos (by omega)]
          rw [e3]
        · rw [List.filter_cons_of_neg (by simp [hk']), if_neg (fun x => hk' x.symm), Int.zero_add]
      simp only [e]
      rw [sum_add, sum_one hn _ _ hmem]
theorem ma_units_sum {l : List S36} {own tol : Int} (hf : Fine l (mirL own l) tol) (hm : (setL tol (LL l (mirL own l)) (keysL l (mirL own l))).mis = []) :
    (setL tol (LL l (mirL own l)) (keysL l (mirL own l))).u = (l.map con).sum := by
  rw [setL_eq] at hm ⊢
  have hall : ∀ k ∈ keysL l (mirL own l), zz tol (LL l (mirL own l)) k = true := by
    intro k hk
    cases hz : zz tol (LL l (mirL own l)) k with
    | true => rfl
    | false =>
      exfalso
      have h2 : k ∈ (keysL l (mirL own l)).filter (fun k => !zz tol (LL l (mirL own l)) k) := List.mem_filter.2 ⟨hk, by simp [hz]⟩
      have h3 := List.map_eq_nil_iff.1 hm
      rw [h3] at h2
      cases h2
  show (((keysL l (mirL own l)).filter (zz tol (LL l (mirL own l)))).map (gain (LL l (mirL own l)))).sum = _
  rw [List.filter_eq_self.2 hall]
  rw [← sum_legs (keysL l (mirL own l)) (keys_nodup _ _) l (roles_ok hf.2.2.1) (fun r hr h1 => ?_)]
  · refine congrArg _ (List.map_congr_left fun k _ => ?_)
    unfold gain sg
    rw [ma_units hf, Int.min_self, LL_false]
  · rw [keysL_mem]
    left
    rw [LL_false]
    intro e
    have : r ∈ l.filter (fun q => decide (q.f1 ≠ 1 ∧ (q.f0, q.f1) = (r.f0, r.f1))) := List.mem_filter.2 ⟨hr, by simp [h1]⟩
    rw [e] at this
    cases this

/-! ### the law's loops -/
theorem wS' {i : Nat} (h : i < 1000000000) : wrap64 ((i : Int) + 1) = ((i + 1 : Nat) : Int) := by unfold wrap64; omega
theorem rdT' {l : List S36} {i : Nat} (h : i < l.length) : rd_T36 l (i : Int) = l[i] := by simp [rd_T36, List.getD_eq_getElem?_getD, h]
theorem rdM' {l : List S38} {i : Nat} (h : i < l.length) : rd_T38 l (i : Int) = l[i] := by simp [rd_T38, List.getD_eq_getElem?_getD, h]
theorem wadd (X a : Int) : wrap64 (wrap64 X + a) = wrap64 (X + a) := by unfold wrap64; omega
theorem wsub (X a : Int) : wrap64 (wrap64 X - a) = wrap64 (X + -a) := by unfold wrap64; omega
theorem ma_l1 (m : List S38) (hn : m.length ≤ 100000) (hm : ∀ x ∈ m, x.f0 = 5 ∧ x.f2 = x.f3) (s u : Int) (c : List Int) (hs : m = [] → u = s) : ∀ (d i k : Nat), m.length - i = d → i ≤ m.length → d < k →
    crossbarlaw31_SettleMirrorAgrees.l1 k s (i : Int) u c m = some true := by
  intro d
  induction d with
  | zero =>
    intro i k hd hi hk
    obtain ⟨k, rfl⟩ : ∃ q, k = q + 1 := ⟨k - 1, by omega⟩
    simp only [crossbarlaw31_SettleMirrorAgrees.l1]
    rw [if_neg (by omega)]
    by_cases h : (m.length : Int) > 0
    · rw [if_pos h]
    · rw [if_neg h, hs (List.length_eq_zero_iff.1 (by omega))]
      simp
  | succ d ih =>
    intro i k hd hi hk
    obtain ⟨k, rfl⟩ : ∃ q, k = q + 1 := ⟨k - 1, by omega⟩
    simp only [crossbarlaw31_SettleMirrorAgrees.l1]
    obtain ⟨h5, h6⟩ := hm m[i] (List.getElem_mem (by omega))
    rw [if_pos (by omega), if_pos (by omega), rdM' (by omega), if_pos h5, if_pos h6, wS' (by omega)]
    exact ih (i + 1) k (by omega) (by omega) (by omega)
theorem ma_l0 (l : List S36) (hn : l.length ≤ 100000) (hr : ∀ r ∈ l, 1 ≤ r.f1 ∧ r.f1 ≤ 3) (u : Int) (c : List Int) (m : List S38) (R : Option Bool) (need : Nat)
    (next : ∀ k, need ≤ k → crossbarlaw31_SettleMirrorAgrees.l1 k (wrap64 (l.map con).sum) 0 u c m = R) : ∀ (d i k : Nat) (X : Int), l.length - i = d → i ≤ l.length → need + d < k → X + ((l.drop i).map con).sum = (l.map con).sum →
    crossbarlaw31_SettleMirrorAgrees.l0 k l (wrap64 X) (i : Int) u c m = R := by
  intro d
  induction d with
  | zero =>
    intro i k X hd hi hk hX
    obtain ⟨k, rfl⟩ : ∃ q, k = q + 1 := ⟨k - 1, by omega⟩
    simp only [crossbarlaw31_SettleMirrorAgrees.l0]
    rw [List.drop_of_length_le (by omega)] at hX
    have e : X = (l.map con).sum := by simpa using hX
    rw [if_neg (by omega), e]
    exact next k (by omega)
  | succ d ih =>
    intro i k X hd hi hk hX
    obtain ⟨k, rfl⟩ : ∃ q, k = q + 1 := ⟨k - 1, by omega⟩
    have hi' : i < l.length := by omega
    rw [List.drop_eq_getElem_cons hi', List.map_cons, List.sum_cons] at hX
    have h1 := hr l[i] (List.getElem_mem hi')
    simp only [crossbarlaw31_SettleMirrorAgrees.l0]
    rw [if_pos (by omega), if_pos (by omega), rdT' hi', wS' (by omega)]
    by_cases h2 : l[i].f1 = 2
    · have e : con l[i] = l[i].f7 := by unfold con; rw [if_pos h2]
      rw [if_pos h2, if_neg (by omega), wadd]
      exact ih (i + 1) k _ (by omega) (by omega) (by omega) (by rw [e] at hX; omega)
    · rw [if_neg h2]
      by_cases h3 : l[i].f1 = 3
      · have e : con l[i] = -l[i].f7 := by unfold con; rw [if_neg h2, if_pos h3]
        rw [if_pos h3, wsub]
        exact ih (i + 1) k _ (by omega) (by omega) (by omega) (by rw [e] at hX; omega)
      · have e : con l[i] = 0 := by unfold con; rw [if_neg h2, if_neg h3]
        rw [if_neg h3]
        exact ih (i + 1) k _ (by omega) (by omega) (by omega) (by rw [e] at hX; omega)

theorem SettleMirrorAgrees (l : List S36) (own tol : Int) : ∃ k, crossbarlaw31_SettleMirrorAgrees.f k l own tol = some true := by
  refine ⟨3000, ?_⟩
  have hsane : crossbarlaw31_sane.f = some true := rfl
  unfold crossbarlaw31_SettleMirrorAgrees.f
  rw [hsane]
  simp only [Option.bind_some, if_true]
  by_cases hl : (l.length : Int) > 200
  · rw [if_pos hl]
  · rw [if_neg hl]
    have hml := mir_len own l
    have e1 : settle_Mirror.f l own = some (mirL own l) := by unfold settle_Mirror.f; rw [if_pos (by omega)]
    rw [e1, Option.bind_some, f_eq l (mirL own l) (by omega) (by omega) tol, Option.bind_some]
    by_cases he : (matchL l (mirL own l) tol).2.2.2 = 0
    · rw [if_pos he]
      have hf := matchL_zero he
      have hlens := matchL_lens l (mirL own l) tol
      rw [matchL_fine hf] at hlens ⊢
      show crossbarlaw31_SettleMirrorAgrees.l0 3000 l 0 0 (wrap64 (setL tol (LL l (mirL own l)) (keysL l (mirL own l))).u) (setL tol (LL l (mirL own l)) (keysL l (mirL own l))).calls (setL tol (LL l (mirL own l)) (keysL l (mirL own l))).mis = some true
      have hlen' : (setL tol (LL l (mirL own l)) (keysL l (mirL own l))).mis.length ≤ 1000 := by
        have : (setL tol (LL l (mirL own l)) (keysL l (mirL own l))).calls.length + (setL tol (LL l (mirL own l)) (keysL l (mirL own l))).mis.length ≤ l.length + (mirL own l).length := hlens
        omega
      have w0 : wrap64 0 = 0 := wrap64_id 0 (by decide) (by decide)
      have := ma_l0 l (by omega) (roles_ok hf.2.2.1) (wrap64 (setL tol (LL l (mirL own l)) (keysL l (mirL own l))).u) (setL tol (LL l (mirL own l)) (keysL l (mirL own l))).calls (setL tol (LL l (mirL own l)) (keysL l (mirL own l))).mis (some true) 1100
        (fun k hk => ma_l1 _ (by omega) (ma_mis hf) _ _ _ (fun hm => by rw [ma_units_sum hf hm]) _ 0 k rfl (Nat.zero_le _) (by omega)) l.length 0 3000 0 rfl (Nat.zero_le _) (by omega) (by simp)
      rw [w0] at this
      exact this
    · rw [if_neg he]
      obtain ⟨h1, h2, h3⟩ := matchL_err he
      rw [h1, h2, h3, if_pos rfl]
      have w0 : wrap64 0 = 0 := wrap64_id 0 (by decide) (by decide)
      simp [w0]
end Go.Proofs.Ytggdanifobagpaa.Pure
