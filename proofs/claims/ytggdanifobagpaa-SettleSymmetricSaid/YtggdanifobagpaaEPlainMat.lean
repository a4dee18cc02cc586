/- Plain laws about what Match answers: it does not depend on the order of the records, nor on what no leg looks at. -/
import Derived.Test.YtggdanifobagpaaEExt
namespace Go.Proofs.Ytggdanifobagpaa.Pure
set_option linter.unusedVariables false
set_option linter.unusedSimpArgs false
open Go.RowKit Go.Proofs.Ytggdanifobagpaa.Q Go.Proofs.Ytggdanifobagpaa.Ext Go.Proofs.YtggdanifobagpaaW.PrintWords Go.Proofs.YtggdanifobagpaaW.PrintLast Go.Proofs.YtggdanifobagpaaW.PrintMore

/-- g leaves a record's times, rate and units. -/
def Alike (g : S36 → S36) : Prop := ∀ r, (g r).f4 = r.f4 ∧ (g r).f5 = r.f5 ∧ (g r).f6 = r.f6 ∧ (g r).f7 = r.f7
theorem alike_id : Alike id := fun _ => ⟨rfl, rfl, rfl, rfl⟩
theorem acc_map {g : S36 → S36} (hg : Alike g) (l : List S36) : acc (l.map g) = acc l := by
  have e : ∀ a r, accStep a (g r) = accStep a r := fun a r => by
    obtain ⟨h1, h2, h3, h4⟩ := hg r
    unfold accStep
    rw [h1, h2, h3, h4]
  unfold acc
  rw [List.foldl_map]
  simp only [e]
theorem units_map {g : S36 → S36} (hg : Alike g) (l : List S36) : unitsOf (l.map g) = unitsOf l := by
  rw [← acc_u, ← acc_u, acc_map hg]
theorem dur_map {g : S36 → S36} (hg : Alike g) (l : List S36) : durOf (l.map g) = durOf l := by
  rw [← acc_d, ← acc_d, acc_map hg]
theorem good_map {g : S36 → S36} (hg : Alike g) {r : S36} (h : Ext.Good r) : Ext.Good (g r) := by
  obtain ⟨h1, h2, h3, h4⟩ := hg r
  unfold Ext.Good at *
  rw [h1, h2, h4]
  exact h
theorem kind_perm_map {g g' : S36 → S36} (hg : Alike g) (hg' : Alike g') {tol : Int} {lx ly mx my : List S36} (hx : mx.Perm (lx.map g)) (hy : my.Perm (ly.map g')) (gx : ∀ r ∈ lx, Ext.Good r) (gy : ∀ r ∈ ly, Ext.Good r) :
    kindOf tol mx my = kindOf tol lx ly := by
  have hgx : ∀ r ∈ mx, Ext.Good r := fun r hr => by
    obtain ⟨q, hq, rfl⟩ := List.mem_map.1 (hx.mem_iff.1 hr)
    exact good_map hg (gx q hq)
  have hgy : ∀ r ∈ my, Ext.Good r := fun r hr => by
    obtain ⟨q, hq, rfl⟩ := List.mem_map.1 (hy.mem_iff.1 hr)
    exact good_map hg' (gy q hq)
  have sx : ((sortF lx).map g).Pairwise (fun a b => a.f4 ≤ b.f4) := by
    rw [List.pairwise_map]
    exact (sortF_sorted lx).imp (fun {a b} h => by rw [(hg a).1, (hg b).1]; exact h)
  have sy : ((sortF ly).map g').Pairwise (fun a b => a.f4 ≤ b.f4) := by
    rw [List.pairwise_map]
    exact (sortF_sorted ly).imp (fun {a b} h => by rw [(hg' a).1, (hg' b).1]; exact h)
  have k1 := kind_eq (tol := tol) (((sortF_perm lx).map g).trans hx.symm) sx (((sortF_perm ly).map g').trans hy.symm) sy hgx hgy
  have k2 := kind_eq (tol := tol) (sortF_perm lx) (sortF_sorted lx) (sortF_perm ly) (sortF_sorted ly) gx gy
  rw [acc_map hg, acc_map hg'] at k1
  exact k1.symm.trans k2
theorem units_like {g : S36 → S36} (hg : Alike g) {lx mx : List S36} (hx : mx.Perm (lx.map g)) : unitsOf mx = unitsOf lx := by
  rw [units_perm hx, units_map hg]

theorem setL_congr {tol : Int} {L L' : LegsL} {ks : List Key} (h : ∀ k ∈ ks, kindOf tol (L' k false) (L' k true) = kindOf tol (L k false) (L k true) ∧ unitsOf (L' k false) = unitsOf (L k false) ∧ unitsOf (L' k true) = unitsOf (L k true)) :
    setL tol L' ks = setL tol L ks := by
  unfold setL
  generalize (⟨0, [], []⟩ : SetL) = s
  induction ks generalizing s with
  | nil => rfl
  | cons k ks ih =>
    rw [List.foldl_cons, List.foldl_cons]
    have hk := h k (by simp)
    have e : setStep tol L' s k = setStep tol L s k := by
      unfold setStep
      rw [hk.1, hk.2.1, hk.2.2]
    rw [e]
    exact ih (fun q hq => h q (by simp [hq])) _

/-- What Match asks of its arguments. -/
def Fine (a b : List S36) (tol : Int) : Prop := 0 ≤ tol ∧ tol ≤ 1099511627776 ∧ allOk a = true ∧ allOk b = true ∧ limE a = 0 ∧ limE b = 0
theorem matchL_fine {a b : List S36} {tol : Int} (h : Fine a b tol) : matchL a b tol = (wrap64 (setL tol (LL a b) (keysL a b)).u, (setL tol (LL a b) (keysL a b)).calls, (setL tol (LL a b) (keysL a b)).mis, 0) := by
  obtain ⟨h1, h2, h3, h4, h5, h6⟩ := h
  unfold matchL
  rw [if_neg (by simp [h3, h4]; omega), if_neg (by simp [h5, h6])]
theorem matchL_err {a b : List S36} {tol : Int} (h : (matchL a b tol).2.2.2 ≠ 0) : (matchL a b tol).1 = 0 ∧ (matchL a b tol).2.1 = [] ∧ (matchL a b tol).2.2.1 = [] := by
  unfold matchL at h ⊢
  split
  · exact ⟨rfl, rfl, rfl⟩
  · split
    · exact ⟨rfl, rfl, rfl⟩
    · rename_i h1 h2
      rw [if_neg h1, if_neg h2] at h
      exact absurd rfl h
theorem matchL_zero {a b : List S36} {tol : Int} (h : (matchL a b tol).2.2.2 = 0) : Fine a b tol := by
  unfold matchL at h
  split at h
  · cases h
  · split at h
    · cases h
    · rename_i h1 h2
      have e1 : allOk a = true := by
        cases e : allOk a with
        | true => rfl
        | false => exact absurd (.inr (.inr (.inl e))) h1
      have e2 : allOk b = true := by
        cases e : allOk b with
        | true => rfl
        | false => exact absurd (.inr (.inr (.inr e))) h1
      exact ⟨by omega, by omega, e1, e2, by omega, by omega⟩
theorem fine_len {a b : List S36} {tol : Int} (h : Fine a b tol) : a.length ≤ 1024 ∧ b.length ≤ 1024 ∧ unitsOf a ≤ 1152921504606846976 ∧ unitsOf b ≤ 1152921504606846976 := by
  obtain ⟨_, _, _, _, h5, h6⟩ := h
  unfold limE at h5 h6
  refine ⟨?_, ?_, ?_, ?_⟩
  · split at h5
    · cases h5
    · split at h5
      · cases h5
      · omega
  · split at h6
    · cases h6
    · split at h6
      · cases h6
      · omega
  · split at h5
    · cases h5
    · omega
  · split at h6
    · cases h6
    · omega
theorem fine_good {a b : List S36} {tol : Int} (h : Fine a b tol) (k : Key) (c : Bool) : ∀ r ∈ LL a b k c, Ext.Good r := by
  have hl := fine_len h
  exact ((LL_ok h.2.2.1 h.2.2.2.1 hl.2.2.1 hl.2.2.2 hl.1 hl.2.1) k c).1

theorem keysL_congr {a b a' b' : List S36} (h : ∀ k, (LL a' b' k false ≠ [] ∨ LL a' b' k true ≠ []) ↔ (LL a b k false ≠ [] ∨ LL a b k true ≠ [])) : keysL a' b' = keysL a b :=
  strict_unique (keysL_sorted a' b') (keysL_sorted a b) (fun k => by rw [keysL_mem, keysL_mem]; exact h k)

/-- Match answers alike for records whose legs are alike. -/
theorem match_like {a b a' b' : List S36} {tol : Int} {g g' : S36 → S36} (hg : Alike g) (hg' : Alike g') (hf : Fine a b tol) (hf' : Fine a' b' tol)
    (h0 : ∀ k, (LL a' b' k false).Perm ((LL a b k false).map g)) (h1 : ∀ k, (LL a' b' k true).Perm ((LL a b k true).map g')) : matchL a' b' tol = matchL a b tol := by
  have e0 : ∀ k, LL a' b' k false = [] ↔ LL a b k false = [] := fun k => by
    have := (h0 k).length_eq
    rw [List.length_map] at this
    rw [← List.length_eq_zero_iff, ← List.length_eq_zero_iff, this]
  have e1 : ∀ k, LL a' b' k true = [] ↔ LL a b k true = [] := fun k => by
    have := (h1 k).length_eq
    rw [List.length_map] at this
    rw [← List.length_eq_zero_iff, ← List.length_eq_zero_iff, this]
  have ek : keysL a' b' = keysL a b := keysL_congr fun k => by simp only [Ne, e0, e1]
  have es : setL tol (LL a' b') (keysL a b) = setL tol (LL a b) (keysL a b) := setL_congr fun k _ =>
    ⟨kind_perm_map hg hg' (h0 k) (h1 k) (fine_good hf k false) (fine_good hf k true), units_like hg (h0 k), units_like hg' (h1 k)⟩
  rw [matchL_fine hf, matchL_fine hf', ek, es]

/-! ### the order of the records -/
theorem allOk_perm {a a' : List S36} (h : a'.Perm a) : allOk a' = allOk a := by
  have : allOk a' = true ↔ allOk a = true := by
    unfold allOk
    rw [List.all_eq_true, List.all_eq_true]
    exact ⟨fun x r hr => x r (h.mem_iff.2 hr), fun x r hr => x r (h.mem_iff.1 hr)⟩
  cases h1 : allOk a' <;> cases h2 : allOk a <;> simp_all
theorem limE_perm {a a' : List S36} (h : a'.Perm a) : limE a' = limE a := by
  unfold limE
  rw [units_perm h, h.length_eq]
theorem match_perm {a b a' b' : List S36} (ha : a'.Perm a) (hb : b'.Perm b) (tol : Int) : matchL a' b' tol = matchL a b tol := by
  by_cases h : Fine a b tol
  · have h' : Fine a' b' tol := by
      obtain ⟨h1, h2, h3, h4, h5, h6⟩ := h
      exact ⟨h1, h2, by rw [allOk_perm ha]; exact h3, by rw [allOk_perm hb]; exact h4, by rw [limE_perm ha]; exact h5, by rw [limE_perm hb]; exact h6⟩
    refine match_like alike_id alike_id h h' (fun k => ?_) (fun k => ?_)
    · rw [LL_false, LL_false, List.map_id]
      exact ha.filter _
    · rw [LL_true, LL_true, List.map_id]
      exact hb.filter _
  · unfold Fine at h
    unfold matchL
    rw [allOk_perm ha, allOk_perm hb, limE_perm ha, limE_perm hb]
    by_cases h1 : tol < 0 ∨ 1099511627776 < tol ∨ allOk a = false ∨ allOk b = false
    · rw [if_pos h1, if_pos h1]
    · rw [if_neg h1, if_neg h1]
      by_cases h2 : limE a ≠ 0 ∨ limE b ≠ 0
      · rw [if_pos h2, if_pos h2]
      · exfalso
        refine h ⟨by omega, by omega, ?_, ?_, by omega, by omega⟩
        · cases e : allOk a with
          | true => rfl
          | false => exact absurd (.inr (.inr (.inl e))) h1
        · cases e : allOk b with
          | true => rfl
          | false => exact absurd (.inr (.inr (.inr e))) h1

/-! ### Peer, and the records of subscribers -/
def pe (own : Int) (r : S36) : S36 := ⟨r.f0, r.f1, own, r.f3, r.f4, r.f5, r.f6, r.f7⟩
theorem alike_pe (own : Int) : Alike (pe own) := fun _ => ⟨rfl, rfl, rfl, rfl⟩
theorem mm (own : Int) : ∀ (a : List S36), (∀ r ∈ a, 1 ≤ r.f1 ∧ r.f1 ≤ 3) → mirL own (mirL own a) = (a.filter (fun r => decide (r.f1 ≠ 1))).map (pe own)
  | [], _ => rfl
  | r :: a, h => by
    have ih := mm own a (fun q hq => h q (by simp [hq]))
    have hr := h r (by simp)
    have e : ∀ (x : S36) (l : List S36), mirL own (x :: l) = mirE own x ++ mirL own l := fun _ _ => rfl
    have e2 : ∀ (l m : List S36), mirL own (l ++ m) = mirL own l ++ mirL own m := fun l m => by simp [mirL]
    rw [e, e2, ih]
    have hc : r.f1 = 1 ∨ r.f1 = 2 ∨ r.f1 = 3 := by omega
    rcases hc with hc | hc | hc
    · simp [mirE, exch, hc, mirL]
    · simp [mirE, exch, hc, mirL, pe]
    · simp [mirE, exch, hc, mirL, pe]
theorem units_filter {a : List S36} (h : ∀ r ∈ a, Ext.Good r) (p : S36 → Bool) : unitsOf (a.filter p) ≤ unitsOf a := units_filter_le a p h
theorem ok_pe {a : List S36} (own : Int) (p : S36 → Bool) (h : allOk a = true) : allOk ((a.filter p).map (pe own)) = true := by
  unfold allOk at *
  rw [List.all_eq_true] at *
  intro r hr
  obtain ⟨q, hq, rfl⟩ := List.mem_map.1 hr
  have : okRec q := of_decide_eq_true (h q (List.mem_filter.1 hq).1)
  exact decide_eq_true (show okRec (pe own q) from this)
theorem lim_pe {a : List S36} (own : Int) (p : S36 → Bool) (h : allOk a = true) (hl : limE a = 0) : limE ((a.filter p).map (pe own)) = 0 := by
  have hg : ∀ r ∈ a, Ext.Good r := fun r hr => (allOk_mem h r hr).good
  have h1 := units_filter_le a p hg
  have h2 := List.length_filter_le p a
  unfold limE at *
  rw [units_map (alike_pe own), List.length_map]
  have h3 : ¬ unitsOf a > 1152921504606846976 := fun x => by rw [if_pos x] at hl; cases hl
  rw [if_neg h3] at hl
  have h4 : ¬ a.length > 1024 := fun x => by rw [if_pos x] at hl; cases hl
  rw [if_neg (by omega), if_neg (by omega)]
theorem roles_ok {a : List S36} (h : allOk a = true) : ∀ r ∈ a, 1 ≤ r.f1 ∧ r.f1 ≤ 3 := fun r hr => by
  obtain ⟨_, _, h1, h2, _⟩ := allOk_mem h r hr
  exact ⟨h1, h2⟩
theorem match_mm {a b : List S36} {tol : Int} (own : Int) (h : Fine a b tol) : matchL (mirL own (mirL own a)) (mirL own (mirL own b)) tol = matchL a b tol := by
  have h' := h
  obtain ⟨h1, h2, h3, h4, h5, h6⟩ := h
  rw [mm own a (roles_ok h3), mm own b (roles_ok h4)]
  refine match_like (alike_pe own) (alike_pe own) h' ⟨h1, h2, ok_pe own _ h3, ok_pe own _ h4, lim_pe own _ h3 h5, lim_pe own _ h4 h6⟩ (fun k => ?_) (fun k => ?_)
  · rw [LL_false, LL_false, List.filter_map, List.filter_filter]
    refine List.Perm.of_eq (congrArg _ (List.filter_congr fun r _ => ?_))
    simp only [Function.comp, pe]
    by_cases hr : r.f1 = 1 <;> simp [hr]
  · rw [LL_true, LL_true, List.filter_map, List.filter_filter]
    refine List.Perm.of_eq (congrArg _ (List.filter_congr fun r _ => ?_))
    simp only [Function.comp, pe]
    by_cases hr : r.f1 = 1 <;> simp [hr]

/-! ### how many legs -/
theorem setL_lens (tol : Int) (L : LegsL) (ks : List Key) : (setL tol L ks).calls.length + (setL tol L ks).mis.length = ks.length := by
  have : ∀ (ks : List Key) (s : SetL), (ks.foldl (setStep tol L) s).calls.length + (ks.foldl (setStep tol L) s).mis.length = s.calls.length + s.mis.length + ks.length := by
    intro ks
    induction ks with
    | nil => intro s; simp
    | cons k ks ih =>
      intro s
      rw [List.foldl_cons, ih]
      unfold setStep
      split <;> simp <;> omega
  have := this ks ⟨0, [], []⟩
  simpa [setL] using this
theorem matchL_lens (a b : List S36) (tol : Int) : (matchL a b tol).2.1.length + (matchL a b tol).2.2.1.length ≤ a.length + b.length := by
  by_cases h : (matchL a b tol).2.2.2 = 0
  · have hf := matchL_zero h
    rw [matchL_fine hf]
    show (setL tol (LL a b) (keysL a b)).calls.length + (setL tol (LL a b) (keysL a b)).mis.length ≤ _
    rw [setL_lens]
    exact keysL_len a b
  · obtain ⟨_, h2, h3⟩ := matchL_err h
    rw [h2, h3]
    simp
end Go.Proofs.Ytggdanifobagpaa.Pure
