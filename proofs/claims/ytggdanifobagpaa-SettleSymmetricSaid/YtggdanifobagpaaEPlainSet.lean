/- Plain laws: a settlement, written out: which legs are settled, which have a mismatch. -/
import Derived.Test.YtggdanifobagpaaEPlainMat
namespace Go.Proofs.Ytggdanifobagpaa.Pure
set_option linter.unusedVariables false
set_option linter.unusedSimpArgs false
open Go.RowKit Go.Proofs.Ytggdanifobagpaa.Q Go.Proofs.Ytggdanifobagpaa.Ext Go.Proofs.YtggdanifobagpaaW.PrintWords Go.Proofs.YtggdanifobagpaaW.PrintLast Go.Proofs.YtggdanifobagpaaW.PrintMore

/-- The kind of the leg k's mismatch, or 0. -/
abbrev kd (tol : Int) (L : LegsL) (k : Key) : Int := kindOf tol (L k false) (L k true)
/-- The leg k is settled. -/
def zz (tol : Int) (L : LegsL) (k : Key) : Bool := decide (kd tol L k = 0)
def gain (L : LegsL) (k : Key) : Int := if k.2 = 3 then -(min (unitsOf (L k false)) (unitsOf (L k true))) else min (unitsOf (L k false)) (unitsOf (L k true))
def mkM (tol : Int) (L : LegsL) (k : Key) : S38 := ⟨kd tol L k, k.1, unitsOf (L k false), unitsOf (L k true)⟩
theorem setL_eq (tol : Int) (L : LegsL) (ks : List Key) :
    setL tol L ks = ⟨((ks.filter (zz tol L)).map (gain L)).sum, (ks.filter (zz tol L)).map (·.1), (ks.filter (fun k => !zz tol L k)).map (mkM tol L)⟩ := by
  have : ∀ (ks : List Key) (s : SetL), ks.foldl (setStep tol L) s = ⟨s.u + ((ks.filter (zz tol L)).map (gain L)).sum, s.calls ++ (ks.filter (zz tol L)).map (·.1), s.mis ++ (ks.filter (fun k => !zz tol L k)).map (mkM tol L)⟩ := by
    intro ks
    induction ks with
    | nil => intro s; simp
    | cons k ks ih =>
      intro s
      rw [List.foldl_cons, ih]
      by_cases h : kd tol L k = 0
      · have hz : zz tol L k = true := by simp [zz, h]
        have e : setStep tol L s k = ⟨s.u + gain L k, s.calls ++ [k.1], s.mis⟩ := by
          unfold setStep
          rw [if_neg (by simpa using h)]
          rfl
        rw [e, List.filter_cons_of_pos hz, List.filter_cons_of_neg (by simp [hz])]
        simp [Int.add_assoc]
      · have hz : zz tol L k = false := by simp [zz, h]
        have e : setStep tol L s k = ⟨s.u, s.calls, s.mis ++ [mkM tol L k]⟩ := by
          unfold setStep
          rw [if_pos (by simpa using h)]
          rfl
        rw [e, List.filter_cons_of_neg (by simp [hz]), List.filter_cons_of_pos (by simp [hz])]
        simp
  have := this ks ⟨0, [], []⟩
  simpa [setL] using this
theorem sumR_nil (x : List S36) : (sumR x).length = 0 ↔ x = [] := by
  unfold sumR
  rw [compact_nil, List.map_eq_nil_iff]
  exact ⟨fun h => by have h2 := (sortF_perm x).symm; have h3 : sortF x = [] := h; rw [h3] at h2; exact h2.eq_nil, fun h => by subst h; exact (sortF_perm []).eq_nil⟩
/-- The kind, by what the two sides are. -/
theorem kind_cases (tol : Int) (x y : List S36) : kindOf tol x y = if y = [] then 1 else if x = [] then 2 else if (sumB x || sumB y) = true then 5 else if tol < max (durOf x - durOf y) (-(durOf x - durOf y)) then 3 else if (sumR x == sumR y) = false then 4 else 0 := by
  unfold kindOf misK
  by_cases hy : y = []
  · rw [if_pos ((sumR_nil y).2 hy), if_pos hy]
  · rw [if_neg (fun h => hy ((sumR_nil y).1 h)), if_neg hy]
    by_cases hx : x = []
    · rw [if_pos ((sumR_nil x).2 hx), if_pos hx]
    · rw [if_neg (fun h => hx ((sumR_nil x).1 h)), if_neg hx]
theorem kind_same (tol : Int) (x : List S36) (hx : x ≠ []) (ht : 0 ≤ tol) : kindOf tol x x = if sumB x = true then 5 else 0 := by
  rw [kind_cases, if_neg hx, if_neg hx, Bool.or_self]
  split
  · rfl
  · have h1 : ¬ (tol < max (durOf x - durOf x) (-(durOf x - durOf x))) := by rw [Int.sub_self]; simp; omega
    rw [if_neg h1, if_neg (by simp)]
theorem keys_nodup (a b : List S36) : (keysL a b).Nodup := by
  have irr : ∀ x : Key, ltKey x x = true → False := fun x h => by rw [ltKey_iff] at h; omega
  unfold List.Nodup
  exact (keysL_sorted a b).imp (fun {a b} h (e : a = b) => irr a (by subst e; exact h))
theorem sum_one {ks : List Key} (hn : ks.Nodup) (k0 : Key) (v : Int) (h : k0 ∈ ks) : (ks.map (fun k => if k = k0 then v else 0)).sum = v := by
  have zero : ∀ (l : List Key), k0 ∉ l → (l.map (fun k => if k = k0 then v else 0)).sum = 0 := by
    intro l
    induction l with
    | nil => intro _; rfl
    | cons k l ih =>
      intro hk
      have h1 : k ≠ k0 := fun e => hk (by simp [e])
      rw [List.map_cons, List.sum_cons, if_neg h1, ih (fun h => hk (by simp [h]))]
      rfl
  induction ks with
  | nil => cases h
  | cons k ks ih =>
    obtain ⟨h1, h2⟩ := List.nodup_cons.1 hn
    rw [List.map_cons, List.sum_cons]
    by_cases e : k = k0
    · subst e
      rw [if_pos rfl, zero ks h1]
      omega
    · rw [if_neg e, ih h2 (by
        rcases List.mem_cons.1 h with h' | h'
        · exact absurd h'.symm e
        · exact h')]
      omega
theorem sum_add (ks : List Key) (f g : Key → Int) : (ks.map (fun k => f k + g k)).sum = (ks.map f).sum + (ks.map g).sum := by
  induction ks with
  | nil => rfl
  | cons k ks ih => rw [List.map_cons, List.map_cons, List.map_cons, List.sum_cons, List.sum_cons, List.sum_cons, ih]; omega
theorem sum_zero (ks : List Key) (f : Key → Int) (h : ∀ k ∈ ks, f k = 0) : (ks.map f).sum = 0 := by
  induction ks with
  | nil => rfl
  | cons k ks ih => rw [List.map_cons, List.sum_cons, h k (by simp), ih (fun q hq => h q (by simp [hq]))]; rfl
end Go.Proofs.Ytggdanifobagpaa.Pure
