/- Plain law: a short form normalizes back, and no form of a number is shorter. -/
import Derived.Test.YtajddminbfiipaaEAll
import Derived.Test.YtajddminbfiipaaESame
namespace Go.Proofs.Ytajddminbfiipaa.Ext
set_option linter.unusedVariables false
set_option linter.unusedSimpArgs false
open Go.RowKit

theorem onlyB_iff {s : ByteArray} {a b : Int} : onlyB s a b = true ↔ a ≤ (s.size : Int) ∧ (s.size : Int) ≤ b ∧ ∀ x ∈ s.data.toList, isDig x = true := by
  simp only [onlyB, allDig, Bool.and_eq_true, decide_eq_true_eq, List.all_eq_true]

theorem cut_size {s p : ByteArray} (h : hasP s p = true) : (cutP s p).size + p.size = s.size := by
  have := congrArg ByteArray.size (cut_app h)
  rw [size_app] at this; omega
theorem cut_dig {s p : ByteArray} (h : hasP s p = true) (hs : ∀ x ∈ s.data.toList, isDig x = true) : ∀ x ∈ (cutP s p).data.toList, isDig x = true := by
  intro x hx; rw [cutP_list h] at hx; exact hs x (List.mem_of_mem_drop hx)
theorem z1_dig : ∀ x ∈ z1.data.toList, isDig x = true := by intro x hx; rw [z1_list] at hx; simp at hx; subst hx; decide
theorem z2_dig : ∀ x ∈ z2.data.toList, isDig x = true := by intro x hx; rw [z2_list] at hx; simp at hx; subst hx; decide
theorem app_dig {a b : ByteArray} (ha : ∀ x ∈ a.data.toList, isDig x = true) (hb : ∀ x ∈ b.data.toList, isDig x = true) : ∀ x ∈ (a ++ b).data.toList, isDig x = true := by
  intro x hx; rw [app_list, List.mem_append] at hx; exact hx.elim (ha x) (hb x)
theorem z1_size : z1.size = 1 := rfl
theorem z2_size : z2.size = 2 := rfl
theorem nonempty_size {s : ByteArray} (h : s.data.toList.isEmpty = false) : 1 ≤ s.size := by
  rw [← size_list]; cases e : s.data.toList with
  | nil => rw [e] at h; cases h
  | cons x l => simp

/-- Every candidate of a number is a dialled form of 1 to 20 digits. -/
theorem cand_only {n c a x : ByteArray} (hn : onlyB n 1 15 = true) (hx : x ∈ cands n c a) : onlyB x 1 20 = true := by
  obtain ⟨h1, h2, h3⟩ := onlyB_iff.1 hn
  rw [onlyB_iff]
  simp only [cands, List.mem_append, List.mem_cons, List.not_mem_nil, or_false] at hx
  rcases hx with h | h | h
  · split at h
    next hl =>
      simp at h; subst h
      have hp := loc_parts hl
      have hs := cut_size hp.1
      rw [toList_eq] at hp
      have := nonempty_size hp.2
      exact ⟨by omega, by omega, cut_dig hp.1 h3⟩
    next => simp at h
  · split at h
    next hl =>
      simp at h; subst h
      have hs := cut_size hl
      rw [size_app, z1_size]
      exact ⟨by omega, by omega, app_dig z1_dig (cut_dig hl h3)⟩
    next => simp at h
  · subst h
    rw [size_app, z2_size]
    exact ⟨by omega, by omega, app_dig z2_dig h3⟩

/-- The find of Shorten always finds, for the international form serves. -/
theorem find_some (n c a : ByteArray) : ∃ x, (cands n c a).find? (fun x => eqB (fullB x c a) n) = some x ∧ x ∈ cands n c a ∧ fullB x c a = n := by
  cases e : (cands n c a).find? (fun x => eqB (fullB x c a) n) with
  | none =>
    rw [List.find?_eq_none] at e
    have := e _ (mem_int n c a)
    rw [full_int] at this
    exact absurd (eqB_iff.2 rfl) this
  | some x =>
    refine ⟨x, rfl, List.mem_of_find?_eq_some e, eqB_iff.1 ?_⟩
    simpa using List.find?_some e

theorem short_good {n c a : ByteArray} (h : (onlyB n 1 15 && (onlyB c 1 15 && onlyB a 0 15)) = true) :
    ∃ x, shortenB n c a = (x, 0) ∧ normB x c a = (n, 0) := by
  obtain ⟨x, hf, hm, hx⟩ := find_some n c a
  refine ⟨x, by unfold shortenB; rw [if_pos h, hf]; rfl, ?_⟩
  simp only [Bool.and_eq_true] at h
  unfold normB
  rw [if_pos (by simp only [Bool.and_eq_true]; exact ⟨cand_only h.1 hm, h.2⟩), hx, if_pos h.1]

theorem short_bad {n c a : ByteArray} (h : ¬ (onlyB n 1 15 && (onlyB c 1 15 && onlyB a 0 15)) = true) : shortenB n c a = (ByteArray.empty, 60) := by
  unfold shortenB; rw [if_neg h]

/-- Normalize's two answers. -/
theorem norm_cases (d c a : ByteArray) : normB d c a = (ByteArray.empty, 60) ∨
    (normB d c a = (fullB d c a, 0) ∧ onlyB d 1 20 = true ∧ onlyB c 1 15 = true ∧ onlyB a 0 15 = true ∧ onlyB (fullB d c a) 1 15 = true) := by
  unfold normB
  split
  next h =>
    simp only [Bool.and_eq_true] at h
    split
    next h2 => exact .inr ⟨rfl, h.1, h.2.1, h.2.2, h2⟩
    next => exact .inl rfl
  next => exact .inl rfl

theorem hasP_app (p t : ByteArray) : hasP (p ++ t) p = true := by rw [hasP_iff, app_list]; exact List.prefix_append _ _

/-- The form that Shorten finds for the number of a dialled form is no longer, and equal if as long. -/
theorem short_shortest {d c a x : ByteArray} (hd : 1 ≤ d.size) (hc : 1 ≤ c.size)
    (hf : (cands (fullB d c a) c a).find? (fun x => eqB (fullB x c a) (fullB d c a)) = some x) :
    x.size < d.size ∨ x = d := by
  obtain ⟨x', hf', hm, hx⟩ := find_some (fullB d c a) c a
  rw [hf] at hf'
  injection hf' with hf'; subst hf'
  by_cases h1 : hasP d z1 = true
  · by_cases h2 : hasP d z2 = true
    · have hn : fullB d c a = cutP d z2 := by unfold fullB; rw [if_pos h2]
      have hs := cut_size h2
      rw [z2_size] at hs
      rw [hn] at hm
      simp only [cands, List.mem_append, List.mem_cons, List.not_mem_nil, or_false] at hm
      rcases hm with h | h | h
      · split at h
        next hl =>
          simp at h
          have := cut_size (loc_parts hl).1
          left; rw [h]; omega
        next => simp at h
      · split at h
        next hl =>
          simp at h
          have := cut_size hl
          left; rw [h, size_app, z1_size]; omega
        next => simp at h
      · right; rw [h]; exact cut_app h2
    · obtain ⟨v, rfl⟩ : ∃ v, d = z1 ++ v := ⟨cutP d z1, (cut_app h1).symm⟩
      have hv : hasP v z1 = false := by
        rw [z1v_z2] at h2; simpa using h2
      have hn : fullB (z1 ++ v) c a = c ++ v := full_nat hv
      rw [hn] at hf
      have hcv : hasP (c ++ v) c = true := hasP_app c v
      have hcc : cutP (c ++ v) c = v := cut_of_app c v
      by_cases hl : locB (c ++ v) c a = true
      · have hs := cut_size (loc_parts hl).1
        by_cases he : eqB (fullB (cutP (c ++ v) (c ++ a)) c a) (c ++ v) = true
        · left
          simp only [cands] at hf
          rw [if_pos hl, List.cons_append, find_cons_pos (p := fun x => eqB (fullB x c a) (c ++ v)) he] at hf
          injection hf with hf
          rw [← hf, size_app, z1_size]
          rw [size_app, size_app] at hs
          omega
        · right
          simp only [cands] at hf
          rw [if_pos hl, List.cons_append, find_cons_neg (p := fun x => eqB (fullB x c a) (c ++ v)) (by simpa using he), if_pos hcv, List.nil_append, List.cons_append, hcc,
            find_cons_pos (p := fun x => eqB (fullB x c a) (c ++ v)) (by show eqB (fullB (z1 ++ v) c a) (c ++ v) = true; rw [hn]; exact eqB_iff.2 rfl)] at hf
          injection hf with hf; exact hf.symm
      · right
        simp only [cands] at hf
        rw [if_neg hl, if_pos hcv, List.nil_append, List.cons_append, hcc, find_cons_pos (p := fun x => eqB (fullB x c a) (c ++ v)) (by show eqB (fullB (z1 ++ v) c a) (c ++ v) = true; rw [hn]; exact eqB_iff.2 rfl)] at hf
        injection hf with hf; exact hf.symm
  · have h1 : hasP d z1 = false := by simpa using h1
    have hn : fullB d c a = (c ++ a) ++ d := full_plain h1
    have hl : locB ((c ++ a) ++ d) c a = true := by
      unfold locB
      rw [hasP_app, cut_of_app, Bool.true_and, Bool.not_eq_true']
      cases e : d.data.toList with
      | nil => rw [← size_list, e] at hd; simp at hd
      | cons y l => rfl
    right
    rw [hn] at hf
    simp only [cands] at hf
    rw [if_pos hl, List.cons_append, cut_of_app, find_cons_pos (p := fun x => eqB (fullB x c a) ((c ++ a) ++ d)) (by show eqB (fullB d c a) _ = true; rw [hn]; exact eqB_iff.2 rfl)] at hf
    injection hf with hf; exact hf.symm

/-- Common's length, seen from its bounds. -/
theorem com_le : ∀ (a b : Bytes), com a b ≤ a.length ∧ com a b ≤ b.length
  | [], _ => by simp [com]
  | _ :: _, [] => by simp [com]
  | x :: a, y :: b => by
    simp only [com]
    split
    · have := com_le a b
      simp only [List.length_cons]; omega
    · simp
theorem com_take : ∀ (a b : Bytes), a.take (com a b) = b.take (com a b)
  | [], _ => by simp [com]
  | _ :: _, [] => by simp [com]
  | x :: a, y :: b => by
    simp only [com]
    split
    next h => rw [List.take_succ_cons, List.take_succ_cons, h, com_take a b]
    · simp
theorem com_diff : ∀ (a b : Bytes) (h1 : com a b < a.length) (h2 : com a b < b.length), a[com a b] ≠ b[com a b]
  | [], _, h, _ => by simp at h
  | _ :: _, [], _, h => by simp at h
  | x :: a, y :: b, h1, h2 => by
    by_cases h : x = y
    · have hc : com (x :: a) (y :: b) = com a b + 1 := by simp [com, h]
      simp only [hc, List.length_cons] at h1 h2
      simp only [hc, List.getElem_cons_succ]
      exact com_diff a b (by omega) (by omega)
    · have hc : com (x :: a) (y :: b) = 0 := by simp [com, h]
      simp only [hc, List.getElem_cons_zero]
      exact h
theorem com_symm : ∀ (a b : Bytes), com a b = com b a
  | [], [] => rfl
  | [], _ :: _ => rfl
  | _ :: _, [] => rfl
  | x :: a, y :: b => by
    simp only [com]
    by_cases h : x = y
    · rw [if_pos h, if_pos h.symm, com_symm a b]
    · rw [if_neg h, if_neg (fun e => h e.symm)]
theorem com_self : ∀ (a : Bytes), com a a = a.length
  | [] => rfl
  | x :: a => by simp [com, com_self a]
theorem com_prefix {a b : Bytes} : a <+: b ↔ com a b = a.length := by
  constructor
  · rintro ⟨t, rfl⟩
    induction a with
    | nil => simp [com]
    | cons x a ih => simp [com, ih]
  · intro h
    have := com_take a b
    rw [h, List.take_length] at this
    rw [this]; exact List.take_prefix _ _
/-- Two of three lengths are at least the third: common prefixes are an ultrametric. -/
theorem com_ultra : ∀ (a b c : Bytes), min (com a b) (com b c) ≤ com a c
  | [], _, _ => by simp [com]
  | _ :: _, [], _ => by simp [com]
  | _ :: _, _ :: _, [] => by simp [com]
  | x :: a, y :: b, z :: c => by
    have := com_ultra a b c
    simp only [com]
    by_cases h1 : x = y
    · by_cases h2 : y = z
      · rw [if_pos h1, if_pos h2, if_pos (h1.trans h2)]; omega
      · rw [if_neg h2]; omega
    · rw [if_neg h1]; omega
end Go.Proofs.Ytajddminbfiipaa.Ext
