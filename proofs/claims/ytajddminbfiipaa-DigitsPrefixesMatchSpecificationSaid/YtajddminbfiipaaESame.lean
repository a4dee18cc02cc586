/- The reference's Shorten and digits.Shorten answer alike. -/
import Derived.Test.YtajddminbfiipaaEShort2
namespace Go.Proofs.Ytajddminbfiipaa.Ext
set_option linter.unusedVariables false
set_option linter.unusedSimpArgs false
open Go.RowKit Go.Lib

theorem ba_eq {x y : ByteArray} : x = y ↔ x.data.toList = y.data.toList := ⟨fun h => by rw [h], fun h => ByteArray.ext (Array.toList_inj.1 h)⟩
theorem app_list (a b : ByteArray) : (a ++ b).data.toList = a.data.toList ++ b.data.toList := by simp
theorem hasP_iff {s p : ByteArray} : hasP s p = true ↔ p.data.toList <+: s.data.toList := by
  unfold hasP Lib.hasPrefix; rw [List.isPrefixOf_iff_prefix]
theorem cutP_list {s p : ByteArray} (h : hasP s p = true) : (cutP s p).data.toList = s.data.toList.drop p.size := by
  unfold cutP Lib.trimPrefix
  rw [if_pos (show Lib.hasPrefix s.data.toList p.data.toList = true from h)]
  have : p.data.toList.length = p.size := by simp
  rw [this]
theorem z1_list : z1.data.toList = [48] := rfl
theorem z2_list : z2.data.toList = [48, 48] := rfl
theorem cut_app {s p : ByteArray} (h : hasP s p = true) : p ++ cutP s p = s := by
  rw [ba_eq, app_list, cutP_list h]
  obtain ⟨t, ht⟩ := hasP_iff.1 h
  have : p.data.toList.length = p.size := by simp
  rw [← ht, ← this, List.drop_left]
theorem size_list (s : ByteArray) : s.data.toList.length = s.size := by simp
theorem cut_of_app (p t : ByteArray) : cutP (p ++ t) p = t := by
  have h : hasP (p ++ t) p = true := by rw [hasP_iff, app_list]; exact List.prefix_append _ _
  rw [ba_eq, cutP_list h, app_list, ← size_list, List.drop_left]

/-- The national form of a number whose rest begins with no 0; and so on. -/
theorem full_plain {d c a : ByteArray} (h : hasP d z1 = false) : fullB d c a = (c ++ a) ++ d := by
  unfold fullB; rw [if_neg (by rw [hasP_two h]; decide), if_neg (by rw [h]; decide)]
theorem full_size_lt {d c a : ByteArray} (h : hasP d z1 = true) : (fullB d c a).size + 1 ≤ c.size + d.size := by
  unfold fullB
  by_cases h2 : hasP d z2 = true
  · rw [if_pos h2]
    have := cutP_list h2
    have h3 : (cutP d z2).size = d.size - 2 := by rw [← size_list, this]; simp; rfl
    have h4 : 2 ≤ d.size := hasP_size h2
    omega
  · rw [if_neg h2, if_pos h]
    have := cutP_list h
    have h3 : (cutP d z1).size = d.size - 1 := by rw [← size_list, this]; simp; rfl
    have h4 : 1 ≤ d.size := hasP_size h
    rw [size_app]; omega

theorem z1_hasP (v : ByteArray) : hasP (z1 ++ v) z1 = true := by rw [hasP_iff, app_list]; exact List.prefix_append _ _
theorem z2_hasP (v : ByteArray) : hasP (z2 ++ v) z2 = true := by rw [hasP_iff, app_list]; exact List.prefix_append _ _
theorem z1v_z2 (v : ByteArray) : hasP (z1 ++ v) z2 = hasP v z1 := by
  rw [Bool.eq_iff_iff, hasP_iff, hasP_iff, app_list, z1_list, z2_list]
  simp

theorem full_int (n c a : ByteArray) : fullB (z2 ++ n) c a = n := by
  unfold fullB; rw [if_pos (z2_hasP n), cut_of_app]
theorem full_nat {v c a : ByteArray} (h : hasP v z1 = false) : fullB (z1 ++ v) c a = c ++ v := by
  unfold fullB
  rw [if_neg (by rw [z1v_z2, h]; decide), if_pos (z1_hasP v), cut_of_app]
theorem full_nat_lt {v c a : ByteArray} (h : hasP v z1 = true) : (fullB (z1 ++ v) c a).size < v.size := by
  unfold fullB
  rw [if_pos (by rw [z1v_z2, h])]
  have h2 : hasP (z1 ++ v) z2 = true := by rw [z1v_z2, h]
  have h3 : (cutP (z1 ++ v) z2).size = (z1 ++ v).size - 2 := by rw [← size_list, cutP_list h2]; simp; rfl
  have h4 : 1 ≤ v.size := hasP_size h
  rw [h3, size_app]
  have : z1.size = 1 := rfl
  omega

theorem find_cons_pos {α : Type} {p : α → Bool} {x : α} {l : List α} (h : p x = true) : (x :: l).find? p = some x := by simp [List.find?, h]
theorem find_cons_neg {α : Type} {p : α → Bool} {x : α} {l : List α} (h : p x = false) : (x :: l).find? p = l.find? p := by simp [List.find?, h]

theorem rest_zero {n l : ByteArray} (h : hasP n l = true) : (decide (l.size < n.size) && !(bAt n l.size == 48)) = (!(cutP n l).data.toList.isEmpty && !hasP (cutP n l) z1) := by
  have hu := cutP_list h
  have hle := hasP_size h
  by_cases hlt : l.size < n.size
  · have hlt' : l.size < n.data.toList.length := by rw [size_list]; exact hlt
    rw [List.drop_eq_getElem_cons hlt'] at hu
    have hb : bAt n l.size = (n.data.toList[l.size]'hlt').toNat := by unfold bAt; rw [List.getElem?_eq_getElem hlt']; rfl
    rw [hb, hu, decide_eq_true hlt]
    have : hasP (cutP n l) z1 = (n.data.toList[l.size]'hlt' == 48) := by
      rw [Bool.eq_iff_iff, hasP_iff, hu, z1_list, beq_iff_eq]
      simp
      exact eq_comm
    rw [this]
    have h48 : ((n.data.toList[l.size]'hlt').toNat == 48) = (n.data.toList[l.size]'hlt' == 48) := by
      rw [Bool.eq_iff_iff, beq_iff_eq, beq_iff_eq]
      constructor
      · intro e; exact UInt8.toNat_inj.1 e
      · intro e; rw [e]; rfl
    rw [h48]; simp
  · have : n.data.toList.drop l.size = [] := List.drop_of_length_le (by rw [size_list]; omega)
    rw [this] at hu
    rw [hu, decide_eq_false hlt]; simp

theorem same_short (n c a : ByteArray) : shortR n c a = shortenB n c a := by
  unfold shortR shortenB
  by_cases hv : (onlyB n 1 15 && (onlyB c 1 15 && onlyB a 0 15)) = true
  · rw [if_pos hv, if_pos hv]
    have hfi : eqB (fullB (z2 ++ n) c a) n = true := eqB_iff.2 (full_int n c a)
    have hlocal : locR n c a = true → cands n c a = cutP n (c ++ a) :: ((if hasP n c = true then [z1 ++ cutP n c] else []) ++ [z2 ++ n]) ∧ hasP n (c ++ a) = true ∧ hasP (cutP n (c ++ a)) z1 = false := by
      intro h
      simp only [locR, Bool.and_eq_true] at h
      obtain ⟨h1, h2⟩ := h
      have := rest_zero h1
      rw [size_app] at this
      have h3 : (!(cutP n (c ++ a)).data.toList.isEmpty && !hasP (cutP n (c ++ a)) z1) = true := by rw [← this, Bool.and_eq_true]; exact h2
      rw [Bool.and_eq_true] at h3
      refine ⟨?_, h1, by simpa using h3.2⟩
      have hl : locB n c a = true := by unfold locB; rw [h1, h3.1]; rfl
      unfold cands; rw [if_pos hl]; rfl
    -- the national form and what follows
    have htail : pick (((if hasP n c = true then [z1 ++ cutP n c] else []) ++ [z2 ++ n]).find? (fun x => eqB (fullB x c a) n)) =
        if (hasP n c && !hasP n (c ++ z1)) = true then (z1 ++ n.extract c.size n.size, 0) else (z2 ++ n, 0) := by
      by_cases h2 : hasP n c = true
      · rw [if_pos h2, h2]
        have hcz : hasP n (c ++ z1) = hasP (cutP n c) z1 := by
          rw [Bool.eq_iff_iff, hasP_iff, hasP_iff, app_list]
          conv => lhs; rw [← cut_app h2, app_list]
          exact List.prefix_append_right_inj _
        rw [hcz]
        cases h3 : hasP (cutP n c) z1 with
        | false =>
          have hf : eqB (fullB (z1 ++ cutP n c) c a) n = true := eqB_iff.2 (by rw [full_nat h3, cut_app h2])
          rw [List.singleton_append, find_cons_pos (p := fun x => eqB (fullB x c a) n) hf]
          simp [pick, cut_extract h2]
        | true =>
          have hne : eqB (fullB (z1 ++ cutP n c) c a) n = false := eqB_ne (fun e => by
            have h4 := full_nat_lt (c := c) (a := a) h3
            rw [e] at h4
            have := cutP_size n c
            omega)
          rw [List.singleton_append, find_cons_neg (p := fun x => eqB (fullB x c a) n) hne, find_cons_pos (p := fun x => eqB (fullB x c a) n) hfi]
          simp [pick]
      · rw [if_neg h2]
        have h2' : hasP n c = false := by simpa using h2
        rw [List.nil_append, find_cons_pos (p := fun x => eqB (fullB x c a) n) hfi, h2']
        simp [pick]
    by_cases hl : locR n c a = true
    · obtain ⟨h1, h2, h3⟩ := hlocal hl
      rw [if_pos hl, h1]
      have hf : eqB (fullB (cutP n (c ++ a)) c a) n = true := eqB_iff.2 (by rw [full_plain h3, cut_app h2])
      rw [find_cons_pos (p := fun x => eqB (fullB x c a) n) hf]
      simp only [pick]
      rw [cut_extract h2, size_app]
    · rw [if_neg hl, ← htail]
      by_cases hlb : locB n c a = true
      · have hc : cands n c a = cutP n (c ++ a) :: ((if hasP n c = true then [z1 ++ cutP n c] else []) ++ [z2 ++ n]) := by
          unfold cands; rw [if_pos hlb]; rfl
        have h1 := (loc_parts hlb).1
        have hz : hasP (cutP n (c ++ a)) z1 = true := by
          cases hz : hasP (cutP n (c ++ a)) z1 with
          | true => rfl
          | false =>
            exfalso
            apply hl
            have := rest_zero h1
            rw [size_app] at this
            unfold locR
            rw [h1, this, hz]
            have h2 := (loc_parts hlb).2
            rw [toList_eq] at h2
            rw [h2]; rfl
        have hne : eqB (fullB (cutP n (c ++ a)) c a) n = false := eqB_ne (fun e => by
          have h4 := full_size_lt (c := c) (a := a) hz
          rw [e] at h4
          have h5 := congrArg ByteArray.size (cut_app h1)
          rw [size_app, size_app] at h5
          omega)
        rw [hc, find_cons_neg (p := fun x => eqB (fullB x c a) n) hne]
      · have hc : cands n c a = ((if hasP n c = true then [z1 ++ cutP n c] else []) ++ [z2 ++ n]) := by
          unfold cands; rw [if_neg hlb]; rfl
        rw [hc]
  · rw [if_neg hv, if_neg hv]
end Go.Proofs.Ytajddminbfiipaa.Ext
