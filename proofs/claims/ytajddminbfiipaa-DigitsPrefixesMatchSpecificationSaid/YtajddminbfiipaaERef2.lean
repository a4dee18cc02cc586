/- What the reference's Normalize answers: for every three strings. -/
import Derived.Test.YtajddminbfiipaaERef
namespace Go.Proofs.Ytajddminbfiipaa.Ext
open Go.RowKit Go.Lib

def normB (d c a : ByteArray) : ByteArray × Int :=
  if (onlyB d 1 20 && (onlyB c 1 15 && onlyB a 0 15)) = true then (if onlyB (fullB d c a) 1 15 = true then (fullB d c a, 0) else (ByteArray.empty, 60)) else (ByteArray.empty, 60)

theorem only_le {s : ByteArray} {a b : Int} (h : onlyB s a b = true) : (s.size : Int) ≤ b := by
  simp only [onlyB, Bool.and_eq_true, decide_eq_true_eq] at h; exact h.2.1
theorem area_eq (a : ByteArray) : onlyB a 0 15 = (onlyB a 1 15 || a.toList.isEmpty) := by
  rw [toList_eq]
  by_cases h : a.size = 0
  · have e : a.data.toList = [] := by
      have : a.data.toList.length = 0 := by simpa using h
      exact List.eq_nil_of_length_eq_zero this
    have h2 : allDig a = true := by unfold allDig; rw [e]; rfl
    rw [e]; simp [onlyB, h, h2]
  · have e : a.data.toList.isEmpty = false := by
      cases hh : a.data.toList with
      | nil => exact absurd (by have := congrArg List.length hh; simpa using this) h
      | cons x l => rfl
    rw [e]
    unfold onlyB
    have : decide ((1 : Int) ≤ a.size) = true := decide_eq_true (by omega)
    have h0 : decide ((0 : Int) ≤ a.size) = true := decide_eq_true (by omega)
    rw [this, h0]; simp

theorem cut_extract {s p : ByteArray} (h : hasP s p = true) : cutP s p = s.extract p.size s.size := by
  unfold cutP Lib.trimPrefix
  rw [if_pos (show Lib.hasPrefix s.data.toList p.data.toList = true from h)]
  apply ByteArray.ext
  apply Array.toList_inj.1
  have : p.data.toList.length = p.size := by simp
  rw [this]
  simp
  rw [List.take_of_length_le (by simp)]

theorem empty_le {a : ByteArray} (h : a.toList = []) : a.size ≤ 15 := by
  have h1 : a.size = a.data.toList.length := by simp
  rw [toList_eq] at h
  rw [h, List.length_nil] at h1
  omega
theorem hasP_size {s p : ByteArray} (h : hasP s p = true) : p.size ≤ s.size := by
  by_cases h1 : p.size ≤ s.size
  · exact h1
  · rw [hasP_len h1] at h; exact Bool.noConfusion h
theorem hasP_two {d : ByteArray} (h : hasP d z1 = false) : hasP d z2 = false := by
  cases hh : hasP d z2 with
  | false => rfl
  | true =>
    have h2 := List.isPrefixOf_iff_prefix.1 hh
    have h1 : hasP d z1 = true := List.isPrefixOf_iff_prefix.2 (List.IsPrefix.trans (show z1.data.toList <+: z2.data.toList from ⟨[48], rfl⟩) h2)
    rw [h1] at h; exact Bool.noConfusion h

set_option maxHeartbeats 4000000 in
theorem ref_norm (d c a : ByteArray) (w : World) : Calls Try.prog 15 #[.string d, .string c, .string a] w fun e w' => e = .returned (.tuple #[.string (normB d c a).1, .int .i64 (normB d c a).2]) ∧ w' = w := by
  have hO := ref_only d 1 20 w (by omega)
  have hVc := ref_valid c w
  have hVa := ref_valid a w
  have hS1 : Calls Try.prog 33 #[.string d, .string ⟨#[48]⟩] w fun e w' => e = .returned (.bool (hasP d z1)) ∧ w' = w := ref_starts d z1 w
  have hS2 : Calls Try.prog 33 #[.string d, .string ⟨#[48, 48]⟩] w fun e w' => e = .returned (.bool (hasP d z2)) ∧ w' = w := ref_starts d z2 w
  cases hA : onlyB d 1 20 with
  | false =>
    have e : normB d c a = (ByteArray.empty, 60) := by simp [normB, hA]
    rw [e]
    rw [hA] at hO
    have HO := Lib.hid hO
    clear hO hVc hVa hS1 hS2 hA e
    go_enter Try.func15, Try.ntmps15
    go_wp2_with fail
    refine HO.out.mono ?_
    rintro e w' ⟨rfl, rfl⟩
    go_wp2
    go_ret2
    exact ⟨rfl, rfl⟩
  | true =>
    rw [hA] at hO
    have HO := Lib.hid hO
    clear hO
    cases hB : onlyB c 1 15 with
    | false =>
      have e : normB d c a = (ByteArray.empty, 60) := by simp [normB, hB]
      rw [e]
      rw [hB] at hVc
      have HVc := Lib.hid hVc
      clear hVc hVa hS1 hS2 hA e hB
      go_enter Try.func15, Try.ntmps15
      go_wp2_with fail
      refine HO.out.mono ?_
      rintro e w' ⟨rfl, rfl⟩
      go_wp2_with fail
      refine HVc.out.mono ?_
      rintro e w' ⟨rfl, rfl⟩
      go_wp2
      go_ret2
      exact ⟨rfl, rfl⟩
    | true =>
      rw [hB] at hVc
      have HVc := Lib.hid hVc
      clear hVc
      cases hC : onlyB a 1 15 with
      | false =>
        rw [hC] at hVa
        have HVa := Lib.hid hVa
        clear hVa
        cases hE : a.toList.isEmpty with
        | false =>
          have e : normB d c a = (ByteArray.empty, 60) := by simp [normB, area_eq, hC, hE]
          rw [e]
          clear e hS1 hS2 hA hB hC
          go_enter Try.func15, Try.ntmps15
          go_wp2_with fail
          refine HO.out.mono ?_
          rintro e w' ⟨rfl, rfl⟩
          go_wp2_with fail
          refine HVc.out.mono ?_
          rintro e w' ⟨rfl, rfl⟩
          go_wp2_with fail
          refine HVa.out.mono ?_
          rintro e w' ⟨rfl, rfl⟩
          go_wp2
          go_ret2
          exact ⟨rfl, rfl⟩
        | true =>
          have hE' : a.toList = [] := by simpa using hE
          have ha2 : a.size ≤ 15 := empty_le hE'
          have hd2 : (d.size : Int) ≤ 20 := only_le hA
          have hc2 : (c.size : Int) ≤ 15 := only_le hB
          have hcond : (onlyB d 1 20 && (onlyB c 1 15 && onlyB a 0 15)) = true := by rw [hA, hB, area_eq]; simp [hC, hE]
          cases h1 : hasP d z1 with
          | false =>
            have h2 : hasP d z2 = false := hasP_two h1
            rw [h1] at hS1
            rw [h2] at hS2
            have HS1 := Lib.hid hS1
            have HS2 := Lib.hid hS2
            clear hS1 hS2
            have hf : fullB d c a = (c ++ a) ++ d := by unfold fullB; rw [h1, h2]; rfl
            have hV := ref_valid ((c ++ a) ++ d) w
            have hn : normB d c a = if onlyB ((c ++ a) ++ d) 1 15 = true then ((c ++ a) ++ d, 0) else (ByteArray.empty, 60) := by
              unfold normB; rw [if_pos hcond, hf]
            rw [hn]
            cases hv : onlyB ((c ++ a) ++ d) 1 15 with
            | false =>
              rw [hv] at hV
              rw [if_neg (by decide)]
              have HV := Lib.hid hV
              clear hV hn hf hv hcond h1 h2 hA hB
              go_enter Try.func15, Try.ntmps15
              go_wp2_with fail
              refine HO.out.mono ?_
              rintro e w' ⟨rfl, rfl⟩
              go_wp2_with fail
              refine HVc.out.mono ?_
              rintro e w' ⟨rfl, rfl⟩
              go_wp2_with fail
              refine HVa.out.mono ?_
              rintro e w' ⟨rfl, rfl⟩
              go_wp2_with fail
              refine HS1.out.mono ?_
              rintro e w' ⟨rfl, rfl⟩
              go_wp2_with fail
              refine HS2.out.mono ?_
              rintro e w' ⟨rfl, rfl⟩
              go_wp2_with fail
              refine HV.out.mono ?_
              rintro e w' ⟨rfl, rfl⟩
              go_wp2
              go_ret2
              exact ⟨rfl, rfl⟩
            | true =>
              rw [hv] at hV
              rw [if_pos rfl]
              have HV := Lib.hid hV
              clear hV hn hf hv hcond h1 h2 hA hB
              go_enter Try.func15, Try.ntmps15
              go_wp2_with fail
              refine HO.out.mono ?_
              rintro e w' ⟨rfl, rfl⟩
              go_wp2_with fail
              refine HVc.out.mono ?_
              rintro e w' ⟨rfl, rfl⟩
              go_wp2_with fail
              refine HVa.out.mono ?_
              rintro e w' ⟨rfl, rfl⟩
              go_wp2_with fail
              refine HS1.out.mono ?_
              rintro e w' ⟨rfl, rfl⟩
              go_wp2_with fail
              refine HS2.out.mono ?_
              rintro e w' ⟨rfl, rfl⟩
              go_wp2_with fail
              refine HV.out.mono ?_
              rintro e w' ⟨rfl, rfl⟩
              go_wp2
              go_ret2
              exact ⟨rfl, rfl⟩
          | true =>
            have hd1 : 1 ≤ d.size := hasP_size h1
            rw [h1] at hS1
            have HS1 := Lib.hid hS1
            clear hS1
            cases h2 : hasP d z2 with
            | false =>
              rw [h2] at hS2
              have HS2 := Lib.hid hS2
              clear hS2
              have hf : fullB d c a = c ++ d.extract 1 d.size := by unfold fullB; rw [h1, h2, cut_extract h1]; rfl
              have hV := ref_valid (c ++ d.extract 1 d.size) w
              have hn : normB d c a = if onlyB (c ++ d.extract 1 d.size) 1 15 = true then (c ++ d.extract 1 d.size, 0) else (ByteArray.empty, 60) := by
                unfold normB; rw [if_pos hcond, hf]
              rw [hn]
              cases hv : onlyB (c ++ d.extract 1 d.size) 1 15 with
              | false =>
                rw [hv] at hV
                rw [if_neg (by decide)]
                have HV := Lib.hid hV
                clear hV hn hf hv hcond h1 h2 hA hB
                go_enter Try.func15, Try.ntmps15
                go_wp2_with fail
                refine HO.out.mono ?_
                rintro e w' ⟨rfl, rfl⟩
                go_wp2_with fail
                refine HVc.out.mono ?_
                rintro e w' ⟨rfl, rfl⟩
                go_wp2_with fail
                refine HVa.out.mono ?_
                rintro e w' ⟨rfl, rfl⟩
                go_wp2_with fail
                refine HS1.out.mono ?_
                rintro e w' ⟨rfl, rfl⟩
                go_wp2_with fail
                refine HS2.out.mono ?_
                rintro e w' ⟨rfl, rfl⟩
                go_wp2_with fail
                refine HV.out.mono ?_
                rintro e w' ⟨rfl, rfl⟩
                go_wp2
                go_ret2
                exact ⟨rfl, rfl⟩
              | true =>
                rw [hv] at hV
                rw [if_pos rfl]
                have HV := Lib.hid hV
                clear hV hn hf hv hcond h1 h2 hA hB
                go_enter Try.func15, Try.ntmps15
                go_wp2_with fail
                refine HO.out.mono ?_
                rintro e w' ⟨rfl, rfl⟩
                go_wp2_with fail
                refine HVc.out.mono ?_
                rintro e w' ⟨rfl, rfl⟩
                go_wp2_with fail
                refine HVa.out.mono ?_
                rintro e w' ⟨rfl, rfl⟩
                go_wp2_with fail
                refine HS1.out.mono ?_
                rintro e w' ⟨rfl, rfl⟩
                go_wp2_with fail
                refine HS2.out.mono ?_
                rintro e w' ⟨rfl, rfl⟩
                go_wp2_with fail
                refine HV.out.mono ?_
                rintro e w' ⟨rfl, rfl⟩
                go_wp2
                go_ret2
                exact ⟨rfl, rfl⟩
            | true =>
              have hd3 : 2 ≤ d.size := hasP_size h2
              rw [h2] at hS2
              have HS2 := Lib.hid hS2
              clear hS2
              have hf : fullB d c a = d.extract 2 d.size := by unfold fullB; rw [h2, cut_extract h2]; rfl
              have hV := ref_valid (d.extract 2 d.size) w
              have hn : normB d c a = if onlyB (d.extract 2 d.size) 1 15 = true then (d.extract 2 d.size, 0) else (ByteArray.empty, 60) := by
                unfold normB; rw [if_pos hcond, hf]
              rw [hn]
              cases hv : onlyB (d.extract 2 d.size) 1 15 with
              | false =>
                rw [hv] at hV
                rw [if_neg (by decide)]
                have HV := Lib.hid hV
                clear hV hn hf hv hcond h1 h2 hA hB
                go_enter Try.func15, Try.ntmps15
                go_wp2_with fail
                refine HO.out.mono ?_
                rintro e w' ⟨rfl, rfl⟩
                go_wp2_with fail
                refine HVc.out.mono ?_
                rintro e w' ⟨rfl, rfl⟩
                go_wp2_with fail
                refine HVa.out.mono ?_
                rintro e w' ⟨rfl, rfl⟩
                go_wp2_with fail
                refine HS1.out.mono ?_
                rintro e w' ⟨rfl, rfl⟩
                go_wp2_with fail
                refine HS2.out.mono ?_
                rintro e w' ⟨rfl, rfl⟩
                go_wp2_with fail
                refine HV.out.mono ?_
                rintro e w' ⟨rfl, rfl⟩
                go_wp2
                go_ret2
                exact ⟨rfl, rfl⟩
              | true =>
                rw [hv] at hV
                rw [if_pos rfl]
                have HV := Lib.hid hV
                clear hV hn hf hv hcond h1 h2 hA hB
                go_enter Try.func15, Try.ntmps15
                go_wp2_with fail
                refine HO.out.mono ?_
                rintro e w' ⟨rfl, rfl⟩
                go_wp2_with fail
                refine HVc.out.mono ?_
                rintro e w' ⟨rfl, rfl⟩
                go_wp2_with fail
                refine HVa.out.mono ?_
                rintro e w' ⟨rfl, rfl⟩
                go_wp2_with fail
                refine HS1.out.mono ?_
                rintro e w' ⟨rfl, rfl⟩
                go_wp2_with fail
                refine HS2.out.mono ?_
                rintro e w' ⟨rfl, rfl⟩
                go_wp2_with fail
                refine HV.out.mono ?_
                rintro e w' ⟨rfl, rfl⟩
                go_wp2
                go_ret2
                exact ⟨rfl, rfl⟩
      | true =>
        rw [hC] at hVa
        have HVa := Lib.hid hVa
        clear hVa
        have ha2 : (a.size : Int) ≤ 15 := only_le hC
        have hd2 : (d.size : Int) ≤ 20 := only_le hA
        have hc2 : (c.size : Int) ≤ 15 := only_le hB
        have hcond : (onlyB d 1 20 && (onlyB c 1 15 && onlyB a 0 15)) = true := by rw [hA, hB, area_eq]; simp [hC]
        cases h1 : hasP d z1 with
        | false =>
          have h2 : hasP d z2 = false := hasP_two h1
          rw [h1] at hS1
          rw [h2] at hS2
          have HS1 := Lib.hid hS1
          have HS2 := Lib.hid hS2
          clear hS1 hS2
          have hf : fullB d c a = (c ++ a) ++ d := by unfold fullB; rw [h1, h2]; rfl
          have hV := ref_valid ((c ++ a) ++ d) w
          have hn : normB d c a = if onlyB ((c ++ a) ++ d) 1 15 = true then ((c ++ a) ++ d, 0) else (ByteArray.empty, 60) := by
            unfold normB; rw [if_pos hcond, hf]
          rw [hn]
          cases hv : onlyB ((c ++ a) ++ d) 1 15 with
          | false =>
            rw [hv] at hV
            rw [if_neg (by decide)]
            have HV := Lib.hid hV
            clear hV hn hf hv hcond h1 h2 hA hB
            go_enter Try.func15, Try.ntmps15
            go_wp2_with fail
            refine HO.out.mono ?_
            rintro e w' ⟨rfl, rfl⟩
            go_wp2_with fail
            refine HVc.out.mono ?_
            rintro e w' ⟨rfl, rfl⟩
            go_wp2_with fail
            refine HVa.out.mono ?_
            rintro e w' ⟨rfl, rfl⟩
            go_wp2_with fail
            refine HS1.out.mono ?_
            rintro e w' ⟨rfl, rfl⟩
            go_wp2_with fail
            refine HS2.out.mono ?_
            rintro e w' ⟨rfl, rfl⟩
            go_wp2_with fail
            refine HV.out.mono ?_
            rintro e w' ⟨rfl, rfl⟩
            go_wp2
            go_ret2
            exact ⟨rfl, rfl⟩
          | true =>
            rw [hv] at hV
            rw [if_pos rfl]
            have HV := Lib.hid hV
            clear hV hn hf hv hcond h1 h2 hA hB
            go_enter Try.func15, Try.ntmps15
            go_wp2_with fail
            refine HO.out.mono ?_
            rintro e w' ⟨rfl, rfl⟩
            go_wp2_with fail
            refine HVc.out.mono ?_
            rintro e w' ⟨rfl, rfl⟩
            go_wp2_with fail
            refine HVa.out.mono ?_
            rintro e w' ⟨rfl, rfl⟩
            go_wp2_with fail
            refine HS1.out.mono ?_
            rintro e w' ⟨rfl, rfl⟩
            go_wp2_with fail
            refine HS2.out.mono ?_
            rintro e w' ⟨rfl, rfl⟩
            go_wp2_with fail
            refine HV.out.mono ?_
            rintro e w' ⟨rfl, rfl⟩
            go_wp2
            go_ret2
            exact ⟨rfl, rfl⟩
        | true =>
          have hd1 : 1 ≤ d.size := hasP_size h1
          rw [h1] at hS1
          have HS1 := Lib.hid hS1
          clear hS1
          cases h2 : hasP d z2 with
          | false =>
            rw [h2] at hS2
            have HS2 := Lib.hid hS2
            clear hS2
            have hf : fullB d c a = c ++ d.extract 1 d.size := by unfold fullB; rw [h1, h2, cut_extract h1]; rfl
            have hV := ref_valid (c ++ d.extract 1 d.size) w
            have hn : normB d c a = if onlyB (c ++ d.extract 1 d.size) 1 15 = true then (c ++ d.extract 1 d.size, 0) else (ByteArray.empty, 60) := by
              unfold normB; rw [if_pos hcond, hf]
            rw [hn]
            cases hv : onlyB (c ++ d.extract 1 d.size) 1 15 with
            | false =>
              rw [hv] at hV
              rw [if_neg (by decide)]
              have HV := Lib.hid hV
              clear hV hn hf hv hcond h1 h2 hA hB
              go_enter Try.func15, Try.ntmps15
              go_wp2_with fail
              refine HO.out.mono ?_
              rintro e w' ⟨rfl, rfl⟩
              go_wp2_with fail
              refine HVc.out.mono ?_
              rintro e w' ⟨rfl, rfl⟩
              go_wp2_with fail
              refine HVa.out.mono ?_
              rintro e w' ⟨rfl, rfl⟩
              go_wp2_with fail
              refine HS1.out.mono ?_
              rintro e w' ⟨rfl, rfl⟩
              go_wp2_with fail
              refine HS2.out.mono ?_
              rintro e w' ⟨rfl, rfl⟩
              go_wp2_with fail
              refine HV.out.mono ?_
              rintro e w' ⟨rfl, rfl⟩
              go_wp2
              go_ret2
              exact ⟨rfl, rfl⟩
            | true =>
              rw [hv] at hV
              rw [if_pos rfl]
              have HV := Lib.hid hV
              clear hV hn hf hv hcond h1 h2 hA hB
              go_enter Try.func15, Try.ntmps15
              go_wp2_with fail
              refine HO.out.mono ?_
              rintro e w' ⟨rfl, rfl⟩
              go_wp2_with fail
              refine HVc.out.mono ?_
              rintro e w' ⟨rfl, rfl⟩
              go_wp2_with fail
              refine HVa.out.mono ?_
              rintro e w' ⟨rfl, rfl⟩
              go_wp2_with fail
              refine HS1.out.mono ?_
              rintro e w' ⟨rfl, rfl⟩
              go_wp2_with fail
              refine HS2.out.mono ?_
              rintro e w' ⟨rfl, rfl⟩
              go_wp2_with fail
              refine HV.out.mono ?_
              rintro e w' ⟨rfl, rfl⟩
              go_wp2
              go_ret2
              exact ⟨rfl, rfl⟩
          | true =>
            have hd3 : 2 ≤ d.size := hasP_size h2
            rw [h2] at hS2
            have HS2 := Lib.hid hS2
            clear hS2
            have hf : fullB d c a = d.extract 2 d.size := by unfold fullB; rw [h2, cut_extract h2]; rfl
            have hV := ref_valid (d.extract 2 d.size) w
            have hn : normB d c a = if onlyB (d.extract 2 d.size) 1 15 = true then (d.extract 2 d.size, 0) else (ByteArray.empty, 60) := by
              unfold normB; rw [if_pos hcond, hf]
            rw [hn]
            cases hv : onlyB (d.extract 2 d.size) 1 15 with
            | false =>
              rw [hv] at hV
              rw [if_neg (by decide)]
              have HV := Lib.hid hV
              clear hV hn hf hv hcond h1 h2 hA hB
              go_enter Try.func15, Try.ntmps15
              go_wp2_with fail
              refine HO.out.mono ?_
              rintro e w' ⟨rfl, rfl⟩
              go_wp2_with fail
              refine HVc.out.mono ?_
              rintro e w' ⟨rfl, rfl⟩
              go_wp2_with fail
              refine HVa.out.mono ?_
              rintro e w' ⟨rfl, rfl⟩
              go_wp2_with fail
              refine HS1.out.mono ?_
              rintro e w' ⟨rfl, rfl⟩
              go_wp2_with fail
              refine HS2.out.mono ?_
              rintro e w' ⟨rfl, rfl⟩
              go_wp2_with fail
              refine HV.out.mono ?_
              rintro e w' ⟨rfl, rfl⟩
              go_wp2
              go_ret2
              exact ⟨rfl, rfl⟩
            | true =>
              rw [hv] at hV
              rw [if_pos rfl]
              have HV := Lib.hid hV
              clear hV hn hf hv hcond h1 h2 hA hB
              go_enter Try.func15, Try.ntmps15
              go_wp2_with fail
              refine HO.out.mono ?_
              rintro e w' ⟨rfl, rfl⟩
              go_wp2_with fail
              refine HVc.out.mono ?_
              rintro e w' ⟨rfl, rfl⟩
              go_wp2_with fail
              refine HVa.out.mono ?_
              rintro e w' ⟨rfl, rfl⟩
              go_wp2_with fail
              refine HS1.out.mono ?_
              rintro e w' ⟨rfl, rfl⟩
              go_wp2_with fail
              refine HS2.out.mono ?_
              rintro e w' ⟨rfl, rfl⟩
              go_wp2_with fail
              refine HV.out.mono ?_
              rintro e w' ⟨rfl, rfl⟩
              go_wp2
              go_ret2
              exact ⟨rfl, rfl⟩
end Go.Proofs.Ytajddminbfiipaa.Ext
