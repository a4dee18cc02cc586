/- What the reference's Shorten answers: for every three strings. -/
import Derived.Test.YtajddminbfiipaaERef2
namespace Go.Proofs.Ytajddminbfiipaa.Ext
open Go.RowKit Go.Lib

def bAt (s : ByteArray) (i : Nat) : Nat := (s.data.toList[i]?.getD 0).toNat
theorem bAt_eq {s : ByteArray} {i : Nat} (h : i < s.size) : bAt s i = (s[i]'h).toNat := by
  have h' : i < s.data.toList.length := by simpa using h
  unfold bAt
  rw [List.getElem?_eq_getElem h']
  simp [ByteArray.getElem_eq_getElem_data]
theorem size_app (a b : ByteArray) : (a ++ b).size = a.size + b.size := ByteArray.size_append

theorem beqInt {x : Nat} {b : Bool} (h : (x == 48) = b) : (((x : Int)) == 48) = b := by
  rw [← h, Bool.eq_iff_iff, beq_iff_eq, beq_iff_eq]; omega
theorem bneInt {x : Nat} {b : Bool} (h : (x == 48) = !b) : (((x : Int)) != 48) = b := by
  have := beqInt h
  unfold bne; rw [this]; simp
def locR (n c a : ByteArray) : Bool := hasP n (c ++ a) && (decide ((c.size + a.size) < n.size) && !(bAt n (c.size + a.size) == 48))
def shortR (n c a : ByteArray) : ByteArray × Int :=
  if (onlyB n 1 15 && (onlyB c 1 15 && onlyB a 0 15)) = true then
    (if locR n c a = true then (n.extract (c.size + a.size) n.size, 0)
    else if (hasP n c && !hasP n (c ++ z1)) = true then (z1 ++ n.extract c.size n.size, 0)
    else (z2 ++ n, 0))
  else (ByteArray.empty, 60)

set_option maxHeartbeats 8000000 in
theorem ref_short (n c a : ByteArray) (w : World) : Calls Try.prog 17 #[.string n, .string c, .string a] w fun e w' => e = .returned (.tuple #[.string (shortR n c a).1, .int .i64 (shortR n c a).2]) ∧ w' = w := by
  have hVn := ref_valid n w
  have hVc := ref_valid c w
  have hVa := ref_valid a w
  have hS1 := ref_starts n (c ++ a) w
  have hS2 := ref_starts n c w
  have hS3 : Calls Try.prog 33 #[.string n, .string (c ++ ⟨#[48]⟩)] w fun e w' => e = .returned (.bool (hasP n (c ++ z1))) ∧ w' = w := ref_starts n (c ++ z1) w
  cases hA : onlyB n 1 15 with
  | false =>
    have e : shortR n c a = (ByteArray.empty, 60) := by simp [shortR, hA]
    rw [e]
    rw [hA] at hVn
    have HVn := Lib.hid hVn
    clear hVn hVc hVa hS1 hS2 hS3 hA e
    go_enter Try.func17, Try.ntmps17
    go_wp2_with fail
    refine HVn.out.mono ?_
    rintro e w' ⟨rfl, rfl⟩
    go_wp2
    go_ret2
    exact ⟨rfl, rfl⟩
  | true =>
    rw [hA] at hVn
    have HVn := Lib.hid hVn
    clear hVn
    cases hB : onlyB c 1 15 with
    | false =>
      have e : shortR n c a = (ByteArray.empty, 60) := by simp [shortR, hB]
      rw [e]
      rw [hB] at hVc
      have HVc := Lib.hid hVc
      clear hVc hVa hS1 hS2 hS3 hA e hB
      go_enter Try.func17, Try.ntmps17
      go_wp2_with fail
      refine HVn.out.mono ?_
      rintro e w' ⟨rfl, rfl⟩
      go_wp2_with fail
      refine HVc.out.mono ?_
      rintro e w' ⟨rfl, rfl⟩
      go_wp2
      go_ret2
      exact ⟨rfl, rfl⟩
    | true =>
      rw [hB] at hVc
      have HVc := Lib.hid hVc
      clear hVc
      cases hC : onlyB a 1 15 with
      | false =>
        rw [hC] at hVa
        have HVa := Lib.hid hVa
        clear hVa
        cases hE : a.toList.isEmpty with
        | false =>
          have e : shortR n c a = (ByteArray.empty, 60) := by simp [shortR, area_eq, hC, hE]
          rw [e]
          clear e hS1 hS2 hS3 hA hB hC
          go_enter Try.func17, Try.ntmps17
          go_wp2_with fail
          refine HVn.out.mono ?_
          rintro e w' ⟨rfl, rfl⟩
          go_wp2_with fail
          refine HVc.out.mono ?_
          rintro e w' ⟨rfl, rfl⟩
          go_wp2_with fail
          refine HVa.out.mono ?_
          rintro e w' ⟨rfl, rfl⟩
          go_wp2
          go_ret2
          exact ⟨rfl, rfl⟩
        | true =>
          have hE' : a.toList = [] := by simpa using hE
          have ha2 : a.size ≤ 15 := empty_le hE'
          have hn2 : (n.size : Int) ≤ 15 := only_le hA
          have hc2 : (c.size : Int) ≤ 15 := only_le hB
          have hcond : (onlyB n 1 15 && (onlyB c 1 15 && onlyB a 0 15)) = true := by rw [hA, hB, area_eq]; simp [hC, hE]
          clear hA hB
          cases h1 : hasP n (c ++ a) with
          | false =>
            have hl : locR n c a = false := by unfold locR; rw [h1]; rfl
            rw [h1] at hS1
            have HS1 := Lib.hid hS1
            clear hS1 h1
            cases h2 : hasP n c with
            | false =>
              rw [h2] at hS2
              have HS2 := Lib.hid hS2
              clear hS2 hS3
              have hn : shortR n c a = (z2 ++ n, 0) := by unfold shortR; rw [if_pos hcond, if_neg (by rw [hl]; decide), if_neg (by rw [h2]; simp)]
              rw [hn]
              clear hn hcond hl h2
              go_enter Try.func17, Try.ntmps17
              go_wp2_with fail
              refine HVn.out.mono ?_
              rintro e w' ⟨rfl, rfl⟩
              go_wp2_with fail
              refine HVc.out.mono ?_
              rintro e w' ⟨rfl, rfl⟩
              go_wp2_with fail
              refine HVa.out.mono ?_
              rintro e w' ⟨rfl, rfl⟩
              go_wp2_with fail
              refine HS1.out.mono ?_
              rintro e w' ⟨rfl, rfl⟩
              go_wp2_with fail
              refine HS2.out.mono ?_
              rintro e w' ⟨rfl, rfl⟩
              go_wp2
              go_ret2
              exact ⟨rfl, rfl⟩
            | true =>
              rw [h2] at hS2
              have HS2 := Lib.hid hS2
              clear hS2
              have hcn : c.size ≤ n.size := hasP_size h2
              cases h3 : hasP n (c ++ z1) with
              | false =>
                rw [h3] at hS3
                have HS3 := Lib.hid hS3
                clear hS3
                have hn : shortR n c a = (z1 ++ n.extract c.size n.size, 0) := by unfold shortR; rw [if_pos hcond, if_neg (by rw [hl]; decide), if_pos (by rw [h2, h3]; rfl)]
                rw [hn]
                clear hn hcond hl h2 h3
                go_enter Try.func17, Try.ntmps17
                go_wp2_with fail
                refine HVn.out.mono ?_
                rintro e w' ⟨rfl, rfl⟩
                go_wp2_with fail
                refine HVc.out.mono ?_
                rintro e w' ⟨rfl, rfl⟩
                go_wp2_with fail
                refine HVa.out.mono ?_
                rintro e w' ⟨rfl, rfl⟩
                go_wp2_with fail
                refine HS1.out.mono ?_
                rintro e w' ⟨rfl, rfl⟩
                go_wp2_with fail
                refine HS2.out.mono ?_
                rintro e w' ⟨rfl, rfl⟩
                go_wp2_with fail
                refine HS3.out.mono ?_
                rintro e w' ⟨rfl, rfl⟩
                go_wp2
                go_ret2
                exact ⟨rfl, rfl⟩
              | true =>
                rw [h3] at hS3
                have HS3 := Lib.hid hS3
                clear hS3
                have hn : shortR n c a = (z2 ++ n, 0) := by unfold shortR; rw [if_pos hcond, if_neg (by rw [hl]; decide), if_neg (by rw [h2, h3]; decide)]
                rw [hn]
                clear hn hcond hl h2 h3
                go_enter Try.func17, Try.ntmps17
                go_wp2_with fail
                refine HVn.out.mono ?_
                rintro e w' ⟨rfl, rfl⟩
                go_wp2_with fail
                refine HVc.out.mono ?_
                rintro e w' ⟨rfl, rfl⟩
                go_wp2_with fail
                refine HVa.out.mono ?_
                rintro e w' ⟨rfl, rfl⟩
                go_wp2_with fail
                refine HS1.out.mono ?_
                rintro e w' ⟨rfl, rfl⟩
                go_wp2_with fail
                refine HS2.out.mono ?_
                rintro e w' ⟨rfl, rfl⟩
                go_wp2_with fail
                refine HS3.out.mono ?_
                rintro e w' ⟨rfl, rfl⟩
                go_wp2
                go_ret2
                exact ⟨rfl, rfl⟩
          | true =>
            rw [h1] at hS1
            have HS1 := Lib.hid hS1
            clear hS1
            by_cases hlt : (c.size + a.size) < n.size
            · have hlt' : ((c.size : Int) + (a.size : Int)) < (n.size : Int) := by omega
              cases hb : (bAt n (c.size + a.size) == 48) with
              | true =>
                have hl : locR n c a = false := by unfold locR; rw [h1, hb, decide_eq_true hlt]; rfl
                have hbt : (((n[c.size + a.size]'hlt).toNat : Int) != 48) = false := bneInt (by rw [bAt_eq hlt] at hb; exact hb)
                have hbt2 : (((n[c.size + a.size]'hlt).toNat : Int) == 48) = true := beqInt (by rw [bAt_eq hlt] at hb; exact hb)
                clear h1 hb
                cases h2 : hasP n c with
                | false =>
                  rw [h2] at hS2
                  have HS2 := Lib.hid hS2
                  clear hS2 hS3
                  have hn : shortR n c a = (z2 ++ n, 0) := by unfold shortR; rw [if_pos hcond, if_neg (by rw [hl]; decide), if_neg (by rw [h2]; simp)]
                  rw [hn]
                  clear hn hcond hl h2
                  go_enter Try.func17, Try.ntmps17
                  go_wp2_with fail
                  refine HVn.out.mono ?_
                  rintro e w' ⟨rfl, rfl⟩
                  go_wp2_with fail
                  refine HVc.out.mono ?_
                  rintro e w' ⟨rfl, rfl⟩
                  go_wp2_with fail
                  refine HVa.out.mono ?_
                  rintro e w' ⟨rfl, rfl⟩
                  go_wp2_with fail
                  refine HS1.out.mono ?_
                  rintro e w' ⟨rfl, rfl⟩
                  go_wp2_with fail
                  refine HS2.out.mono ?_
                  rintro e w' ⟨rfl, rfl⟩
                  go_wp2
                  go_ret2
                  exact ⟨rfl, rfl⟩
                | true =>
                  rw [h2] at hS2
                  have HS2 := Lib.hid hS2
                  clear hS2
                  have hcn : c.size ≤ n.size := hasP_size h2
                  cases h3 : hasP n (c ++ z1) with
                  | false =>
                    rw [h3] at hS3
                    have HS3 := Lib.hid hS3
                    clear hS3
                    have hn : shortR n c a = (z1 ++ n.extract c.size n.size, 0) := by unfold shortR; rw [if_pos hcond, if_neg (by rw [hl]; decide), if_pos (by rw [h2, h3]; rfl)]
                    rw [hn]
                    clear hn hcond hl h2 h3
                    go_enter Try.func17, Try.ntmps17
                    go_wp2_with fail
                    refine HVn.out.mono ?_
                    rintro e w' ⟨rfl, rfl⟩
                    go_wp2_with fail
                    refine HVc.out.mono ?_
                    rintro e w' ⟨rfl, rfl⟩
                    go_wp2_with fail
                    refine HVa.out.mono ?_
                    rintro e w' ⟨rfl, rfl⟩
                    go_wp2_with fail
                    refine HS1.out.mono ?_
                    rintro e w' ⟨rfl, rfl⟩
                    go_wp2_with fail
                    refine HS2.out.mono ?_
                    rintro e w' ⟨rfl, rfl⟩
                    go_wp2_with fail
                    refine HS3.out.mono ?_
                    rintro e w' ⟨rfl, rfl⟩
                    go_wp2
                    go_ret2
                    exact ⟨rfl, rfl⟩
                  | true =>
                    rw [h3] at hS3
                    have HS3 := Lib.hid hS3
                    clear hS3
                    have hn : shortR n c a = (z2 ++ n, 0) := by unfold shortR; rw [if_pos hcond, if_neg (by rw [hl]; decide), if_neg (by rw [h2, h3]; decide)]
                    rw [hn]
                    clear hn hcond hl h2 h3
                    go_enter Try.func17, Try.ntmps17
                    go_wp2_with fail
                    refine HVn.out.mono ?_
                    rintro e w' ⟨rfl, rfl⟩
                    go_wp2_with fail
                    refine HVc.out.mono ?_
                    rintro e w' ⟨rfl, rfl⟩
                    go_wp2_with fail
                    refine HVa.out.mono ?_
                    rintro e w' ⟨rfl, rfl⟩
                    go_wp2_with fail
                    refine HS1.out.mono ?_
                    rintro e w' ⟨rfl, rfl⟩
                    go_wp2_with fail
                    refine HS2.out.mono ?_
                    rintro e w' ⟨rfl, rfl⟩
                    go_wp2_with fail
                    refine HS3.out.mono ?_
                    rintro e w' ⟨rfl, rfl⟩
                    go_wp2
                    go_ret2
                    exact ⟨rfl, rfl⟩
              | false =>
                have hl : locR n c a = true := by unfold locR; rw [h1, hb, decide_eq_true hlt]; rfl
                have hbt : (((n[c.size + a.size]'hlt).toNat : Int) != 48) = true := bneInt (by rw [bAt_eq hlt] at hb; exact hb)
                have hbt2 : (((n[c.size + a.size]'hlt).toNat : Int) == 48) = false := beqInt (by rw [bAt_eq hlt] at hb; exact hb)
                have hn : shortR n c a = (n.extract (c.size + a.size) n.size, 0) := by unfold shortR; rw [if_pos hcond, if_pos hl]
                rw [hn]
                clear hn hcond hl h1 hb hS2 hS3
                go_enter Try.func17, Try.ntmps17
                go_wp2_with fail
                refine HVn.out.mono ?_
                rintro e w' ⟨rfl, rfl⟩
                go_wp2_with fail
                refine HVc.out.mono ?_
                rintro e w' ⟨rfl, rfl⟩
                go_wp2_with fail
                refine HVa.out.mono ?_
                rintro e w' ⟨rfl, rfl⟩
                go_wp2_with fail
                refine HS1.out.mono ?_
                rintro e w' ⟨rfl, rfl⟩
                go_wp2
                go_ret2
                exact ⟨rfl, rfl⟩
            · have hl : locR n c a = false := by unfold locR; rw [decide_eq_false hlt]; simp
              have hlt' : ¬ ((c.size : Int) + (a.size : Int)) < (n.size : Int) := by omega
              clear h1
              cases h2 : hasP n c with
              | false =>
                rw [h2] at hS2
                have HS2 := Lib.hid hS2
                clear hS2 hS3
                have hn : shortR n c a = (z2 ++ n, 0) := by unfold shortR; rw [if_pos hcond, if_neg (by rw [hl]; decide), if_neg (by rw [h2]; simp)]
                rw [hn]
                clear hn hcond hl h2
                go_enter Try.func17, Try.ntmps17
                go_wp2_with fail
                refine HVn.out.mono ?_
                rintro e w' ⟨rfl, rfl⟩
                go_wp2_with fail
                refine HVc.out.mono ?_
                rintro e w' ⟨rfl, rfl⟩
                go_wp2_with fail
                refine HVa.out.mono ?_
                rintro e w' ⟨rfl, rfl⟩
                go_wp2_with fail
                refine HS1.out.mono ?_
                rintro e w' ⟨rfl, rfl⟩
                go_wp2_with fail
                refine HS2.out.mono ?_
                rintro e w' ⟨rfl, rfl⟩
                go_wp2
                go_ret2
                exact ⟨rfl, rfl⟩
              | true =>
                rw [h2] at hS2
                have HS2 := Lib.hid hS2
                clear hS2
                have hcn : c.size ≤ n.size := hasP_size h2
                cases h3 : hasP n (c ++ z1) with
                | false =>
                  rw [h3] at hS3
                  have HS3 := Lib.hid hS3
                  clear hS3
                  have hn : shortR n c a = (z1 ++ n.extract c.size n.size, 0) := by unfold shortR; rw [if_pos hcond, if_neg (by rw [hl]; decide), if_pos (by rw [h2, h3]; rfl)]
                  rw [hn]
                  clear hn hcond hl h2 h3
                  go_enter Try.func17, Try.ntmps17
                  go_wp2_with fail
                  refine HVn.out.mono ?_
                  rintro e w' ⟨rfl, rfl⟩
                  go_wp2_with fail
                  refine HVc.out.mono ?_
                  rintro e w' ⟨rfl, rfl⟩
                  go_wp2_with fail
                  refine HVa.out.mono ?_
                  rintro e w' ⟨rfl, rfl⟩
                  go_wp2_with fail
                  refine HS1.out.mono ?_
                  rintro e w' ⟨rfl, rfl⟩
                  go_wp2_with fail
                  refine HS2.out.mono ?_
                  rintro e w' ⟨rfl, rfl⟩
                  go_wp2_with fail
                  refine HS3.out.mono ?_
                  rintro e w' ⟨rfl, rfl⟩
                  go_wp2
                  go_ret2
                  exact ⟨rfl, rfl⟩
                | true =>
                  rw [h3] at hS3
                  have HS3 := Lib.hid hS3
                  clear hS3
                  have hn : shortR n c a = (z2 ++ n, 0) := by unfold shortR; rw [if_pos hcond, if_neg (by rw [hl]; decide), if_neg (by rw [h2, h3]; decide)]
                  rw [hn]
                  clear hn hcond hl h2 h3
                  go_enter Try.func17, Try.ntmps17
                  go_wp2_with fail
                  refine HVn.out.mono ?_
                  rintro e w' ⟨rfl, rfl⟩
                  go_wp2_with fail
                  refine HVc.out.mono ?_
                  rintro e w' ⟨rfl, rfl⟩
                  go_wp2_with fail
                  refine HVa.out.mono ?_
                  rintro e w' ⟨rfl, rfl⟩
                  go_wp2_with fail
                  refine HS1.out.mono ?_
                  rintro e w' ⟨rfl, rfl⟩
                  go_wp2_with fail
                  refine HS2.out.mono ?_
                  rintro e w' ⟨rfl, rfl⟩
                  go_wp2_with fail
                  refine HS3.out.mono ?_
                  rintro e w' ⟨rfl, rfl⟩
                  go_wp2
                  go_ret2
                  exact ⟨rfl, rfl⟩
      | true =>
        rw [hC] at hVa
        have HVa := Lib.hid hVa
        clear hVa
        have ha2 : (a.size : Int) ≤ 15 := only_le hC
        have hn2 : (n.size : Int) ≤ 15 := only_le hA
        have hc2 : (c.size : Int) ≤ 15 := only_le hB
        have hcond : (onlyB n 1 15 && (onlyB c 1 15 && onlyB a 0 15)) = true := by rw [hA, hB, area_eq]; simp [hC]
        clear hA hB
        cases h1 : hasP n (c ++ a) with
        | false =>
          have hl : locR n c a = false := by unfold locR; rw [h1]; rfl
          rw [h1] at hS1
          have HS1 := Lib.hid hS1
          clear hS1 h1
          cases h2 : hasP n c with
          | false =>
            rw [h2] at hS2
            have HS2 := Lib.hid hS2
            clear hS2 hS3
            have hn : shortR n c a = (z2 ++ n, 0) := by unfold shortR; rw [if_pos hcond, if_neg (by rw [hl]; decide), if_neg (by rw [h2]; simp)]
            rw [hn]
            clear hn hcond hl h2
            go_enter Try.func17, Try.ntmps17
            go_wp2_with fail
            refine HVn.out.mono ?_
            rintro e w' ⟨rfl, rfl⟩
            go_wp2_with fail
            refine HVc.out.mono ?_
            rintro e w' ⟨rfl, rfl⟩
            go_wp2_with fail
            refine HVa.out.mono ?_
            rintro e w' ⟨rfl, rfl⟩
            go_wp2_with fail
            refine HS1.out.mono ?_
            rintro e w' ⟨rfl, rfl⟩
            go_wp2_with fail
            refine HS2.out.mono ?_
            rintro e w' ⟨rfl, rfl⟩
            go_wp2
            go_ret2
            exact ⟨rfl, rfl⟩
          | true =>
            rw [h2] at hS2
            have HS2 := Lib.hid hS2
            clear hS2
            have hcn : c.size ≤ n.size := hasP_size h2
            cases h3 : hasP n (c ++ z1) with
            | false =>
              rw [h3] at hS3
              have HS3 := Lib.hid hS3
              clear hS3
              have hn : shortR n c a = (z1 ++ n.extract c.size n.size, 0) := by unfold shortR; rw [if_pos hcond, if_neg (by rw [hl]; decide), if_pos (by rw [h2, h3]; rfl)]
              rw [hn]
              clear hn hcond hl h2 h3
              go_enter Try.func17, Try.ntmps17
              go_wp2_with fail
              refine HVn.out.mono ?_
              rintro e w' ⟨rfl, rfl⟩
              go_wp2_with fail
              refine HVc.out.mono ?_
              rintro e w' ⟨rfl, rfl⟩
              go_wp2_with fail
              refine HVa.out.mono ?_
              rintro e w' ⟨rfl, rfl⟩
              go_wp2_with fail
              refine HS1.out.mono ?_
              rintro e w' ⟨rfl, rfl⟩
              go_wp2_with fail
              refine HS2.out.mono ?_
              rintro e w' ⟨rfl, rfl⟩
              go_wp2_with fail
              refine HS3.out.mono ?_
              rintro e w' ⟨rfl, rfl⟩
              go_wp2
              go_ret2
              exact ⟨rfl, rfl⟩
            | true =>
              rw [h3] at hS3
              have HS3 := Lib.hid hS3
              clear hS3
              have hn : shortR n c a = (z2 ++ n, 0) := by unfold shortR; rw [if_pos hcond, if_neg (by rw [hl]; decide), if_neg (by rw [h2, h3]; decide)]
              rw [hn]
              clear hn hcond hl h2 h3
              go_enter Try.func17, Try.ntmps17
              go_wp2_with fail
              refine HVn.out.mono ?_
              rintro e w' ⟨rfl, rfl⟩
              go_wp2_with fail
              refine HVc.out.mono ?_
              rintro e w' ⟨rfl, rfl⟩
              go_wp2_with fail
              refine HVa.out.mono ?_
              rintro e w' ⟨rfl, rfl⟩
              go_wp2_with fail
              refine HS1.out.mono ?_
              rintro e w' ⟨rfl, rfl⟩
              go_wp2_with fail
              refine HS2.out.mono ?_
              rintro e w' ⟨rfl, rfl⟩
              go_wp2_with fail
              refine HS3.out.mono ?_
              rintro e w' ⟨rfl, rfl⟩
              go_wp2
              go_ret2
              exact ⟨rfl, rfl⟩
        | true =>
          rw [h1] at hS1
          have HS1 := Lib.hid hS1
          clear hS1
          by_cases hlt : (c.size + a.size) < n.size
          · have hlt' : ((c.size : Int) + (a.size : Int)) < (n.size : Int) := by omega
            cases hb : (bAt n (c.size + a.size) == 48) with
            | true =>
              have hl : locR n c a = false := by unfold locR; rw [h1, hb, decide_eq_true hlt]; rfl
              have hbt : (((n[c.size + a.size]'hlt).toNat : Int) != 48) = false := bneInt (by rw [bAt_eq hlt] at hb; exact hb)
              have hbt2 : (((n[c.size + a.size]'hlt).toNat : Int) == 48) = true := beqInt (by rw [bAt_eq hlt] at hb; exact hb)
              clear h1 hb
              cases h2 : hasP n c with
              | false =>
                rw [h2] at hS2
                have HS2 := Lib.hid hS2
                clear hS2 hS3
                have hn : shortR n c a = (z2 ++ n, 0) := by unfold shortR; rw [if_pos hcond, if_neg (by rw [hl]; decide), if_neg (by rw [h2]; simp)]
                rw [hn]
                clear hn hcond hl h2
                go_enter Try.func17, Try.ntmps17
                go_wp2_with fail
                refine HVn.out.mono ?_
                rintro e w' ⟨rfl, rfl⟩
                go_wp2_with fail
                refine HVc.out.mono ?_
                rintro e w' ⟨rfl, rfl⟩
                go_wp2_with fail
                refine HVa.out.mono ?_
                rintro e w' ⟨rfl, rfl⟩
                go_wp2_with fail
                refine HS1.out.mono ?_
                rintro e w' ⟨rfl, rfl⟩
                go_wp2_with fail
                refine HS2.out.mono ?_
                rintro e w' ⟨rfl, rfl⟩
                go_wp2
                go_ret2
                exact ⟨rfl, rfl⟩
              | true =>
                rw [h2] at hS2
                have HS2 := Lib.hid hS2
                clear hS2
                have hcn : c.size ≤ n.size := hasP_size h2
                cases h3 : hasP n (c ++ z1) with
                | false =>
                  rw [h3] at hS3
                  have HS3 := Lib.hid hS3
                  clear hS3
                  have hn : shortR n c a = (z1 ++ n.extract c.size n.size, 0) := by unfold shortR; rw [if_pos hcond, if_neg (by rw [hl]; decide), if_pos (by rw [h2, h3]; rfl)]
                  rw [hn]
                  clear hn hcond hl h2 h3
                  go_enter Try.func17, Try.ntmps17
                  go_wp2_with fail
                  refine HVn.out.mono ?_
                  rintro e w' ⟨rfl, rfl⟩
                  go_wp2_with fail
                  refine HVc.out.mono ?_
                  rintro e w' ⟨rfl, rfl⟩
                  go_wp2_with fail
                  refine HVa.out.mono ?_
                  rintro e w' ⟨rfl, rfl⟩
                  go_wp2_with fail
                  refine HS1.out.mono ?_
                  rintro e w' ⟨rfl, rfl⟩
                  go_wp2_with fail
                  refine HS2.out.mono ?_
                  rintro e w' ⟨rfl, rfl⟩
                  go_wp2_with fail
                  refine HS3.out.mono ?_
                  rintro e w' ⟨rfl, rfl⟩
                  go_wp2
                  go_ret2
                  exact ⟨rfl, rfl⟩
                | true =>
                  rw [h3] at hS3
                  have HS3 := Lib.hid hS3
                  clear hS3
                  have hn : shortR n c a = (z2 ++ n, 0) := by unfold shortR; rw [if_pos hcond, if_neg (by rw [hl]; decide), if_neg (by rw [h2, h3]; decide)]
                  rw [hn]
                  clear hn hcond hl h2 h3
                  go_enter Try.func17, Try.ntmps17
                  go_wp2_with fail
                  refine HVn.out.mono ?_
                  rintro e w' ⟨rfl, rfl⟩
                  go_wp2_with fail
                  refine HVc.out.mono ?_
                  rintro e w' ⟨rfl, rfl⟩
                  go_wp2_with fail
                  refine HVa.out.mono ?_
                  rintro e w' ⟨rfl, rfl⟩
                  go_wp2_with fail
                  refine HS1.out.mono ?_
                  rintro e w' ⟨rfl, rfl⟩
                  go_wp2_with fail
                  refine HS2.out.mono ?_
                  rintro e w' ⟨rfl, rfl⟩
                  go_wp2_with fail
                  refine HS3.out.mono ?_
                  rintro e w' ⟨rfl, rfl⟩
                  go_wp2
                  go_ret2
                  exact ⟨rfl, rfl⟩
            | false =>
              have hl : locR n c a = true := by unfold locR; rw [h1, hb, decide_eq_true hlt]; rfl
              have hbt : (((n[c.size + a.size]'hlt).toNat : Int) != 48) = true := bneInt (by rw [bAt_eq hlt] at hb; exact hb)
              have hbt2 : (((n[c.size + a.size]'hlt).toNat : Int) == 48) = false := beqInt (by rw [bAt_eq hlt] at hb; exact hb)
              have hn : shortR n c a = (n.extract (c.size + a.size) n.size, 0) := by unfold shortR; rw [if_pos hcond, if_pos hl]
              rw [hn]
              clear hn hcond hl h1 hb hS2 hS3
              go_enter Try.func17, Try.ntmps17
              go_wp2_with fail
              refine HVn.out.mono ?_
              rintro e w' ⟨rfl, rfl⟩
              go_wp2_with fail
              refine HVc.out.mono ?_
              rintro e w' ⟨rfl, rfl⟩
              go_wp2_with fail
              refine HVa.out.mono ?_
              rintro e w' ⟨rfl, rfl⟩
              go_wp2_with fail
              refine HS1.out.mono ?_
              rintro e w' ⟨rfl, rfl⟩
              go_wp2
              go_ret2
              exact ⟨rfl, rfl⟩
          · have hl : locR n c a = false := by unfold locR; rw [decide_eq_false hlt]; simp
            have hlt' : ¬ ((c.size : Int) + (a.size : Int)) < (n.size : Int) := by omega
            clear h1
            cases h2 : hasP n c with
            | false =>
              rw [h2] at hS2
              have HS2 := Lib.hid hS2
              clear hS2 hS3
              have hn : shortR n c a = (z2 ++ n, 0) := by unfold shortR; rw [if_pos hcond, if_neg (by rw [hl]; decide), if_neg (by rw [h2]; simp)]
              rw [hn]
              clear hn hcond hl h2
              go_enter Try.func17, Try.ntmps17
              go_wp2_with fail
              refine HVn.out.mono ?_
              rintro e w' ⟨rfl, rfl⟩
              go_wp2_with fail
              refine HVc.out.mono ?_
              rintro e w' ⟨rfl, rfl⟩
              go_wp2_with fail
              refine HVa.out.mono ?_
              rintro e w' ⟨rfl, rfl⟩
              go_wp2_with fail
              refine HS1.out.mono ?_
              rintro e w' ⟨rfl, rfl⟩
              go_wp2_with fail
              refine HS2.out.mono ?_
              rintro e w' ⟨rfl, rfl⟩
              go_wp2
              go_ret2
              exact ⟨rfl, rfl⟩
            | true =>
              rw [h2] at hS2
              have HS2 := Lib.hid hS2
              clear hS2
              have hcn : c.size ≤ n.size := hasP_size h2
              cases h3 : hasP n (c ++ z1) with
              | false =>
                rw [h3] at hS3
                have HS3 := Lib.hid hS3
                clear hS3
                have hn : shortR n c a = (z1 ++ n.extract c.size n.size, 0) := by unfold shortR; rw [if_pos hcond, if_neg (by rw [hl]; decide), if_pos (by rw [h2, h3]; rfl)]
                rw [hn]
                clear hn hcond hl h2 h3
                go_enter Try.func17, Try.ntmps17
                go_wp2_with fail
                refine HVn.out.mono ?_
                rintro e w' ⟨rfl, rfl⟩
                go_wp2_with fail
                refine HVc.out.mono ?_
                rintro e w' ⟨rfl, rfl⟩
                go_wp2_with fail
                refine HVa.out.mono ?_
                rintro e w' ⟨rfl, rfl⟩
                go_wp2_with fail
                refine HS1.out.mono ?_
                rintro e w' ⟨rfl, rfl⟩
                go_wp2_with fail
                refine HS2.out.mono ?_
                rintro e w' ⟨rfl, rfl⟩
                go_wp2_with fail
                refine HS3.out.mono ?_
                rintro e w' ⟨rfl, rfl⟩
                go_wp2
                go_ret2
                exact ⟨rfl, rfl⟩
              | true =>
                rw [h3] at hS3
                have HS3 := Lib.hid hS3
                clear hS3
                have hn : shortR n c a = (z2 ++ n, 0) := by unfold shortR; rw [if_pos hcond, if_neg (by rw [hl]; decide), if_neg (by rw [h2, h3]; decide)]
                rw [hn]
                clear hn hcond hl h2 h3
                go_enter Try.func17, Try.ntmps17
                go_wp2_with fail
                refine HVn.out.mono ?_
                rintro e w' ⟨rfl, rfl⟩
                go_wp2_with fail
                refine HVc.out.mono ?_
                rintro e w' ⟨rfl, rfl⟩
                go_wp2_with fail
                refine HVa.out.mono ?_
                rintro e w' ⟨rfl, rfl⟩
                go_wp2_with fail
                refine HS1.out.mono ?_
                rintro e w' ⟨rfl, rfl⟩
                go_wp2_with fail
                refine HS2.out.mono ?_
                rintro e w' ⟨rfl, rfl⟩
                go_wp2_with fail
                refine HS3.out.mono ?_
                rintro e w' ⟨rfl, rfl⟩
                go_wp2
                go_ret2
                exact ⟨rfl, rfl⟩
end Go.Proofs.Ytajddminbfiipaa.Ext
