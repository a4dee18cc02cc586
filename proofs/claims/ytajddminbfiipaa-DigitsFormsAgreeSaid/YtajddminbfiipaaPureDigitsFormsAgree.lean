/- Plain law: the three dialled forms of a number agree. -/
import Derived.Test.YtajddminbfiipaaQx5
import Derived.Test.YtajddminbfiipaaESane
import Derived.Test.YtajddminbfiipaaEPure
namespace Go.Proofs.Ytajddminbfiipaa.Pure
set_option linter.unusedVariables false
set_option linter.unusedSimpArgs false
open Go.RowKit Go.Proofs.Ytajddminbfiipaa.Q Go.Proofs.Ytajddminbfiipaa.Ext Go.Proofs.YtajddminbfiipaaW.PrintWords Go.Proofs.YtajddminbfiipaaW.PrintLast

theorem bt_zero {s : ByteArray} (h : 0 < s.size) : (bt s 0 == 48) = hasP s z1 := by
  rw [Bool.eq_iff_iff, hasP_iff, z1_list]
  unfold bt
  simp only [Int.toNat_zero]
  rw [dif_pos h]
  have e := get_list h
  have hl : 0 < s.data.toList.length := by rw [size_list]; exact h
  cases g : s.data.toList with
  | nil => rw [g] at hl; simp at hl
  | cons y l =>
    have e' : y = s[0] := by rw [← e]; simp [g]
    rw [← e']
    simp only [beq_iff_eq, List.cons_prefix_cons, List.nil_prefix, and_true]
    rw [← UInt8.toNat_inj]
    have : (48 : UInt8).toNat = 48 := rfl
    rw [this]; omega

theorem app_nil (a b : ByteArray) (h : a.toList = []) : a ++ b = b := by
  rw [ba_eq, app_list, ← toList_eq a, h]; rfl

theorem DigitsFormsAgree : crossbarlaw06_DigitsFormsAgree.Pure := by
  intro a0 a1 a2 _ _ _
  refine ⟨12, ?_⟩
  unfold crossbarlaw06_DigitsFormsAgree.f
  rw [sane_true 12 (by omega), short_any]
  simp only [Option.bind_some, if_true, digits_Normalize.f]
  split
  next =>
    rcases norm_cases a0 a1 a2 with h | ⟨h, hd, hc, ha, hm⟩
    · rw [h]
      simp only [show ¬ ((60 : Int) = 0) by decide, if_false, crossbarlaw06_DigitsFormsAgree.j0, if_true]
    · rw [h]
      simp only [if_true]
      obtain ⟨hd1, hd2, hd3⟩ := onlyB_iff.1 hd
      obtain ⟨hc1, hc2, hc3⟩ := onlyB_iff.1 hc
      obtain ⟨ha1, ha2, ha3⟩ := onlyB_iff.1 ha
      obtain ⟨hm1, hm2, hm3⟩ := onlyB_iff.1 hm
      rw [if_neg (by omega), if_pos (by omega), bt_zero (by omega)]
      cases hz : hasP a0 z1 with
      | true =>
        simp only [crossbarlaw06_DigitsFormsAgree.j0, if_true]
        rw [if_pos (by omega), decide_eq_true (by omega)]
      | false =>
        have hf : fullB a0 a1 a2 = (a1 ++ a2) ++ a0 := full_plain hz
        have sf := congrArg ByteArray.size hf
        rw [size_app, size_app] at sf
        have e1 : ((((⟨#[48, 48]⟩ : ByteArray) ++ a1) ++ a2) ++ a0) = z2 ++ fullB a0 a1 a2 := by
          rw [hf]; show ((z2 ++ a1) ++ a2) ++ a0 = _
          rw [ba_eq]; simp only [app_list, List.append_assoc]
        have n1 : normB ((((⟨#[48, 48]⟩ : ByteArray) ++ a1) ++ a2) ++ a0) a1 a2 = (fullB a0 a1 a2, 0) := by
          rw [e1]
          unfold normB
          rw [full_int, if_pos, if_pos hm]
          simp only [Bool.and_eq_true]
          refine ⟨onlyB_iff.2 ?_, hc, ha⟩
          rw [size_app, z2_size]
          exact ⟨by omega, by omega, app_dig z2_dig hm3⟩
        have z48 : (⟨#[48]⟩ : ByteArray) = z1 := rfl
        have z4848 : (⟨#[48, 48]⟩ : ByteArray).size = 2 := rfl
        have p1 : 2 + a1.size ≤ 9223372036854775807 := by omega
        have p2 : ((⟨#[48, 48]⟩ : ByteArray) ++ a1).size + a2.size ≤ 9223372036854775807 := by rw [size_app, z4848]; omega
        have p3 : (((⟨#[48, 48]⟩ : ByteArray) ++ a1) ++ a2).size + a0.size ≤ 9223372036854775807 := by rw [size_app, size_app, z4848]; omega
        have p4 : 1 + a2.size ≤ 9223372036854775807 := by omega
        have p5 : ((⟨#[48]⟩ : ByteArray) ++ a2).size + a0.size ≤ 9223372036854775807 := by rw [z48, size_app, z1_size]; omega
        have p6 : a1.size + a2.size ≤ 9223372036854775807 := by omega
        have p7 : (a1 ++ a2).size + a0.size ≤ 9223372036854775807 := by rw [size_app]; omega
        simp only [crossbarlaw06_DigitsFormsAgree.j0, digits_Normalize.f, Option.bind_some, p1, p2, p3, p4, p5, p6, p7, n1, hf, if_true, Bool.false_eq_true, if_false]
        split
        next => rfl
        next hne =>
          have hsz : 0 < a2.size := by
            rw [← size_list, ← toList_eq]; exact List.length_pos_iff.2 hne
          have n2 : hasP a2 z1 = false → normB (((⟨#[48]⟩ : ByteArray) ++ a2) ++ a0) a1 a2 = (fullB a0 a1 a2, 0) := fun hv => by
            have e2 : ((⟨#[48]⟩ : ByteArray) ++ a2) ++ a0 = z1 ++ (a2 ++ a0) := by
              rw [z48, ba_eq]; simp only [app_list, List.append_assoc]
            have hv' : hasP (a2 ++ a0) z1 = false := by
              rw [← bt_zero (by rw [size_app]; omega)]
              rw [← bt_zero hsz] at hv
              unfold bt at hv ⊢
              simp only [Int.toNat_zero] at hv ⊢
              rw [dif_pos hsz] at hv
              rw [dif_pos (by rw [size_app]; omega)]
              rw [ByteArray.getElem_append_left hsz]
              exact hv
            rw [e2]
            unfold normB
            rw [full_nat hv']
            have e3 : a1 ++ (a2 ++ a0) = fullB a0 a1 a2 := by rw [hf, ba_eq]; simp only [app_list, List.append_assoc]
            rw [e3, if_pos, if_pos hm]
            simp only [Bool.and_eq_true]
            refine ⟨onlyB_iff.2 ?_, hc, ha⟩
            rw [size_app, size_app, z1_size]
            exact ⟨by omega, by omega, app_dig z1_dig (app_dig ha3 hd3)⟩
          rw [if_pos (by omega)]
          have hb := bt_zero hsz
          cases hv : hasP a2 z1 with
          | true =>
            rw [hv] at hb
            rw [if_pos (by simpa using hb)]
          | false =>
            rw [hv] at hb
            rw [if_neg (by simpa using hb), n2 hv]
            simp only [hf, if_true, beq_self_eq_true]
  next => rfl

end Go.Proofs.Ytajddminbfiipaa.Pure
