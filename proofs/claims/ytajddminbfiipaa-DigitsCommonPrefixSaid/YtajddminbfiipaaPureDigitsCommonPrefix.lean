/- Plain law: Common gives the length of the longest common prefix. -/
import Derived.Test.YtajddminbfiipaaQx9
import Derived.Test.YtajddminbfiipaaESane
import Derived.Test.YtajddminbfiipaaEPure
namespace Go.Proofs.Ytajddminbfiipaa.Pure
set_option linter.unusedVariables false
set_option linter.unusedSimpArgs false
open Go.RowKit Go.Proofs.Ytajddminbfiipaa.Q Go.Proofs.Ytajddminbfiipaa.Ext Go.Proofs.YtajddminbfiipaaW.PrintWords Go.Proofs.YtajddminbfiipaaW.PrintLast Go.Proofs.YtajddminbfiipaaW.PrintMore

theorem DigitsCommonPrefix : crossbarlaw06_DigitsCommonPrefix.Pure := by
  intro a0 a1 a2 w0 w1 w2
  refine ⟨12, ?_⟩
  unfold crossbarlaw06_DigitsCommonPrefix.f
  rw [sane_true 12 (by omega), short_any]
  have L := com_le a0.data.toList a1.data.toList
  rw [size_list, size_list] at L
  have T := com_take a0.data.toList a1.data.toList
  have C : digits_Common.f a0 a1 = some (com a0.data.toList a1.data.toList : Int) := by unfold digits_Common.f; rw [if_pos ⟨w0, w1⟩]
  have C1 : digits_Common.f a1 a0 = some (com a0.data.toList a1.data.toList : Int) := by unfold digits_Common.f; rw [if_pos ⟨w1, w0⟩, com_symm]
  have C2 : digits_Common.f a0 a0 = some (a0.size : Int) := by unfold digits_Common.f; rw [if_pos ⟨w0, w0⟩, com_self, size_list]
  have C3 : digits_Common.f a0 a2 = some (com a0.data.toList a2.data.toList : Int) := by unfold digits_Common.f; rw [if_pos ⟨w0, w2⟩]
  have C4 : digits_Common.f a1 a2 = some (com a1.data.toList a2.data.toList : Int) := by unfold digits_Common.f; rw [if_pos ⟨w1, w2⟩]
  have U := com_ultra a0.data.toList a1.data.toList a2.data.toList
  have P : (matchesB [a0] a1) = ((com a0.data.toList a1.data.toList : Int) == (a0.size : Int)) := by
    unfold matchesB
    rw [Bool.eq_iff_iff]
    simp only [List.any_cons, List.any_nil, Bool.or_false, beq_iff_eq]
    rw [hasP_iff, com_prefix, size_list]
    omega
  have D : com a0.data.toList a1.data.toList < a0.size → com a0.data.toList a1.data.toList < a1.size →
      (bt a0 (com a0.data.toList a1.data.toList : Int) != bt a1 (com a0.data.toList a1.data.toList : Int)) = true := fun h0 h1 => by
    have h := com_diff a0.data.toList a1.data.toList (by rw [size_list]; exact h0) (by rw [size_list]; exact h1)
    rw [get_list h0, get_list h1] at h
    unfold bt
    simp only [Int.toNat_natCast]
    rw [dif_pos h0, dif_pos h1]
    simp only [bne_iff_ne, ne_eq]
    intro e
    exact h (UInt8.toNat_inj.1 (by omega))
  generalize hn : com a0.data.toList a1.data.toList = n at *
  have J : crossbarlaw06_DigitsCommonPrefix.j1 11 a0 a1 a2 (n : Int) true = some true := by
    simp only [crossbarlaw06_DigitsCommonPrefix.j1, digits_Matches.f, Option.bind_some, if_true, P, beq_self_eq_true, C1, C2, C3, C4]
    refine congrArg some (decide_eq_true ?_)
    unfold mn
    split <;> omega
  simp only [Option.bind_some, if_true, C]
  split
  next =>
    rw [if_neg (by omega), if_neg (by omega), if_neg (by omega), if_pos (by omega), if_pos (by omega), if_pos (by omega)]
    have e : ((a0.extract 0 (n : Int).toNat).toList != (a1.extract 0 (n : Int).toNat).toList) = false := by
      rw [toList_eq, toList_eq, Int.toNat_natCast, ext_take', ext_take', T]; simp
    rw [e]
    simp only [crossbarlaw06_DigitsCommonPrefix.j0, Bool.false_eq_true, if_false]
    by_cases h0 : (n : Int) = (a0.size : Int)
    · rw [if_pos h0]; exact J
    · rw [if_neg h0]
      by_cases h1 : (n : Int) = (a1.size : Int)
      · rw [if_pos h1]; exact J
      · rw [if_neg h1, if_pos (by omega), if_pos (by omega), if_pos (by omega), D (by omega) (by omega)]; exact J
  next => rfl

end Go.Proofs.Ytajddminbfiipaa.Pure
