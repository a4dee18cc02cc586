/- Plain law: no dialled form of a number is shorter than the one Shorten gives. -/
import Derived.Test.YtajddminbfiipaaQx5
import Derived.Test.YtajddminbfiipaaESane
import Derived.Test.YtajddminbfiipaaEPure
namespace Go.Proofs.Ytajddminbfiipaa.Pure
set_option linter.unusedVariables false
set_option linter.unusedSimpArgs false
open Go.RowKit Go.Proofs.Ytajddminbfiipaa.Q Go.Proofs.Ytajddminbfiipaa.Ext Go.Proofs.YtajddminbfiipaaW.PrintWords Go.Proofs.YtajddminbfiipaaW.PrintLast

theorem DigitsShortenIsShortest : crossbarlaw06_DigitsShortenIsShortest.Pure := by
  intro a0 a1 a2 _ _ _
  refine ⟨12, ?_⟩
  unfold crossbarlaw06_DigitsShortenIsShortest.f
  rw [sane_true 12 (by omega), short_any]
  simp only [Option.bind_some, if_true, digits_Normalize.f, digits_Shorten.f, digits_Valid.f]
  split
  next =>
    rcases norm_cases a0 a1 a2 with h | ⟨h, hd, hc, ha, hm⟩
    · rw [h]
      simp only [show ¬ ((60 : Int) = 0) by decide, if_false]
      rw [show ByteArray.empty.toList = [] by rw [toList_eq]; rfl]; rfl
    · rw [h]
      simp only [if_true]
      obtain ⟨x, hf, hx, hn⟩ := find_some (fullB a0 a1 a2) a1 a2
      have hs : shortenB (fullB a0 a1 a2) a1 a2 = (x, 0) := by
        unfold shortenB
        rw [if_pos (by rw [hm, hc, ha]; rfl), hf]; rfl
      rw [hs, hm]
      simp only [if_true]
      have hd1 := (onlyB_iff.1 hd).1
      have hc1 := (onlyB_iff.1 hc).1
      rcases short_shortest (by omega) (by omega) hf with h | h
      · rw [if_pos (by omega), if_pos (by omega)]
      · subst h
        rw [if_pos (by omega), if_neg (by omega)]
        simp
  next => rfl

end Go.Proofs.Ytajddminbfiipaa.Pure
