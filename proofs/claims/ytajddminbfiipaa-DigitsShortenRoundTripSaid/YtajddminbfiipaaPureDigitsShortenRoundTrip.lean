/- Plain law: what Shorten gives, Normalize takes back. -/
import Derived.Test.YtajddminbfiipaaQx5
import Derived.Test.YtajddminbfiipaaESane
import Derived.Test.YtajddminbfiipaaEPure
namespace Go.Proofs.Ytajddminbfiipaa.Pure
set_option linter.unusedVariables false
set_option linter.unusedSimpArgs false
open Go.RowKit Go.Proofs.Ytajddminbfiipaa.Q Go.Proofs.Ytajddminbfiipaa.Ext Go.Proofs.YtajddminbfiipaaW.PrintWords Go.Proofs.YtajddminbfiipaaW.PrintLast

theorem DigitsShortenRoundTrip : crossbarlaw06_DigitsShortenRoundTrip.Pure := by
  intro a0 a1 a2 _ _ _
  refine ⟨12, ?_⟩
  unfold crossbarlaw06_DigitsShortenRoundTrip.f
  rw [sane_true 12 (by omega), short_any]
  simp only [Option.bind_some, if_true, digits_Normalize.f, digits_Shorten.f, digits_Valid.f]
  split
  next =>
    by_cases h : (onlyB a0 1 15 && (onlyB a1 1 15 && onlyB a2 0 15)) = true
    · obtain ⟨x, e1, e2⟩ := short_good h
      simp only [e1, e2, if_true, beq_self_eq_true]
    · rw [short_bad h]
      simp only [show ¬ ((60 : Int) = 0) by decide, if_false]
      rw [if_pos (show ByteArray.empty.toList = [] by rw [toList_eq]; rfl)]
      split
      next h0 =>
        split
        next h1 =>
          rw [h0, h1, area_eq] at h
          have : onlyB a2 1 15 = false := by
            cases e : onlyB a2 1 15 with
            | false => rfl
            | true => rw [e] at h; exact absurd rfl h
          rw [this]; rfl
        next => rfl
      next => rfl
  next => rfl

end Go.Proofs.Ytajddminbfiipaa.Pure
