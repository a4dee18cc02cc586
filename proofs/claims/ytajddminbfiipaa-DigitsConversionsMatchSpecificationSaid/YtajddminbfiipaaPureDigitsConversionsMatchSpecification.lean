/- Plain law: Normalize and Shorten are the reference's. -/
import Derived.Test.YtajddminbfiipaaQx2
import Derived.Test.YtajddminbfiipaaESane
namespace Go.Proofs.Ytajddminbfiipaa.Pure
set_option linter.unusedVariables false
set_option linter.unusedSimpArgs false
open Go.RowKit Go.Proofs.Ytajddminbfiipaa.Q Go.Proofs.Ytajddminbfiipaa.Ext Go.Proofs.YtajddminbfiipaaW.PrintWords Go.Proofs.YtajddminbfiipaaW.PrintLast

theorem DigitsConversionsMatchSpecification : crossbarlaw06_DigitsConversionsMatchSpecification.Pure := by
  intro a0 a1 a2 _ _ _
  refine ⟨12, ?_⟩
  unfold crossbarlaw06_DigitsConversionsMatchSpecification.f
  rw [sane_true 12 (by omega), short_any]
  simp only [Option.bind_some, if_true, digits_Normalize.f, crossbarref06_Normalize.f, digits_Shorten.f, crossbarref06_Shorten.f, digits_Valid.f, crossbarref06_Valid.f, beq_self_eq_true]
  split <;> rfl

end Go.Proofs.Ytajddminbfiipaa.Pure
