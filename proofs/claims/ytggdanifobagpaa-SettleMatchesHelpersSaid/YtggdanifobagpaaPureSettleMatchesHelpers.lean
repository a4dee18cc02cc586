/- Plain law: Mirror and Net answer as the reference's do. -/
import Derived.Test.YtggdanifobagpaaQx10

import Derived.Test.YtggdanifobagpaaEPlainMir
namespace Go.Proofs.Ytggdanifobagpaa.Pure
set_option linter.unusedVariables false
set_option linter.unusedSimpArgs false
open Go.RowKit Go.Proofs.Ytggdanifobagpaa.Q Go.Proofs.Ytggdanifobagpaa.Ext Go.Proofs.YtggdanifobagpaaW.PrintWords Go.Proofs.YtggdanifobagpaaW.PrintLast Go.Proofs.YtggdanifobagpaaW.PrintMore

theorem netM_len' (o : List (List Int)) : (netM o).length = o.length := by simp [netM]
theorem SettleMatchesHelpers (l : List S36) (own : Int) (o : List (List Int)) : ∃ k, crossbarlaw31_SettleMatchesHelpers.f k l own o = some true := by
  have hsane : crossbarlaw31_sane.f = some true := rfl
  refine ⟨7001, ?_⟩
  unfold crossbarlaw31_SettleMatchesHelpers.f
  rw [hsane]
  simp only [Option.bind_some, if_true]
  split
  next => simp only [crossbarlaw31_SettleMatchesHelpers.j0, if_true]
  next hl =>
    simp only [crossbarlaw31_SettleMatchesHelpers.j0]
    split
    next => rfl
    next =>
      have hml := mirL_len own l
      have hm : ∃ r : List (List Int) × Int, settle_Net.f 7000 o = some r ∧ crossbarref31_Net.f 7000 o = some r ∧ r.1.length ≤ 1000 ∧ ∀ x ∈ r.1, x.length ≤ 1000 := by
        by_cases h : MatOk o
        · have hn := h.2.1
          refine ⟨_, (net_any o (by omega)).1 h, (rnet_any o (by omega)).1 h, by rw [netM_len']; omega, fun r hr => ?_⟩
          obtain ⟨i, _, rfl⟩ := List.mem_map.1 hr
          simp; omega
        · exact ⟨_, (net_any o (by omega)).2 h, (rnet_any o (by omega)).2 h, by simp, by simp⟩
      obtain ⟨r, h1, h2, h3, h4⟩ := hm
      rw [h1, h2, mir_eq own l (by omega), rmir_eq own l (by omega)]
      simp only [Option.bind_some]
      rw [recs_eq _ (by omega) (by omega)]
      simp only [Option.bind_some, if_true]
      rw [rows_eq r.1 r.1 h3 h4 (by omega), decide_eq_true rfl]
      simp
end Go.Proofs.Ytggdanifobagpaa.Pure
