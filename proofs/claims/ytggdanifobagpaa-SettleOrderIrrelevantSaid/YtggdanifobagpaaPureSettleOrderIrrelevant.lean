/- Plain law: the order of the records, Peer and the records of subscribers are irrelevant. -/
import Derived.Test.YtggdanifobagpaaQx6
import Derived.Test.YtggdanifobagpaaEPlainSame
namespace Go.Proofs.Ytggdanifobagpaa.Pure
set_option linter.unusedVariables false
set_option linter.unusedSimpArgs false
open Go.RowKit Go.Proofs.Ytggdanifobagpaa.Q Go.Proofs.Ytggdanifobagpaa.Ext Go.Proofs.YtggdanifobagpaaW.PrintWords Go.Proofs.YtggdanifobagpaaW.PrintLast Go.Proofs.YtggdanifobagpaaW.PrintMore

theorem oi_j1 (a b : List S36) (tol own : Int) (ha : a.length ≤ 60) (hb : b.length ≤ 60) (k : Nat) (hk : 1000 < k) :
    crossbarlaw31_SettleOrderIrrelevant.j1 k a b tol own (matchL a b tol).2.2.2 false (matchL a b tol).1 (matchL a b tol).2.1 (matchL a b tol).2.2.1 = some true := by
  obtain ⟨k, rfl⟩ : ∃ q, k = q + 1 := ⟨k - 1, by omega⟩
  simp only [crossbarlaw31_SettleOrderIrrelevant.j1, Bool.false_eq_true, if_false]
  by_cases he : (matchL a b tol).2.2.2 = 0
  · rw [if_pos he]
    have l1 := mir_len own a
    have l2 := mir_len own (mirL own a)
    have l3 := mir_len own b
    have l4 := mir_len own (mirL own b)
    have hl := matchL_lens a b tol
    rw [mirror_eq a own (by omega), Option.bind_some, mirror_eq _ own (by omega), Option.bind_some, mirror_eq b own (by omega), Option.bind_some, mirror_eq _ own (by omega), Option.bind_some,
      match_eq _ _ tol (by omega) (by omega), Option.bind_some, match_mm own (matchL_zero he), if_pos he, same_refl _ _ _ (by omega) (by omega) (by omega) (by omega)]
    rfl
  · rw [if_neg he]
theorem SettleOrderIrrelevant (a b : List S36) (tol own : Int) : ∃ k, crossbarlaw31_SettleOrderIrrelevant.f k a b tol own = some true := by
  refine ⟨3000, ?_⟩
  have hsane : crossbarlaw31_sane.f = some true := rfl
  have jt : ∀ k, crossbarlaw31_SettleOrderIrrelevant.j0 (k + 1) a b tol own true = some true := fun k => by
    simp only [crossbarlaw31_SettleOrderIrrelevant.j0, if_true]
  unfold crossbarlaw31_SettleOrderIrrelevant.f
  rw [hsane]
  simp only [Option.bind_some, if_true]
  obtain ⟨t, ht, hlen⟩ := few_some a b
  rw [ht]
  simp only [Option.bind_some]
  cases t with
  | false =>
    simp only [Bool.false_eq_true, if_false]
    exact jt 2999
  | true =>
    simp only [if_true]
    by_cases h : (a.length : Int) > 60
    · rw [decide_eq_true h]
      exact jt 2999
    · rw [decide_eq_false h]
      have ha : a.length ≤ 60 := by omega
      have hb := hlen rfl ha
      have hl := matchL_lens a b tol
      have hp := match_perm (List.reverse_perm a) (List.reverse_perm b) tol
      show crossbarlaw31_SettleOrderIrrelevant.j0 (2999 + 1) a b tol own false = some true
      simp only [crossbarlaw31_SettleOrderIrrelevant.j0, Bool.false_eq_true, if_false]
      rw [match_eq a b tol (by omega) (by omega), Option.bind_some, rev_eq a (by omega) (by omega), Option.bind_some, rev_eq b (by omega) (by omega), Option.bind_some,
        match_eq _ _ tol (by rw [List.length_reverse]; omega) (by rw [List.length_reverse]; omega), Option.bind_some, hp, same_refl _ _ _ (by omega) (by omega) (by omega) (by omega)]
      simp only [Option.bind_some, if_true]
      have e : ((matchL a b tol).2.2.2 != (matchL a b tol).2.2.2) = false := by simp
      rw [e]
      exact oi_j1 a b tol own ha hb 2999 (by omega)
end Go.Proofs.Ytggdanifobagpaa.Pure
