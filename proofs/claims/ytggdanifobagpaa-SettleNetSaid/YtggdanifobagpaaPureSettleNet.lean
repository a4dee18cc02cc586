/- Plain law: netting keeps each carrier's balance, leaves at most one of two carriers in debt to the other, and is idempotent. -/
import Derived.Test.YtggdanifobagpaaQx9
import Derived.Test.YtggdanifobagpaaEPlainRef
namespace Go.Proofs.Ytggdanifobagpaa.Pure
set_option linter.unusedVariables false
set_option linter.unusedSimpArgs false
open Go.RowKit Go.Proofs.Ytggdanifobagpaa.Q Go.Proofs.Ytggdanifobagpaa.Ext Go.Proofs.YtggdanifobagpaaW.PrintWords Go.Proofs.YtggdanifobagpaaW.PrintLast Go.Proofs.YtggdanifobagpaaW.PrintMore

theorem ent_ok {o : List (List Int)} (h : MatOk o) {i j : Nat} (hi : i < o.length) (hj : j < o.length) : 0 ≤ ent o i j ∧ ent o i j ≤ 1152921504606846976 := by
  obtain ⟨h1, h2, h3⟩ := h.2.2 i hi
  have hj' : j < (o.getD i []).length := by omega
  unfold ent
  rw [getD_int hj']
  exact h3 _ (List.getElem_mem hj')
theorem netE_eq {o : List (List Int)} (h : MatOk o) {i j : Nat} (hi : i < o.length) (hj : j < o.length) : netE o i j = mx 0 (ent o i j - ent o j i) := by
  have h1 := ent_ok h hi hj
  have h2 := ent_ok h hj hi
  unfold netE
  have : wrap64 (ent o i j - ent o j i) = ent o i j - ent o j i := by unfold wrap64; omega
  rw [this]
theorem netM_len (o : List (List Int)) : (netM o).length = o.length := by simp [netM]
theorem netM_row {o : List (List Int)} {i : Nat} (hi : i < o.length) : (netM o).getD i [] = (List.range o.length).map (netE o i) := by
  simp [netM, List.getD_eq_getElem?_getD, hi]
theorem netM_ent {o : List (List Int)} {i j : Nat} (hi : i < o.length) (hj : j < o.length) : ent (netM o) i j = netE o i j := by
  unfold ent
  rw [netM_row hi]
  simp [List.getD_eq_getElem?_getD, hj]
theorem netM_ok {o : List (List Int)} (h : MatOk o) : MatOk (netM o) := by
  refine ⟨by rw [netM_len]; exact h.1, by rw [netM_len]; exact h.2.1, fun i hi => ?_⟩
  rw [netM_len] at hi ⊢
  rw [netM_row hi]
  refine ⟨by simp, ?_, fun x hx => ?_⟩
  · have : ((List.range o.length).map (netE o i)).getD i 0 = netE o i i := by simp [List.getD_eq_getElem?_getD, hi]
    rw [this, netE_eq h hi hi, Int.sub_self]; rfl
  · obtain ⟨j, hj, rfl⟩ := List.mem_map.1 hx
    rw [List.mem_range] at hj
    have h1 := ent_ok h hi hj
    have h2 := ent_ok h hj hi
    rw [netE_eq h hi hj]
    unfold mx
    split <;> omega
theorem netE_diff {o : List (List Int)} (h : MatOk o) {i j : Nat} (hi : i < o.length) (hj : j < o.length) : netE o i j - netE o j i = ent o i j - ent o j i ∧ (netE o i j > 0 → ¬ netE o j i > 0) := by
  have h1 := ent_ok h hi hj
  have h2 := ent_ok h hj hi
  rw [netE_eq h hi hj, netE_eq h hj hi]
  unfold mx
  split <;> split <;> constructor <;> intros <;> omega
theorem netM_netM {o : List (List Int)} (h : MatOk o) : netM (netM o) = netM o := by
  unfold netM
  rw [show ((List.range o.length).map fun i => (List.range o.length).map (netE o i)).length = o.length by simp]
  refine List.map_congr_left fun i hi => List.map_congr_left fun j hj => ?_
  rw [List.mem_range] at hi hj
  have hM := netM_ok h
  show netE (netM o) i j = _
  rw [netE_eq hM (by rw [netM_len]; exact hi) (by rw [netM_len]; exact hj), netM_ent hi hj, netM_ent hj hi]
  have h1 := ent_ok h hi hj
  have h2 := ent_ok h hj hi
  rw [netE_eq h hi hj, netE_eq h hj hi]
  unfold mx
  repeat' split
  all_goals omega

theorem rdent (o : List (List Int)) (i j : Nat) : rd (rd_L4 o (i : Int)) (j : Int) = ent o i j := by rw [rdL_nat, rd_nat]; rfl

theorem bal (x p q p' q' : Int) (h : p - q = p' - q') : wrap64 (wrap64 (x + p) - q) = wrap64 (wrap64 (x + p') - q') := by unfold wrap64; omega

theorem sn_l1 {o : List (List Int)} (h : MatOk o) (i : Nat) (hi : i < o.length) (R : Option Bool) (need : Nat)
    (next : ∀ k, need ≤ k → crossbarlaw31_SettleNet.l0 k o (netM o) ((i + 1 : Nat) : Int) = R) :
    ∀ (e j k : Nat) (x : Int), o.length - j = e → j ≤ o.length → need + e + 1 ≤ k → crossbarlaw31_SettleNet.l1 k o (netM o) (i : Int) x x (j : Int) = R := by
  have hn := h.2.1
  have hl := netM_len o
  intro e
  induction e with
  | zero =>
    intro j k x he hj hk
    obtain ⟨k, rfl⟩ : ∃ q, k = q + 1 := ⟨k - 1, by omega⟩
    simp only [crossbarlaw31_SettleNet.l1]
    rw [if_neg (by rw [hl]; omega), if_pos trivial, wsucc (by omega)]
    exact next k (by omega)
  | succ e ih =>
    intro j k x he hj hk
    obtain ⟨k, rfl⟩ : ∃ q, k = q + 1 := ⟨k - 1, by omega⟩
    have hj' : j < o.length := by omega
    have li : ((netM o).getD i []).length = o.length := by rw [netM_row hi]; simp
    have lj : ((netM o).getD j []).length = o.length := by rw [netM_row hj']; simp
    have oi := (h.2.2 i hi).1
    have oj := (h.2.2 j hj').1
    obtain ⟨hd, hp⟩ := netE_diff h hi hj'
    have go : crossbarlaw31_SettleNet.l1 k o (netM o) (i : Int) (wrap64 ((wrap64 (x + ent o i j)) - ent o j i)) (wrap64 ((wrap64 (x + netE o i j)) - netE o j i)) ((j + 1 : Nat) : Int) = R := by
      rw [bal x _ _ _ _ hd]
      exact ih (j + 1) k _ (by omega) (by omega) (by omega)
    simp only [crossbarlaw31_SettleNet.l1]
    simp only [rdent, netM_ent hi hj', netM_ent hj' hi]
    simp only [rdL_nat, li, lj, oi, oj, hl, wsucc (show j < 1000000000 by omega)]
    rw [if_pos (by omega), if_pos (by omega), if_pos (by omega), if_pos (by omega), if_pos (by omega)]
    split
    next hpos =>
      rw [if_pos (by omega), if_neg (hp hpos), if_pos (by omega), if_pos (by omega), if_pos (by omega), if_pos (by omega)]
      exact go
    next =>
      rw [if_pos (by omega), if_pos (by omega), if_pos (by omega), if_pos (by omega), if_pos (by omega)]
      exact go

theorem sn_l0 {o : List (List Int)} (h : MatOk o) : ∀ (d i k : Nat), o.length - i = d → i ≤ o.length → 70 * d + 10 ≤ k → crossbarlaw31_SettleNet.l0 k o (netM o) (i : Int) = some true := by
  have hn := h.2.1
  have hl := netM_len o
  intro d
  induction d with
  | zero =>
    intro i k hd hi hk
    obtain ⟨k, rfl⟩ : ∃ q, k = q + 1 := ⟨k - 1, by omega⟩
    simp only [crossbarlaw31_SettleNet.l0]
    rw [if_neg (by rw [hl]; omega)]
  | succ d ih =>
    intro i k hd hi hk
    obtain ⟨k, rfl⟩ : ∃ q, k = q + 1 := ⟨k - 1, by omega⟩
    simp only [crossbarlaw31_SettleNet.l0]
    rw [if_pos (by rw [hl]; omega)]
    exact sn_l1 h i (by omega) _ (70 * d + 10) (fun k hk => ih (i + 1) k (by omega) (by omega) hk) o.length 0 k 0 (by omega) (by omega) (by omega)

theorem SettleNet (o : List (List Int)) : ∃ k, crossbarlaw31_SettleNet.f k o = some true := by
  have hsane : crossbarlaw31_sane.f = some true := rfl
  refine ⟨7000, ?_⟩
  unfold crossbarlaw31_SettleNet.f
  rw [hsane]
  simp only [Option.bind_some, if_true]
  split
  next => rfl
  next =>
    by_cases h : MatOk o
    · have hM := netM_ok h
      have hn := h.2.1
      have hl := netM_len o
      rw [(net_any o (k := 7000) (by omega)).1 h]
      simp only [Option.bind_some, if_true]
      rw [(net_any (netM o) (k := 7000) (by omega)).1 hM, netM_netM h]
      simp only [Option.bind_some, if_true]
      rw [rows_eq (netM o) (netM o) (by omega) (fun r hr => by
        obtain ⟨i, _, rfl⟩ := List.mem_map.1 hr
        simp; omega) (by omega), decide_eq_true rfl]
      simp only [Option.bind_some, if_true]
      rw [if_pos (by omega), (mat_any o (k := 7000) (by omega)).1 h, (mat_any (netM o) (k := 7000) (by omega)).1 hM]
      simp only [Option.bind_some, if_true, Bool.not_true, crossbarlaw31_SettleNet.j0, Bool.false_eq_true, if_false]
      exact sn_l0 h o.length 0 6999 (by omega) (by omega) (by omega)
    · rw [(net_any o (k := 7000) (by omega)).2 h]
      rfl
end Go.Proofs.Ytggdanifobagpaa.Pure
