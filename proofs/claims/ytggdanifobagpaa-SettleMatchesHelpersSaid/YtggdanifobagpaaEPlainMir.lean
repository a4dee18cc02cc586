/- Plain laws: settle.Mirror and the reference's Mirror and Net. -/
import Derived.Test.YtggdanifobagpaaEPlainRef
import Derived.Test.YtggdanifobagpaaQx10
namespace Go.Proofs.Ytggdanifobagpaa.Pure
set_option linter.unusedVariables false
set_option linter.unusedSimpArgs false
open Go.RowKit Go.Proofs.Ytggdanifobagpaa.Q Go.Proofs.Ytggdanifobagpaa.Ext Go.Proofs.YtggdanifobagpaaW.PrintWords Go.Proofs.YtggdanifobagpaaW.PrintLast Go.Proofs.YtggdanifobagpaaW.PrintMore

theorem rdT_nat {l : List S36} {i : Nat} (h : i < l.length) : rd_T36 l (i : Int) = l[i] := by simp [rd_T36, List.getD_eq_getElem?_getD, h]
theorem mirL_len (own : Int) (l : List S36) : (mirL own l).length ≤ l.length := mir_len own l
theorem mir_eq (own : Int) (l : List S36) (hl : l.length ≤ 10000) : settle_Mirror.f l own = some (mirL own l) := by
  unfold settle_Mirror.f
  rw [if_pos (by omega)]
theorem rmir_eq (own : Int) (l : List S36) (hl : l.length ≤ 10000) : crossbarref31_Mirror.f l own = some (mirL own l) := by
  unfold crossbarref31_Mirror.f
  rw [if_pos (by omega)]

/-! ### the reference's Net -/
theorem rnet_l1 (o : List (List Int)) (hlen : ∀ a, a < o.length → (o.getD a []).length = o.length) (hn : o.length ≤ 64) (i : Nat) (hi : i < o.length) (x4 : List (List Int)) (hx : x4.length ≤ 64) (R : Option (List (List Int) × Int)) (need : Nat)
    (next : ∀ k, need ≤ k → crossbarref31_Net.l0 k o (x4 ++ [(List.range o.length).map (netE o i)]) ((i + 1 : Nat) : Int) = R) :
    ∀ (e j k : Nat), o.length - j = e → j ≤ o.length → need + e + 1 ≤ k → crossbarref31_Net.l1 k o x4 (i : Int) ((List.range j).map (netE o i)) (j : Int) = R := by
  intro e
  induction e with
  | zero =>
    intro j k he hj hk
    obtain ⟨k, rfl⟩ : ∃ q, k = q + 1 := ⟨k - 1, by omega⟩
    obtain rfl : j = o.length := by omega
    simp only [crossbarref31_Net.l1]
    rw [if_neg (by omega), if_pos (by omega), wsucc (by omega)]
    exact next k (by omega)
  | succ e ih =>
    intro j k he hj hk
    obtain ⟨k, rfl⟩ : ∃ q, k = q + 1 := ⟨k - 1, by omega⟩
    have hj' : j < o.length := by omega
    simp only [crossbarref31_Net.l1]
    rw [if_pos (by omega), if_pos (by omega), if_pos (by omega), if_pos (by omega), rdL_nat, rdL_nat, rd_nat, rd_nat, if_pos (by rw [hlen i hi]; omega), if_pos (by rw [hlen j hj']; omega), if_pos (by simp; omega), wsucc (by omega)]
    show crossbarref31_Net.l1 k o x4 (i : Int) ((List.range j).map (netE o i) ++ [netE o i j]) _ = R
    have e1 : (List.range j).map (netE o i) ++ [netE o i j] = (List.range (j + 1)).map (netE o i) := by rw [List.range_succ, List.map_append]; rfl
    rw [e1]
    exact ih (j + 1) k (by omega) (by omega) (by omega)

theorem rnet_l0 (o : List (List Int)) (hlen : ∀ a, a < o.length → (o.getD a []).length = o.length) (hn : o.length ≤ 64) : ∀ (d i k : Nat), o.length - i = d → i ≤ o.length → 70 * d + 10 ≤ k →
    crossbarref31_Net.l0 k o ((List.range i).map fun a => (List.range o.length).map (netE o a)) (i : Int) = some (netM o, 0) := by
  intro d
  induction d with
  | zero =>
    intro i k hd hi hk
    obtain ⟨k, rfl⟩ : ∃ q, k = q + 1 := ⟨k - 1, by omega⟩
    obtain rfl : i = o.length := by omega
    simp only [crossbarref31_Net.l0]
    rw [if_neg (by omega)]; rfl
  | succ d ih =>
    intro i k hd hi hk
    obtain ⟨k, rfl⟩ : ∃ q, k = q + 1 := ⟨k - 1, by omega⟩
    have hi' : i < o.length := by omega
    simp only [crossbarref31_Net.l0]
    rw [if_pos (by omega)]
    refine rnet_l1 o hlen hn i hi' _ (by simp; omega) _ (70 * d + 10) (fun k hk => ?_) o.length 0 k (by omega) (by omega) (by omega)
    have e1 : ((List.range i).map fun a => (List.range o.length).map (netE o a)) ++ [(List.range o.length).map (netE o i)] = (List.range (i + 1)).map fun a => (List.range o.length).map (netE o a) := by
      rw [List.range_succ, List.map_append]; rfl
    rw [e1]
    exact ih (i + 1) k (by omega) (by omega) hk
theorem rnet_any (o : List (List Int)) {k : Nat} (hk : 6000 ≤ k) : (MatOk o → crossbarref31_Net.f k o = some (netM o, 0)) ∧ (¬ MatOk o → crossbarref31_Net.f k o = some ([], 1)) := by
  refine ⟨fun hm => ?_, fun hm => ?_⟩
  · unfold crossbarref31_Net.f
    rw [(mat_any o (k := k) (by omega)).1 hm]
    simp only [Option.bind_some, if_true]
    have hn := hm.2.1
    exact rnet_l0 o (fun a ha => (hm.2.2 a ha).1) hm.2.1 o.length 0 k (by omega) (by omega) (by omega)
  · unfold crossbarref31_Net.f
    rw [(mat_any o (k := k) (by omega)).2 hm]
    rfl

/-! ### Records -/
theorem recs_l0 (l : List S36) (hl : l.length ≤ 10000) : ∀ (d i k : Nat), l.length - i = d → i ≤ l.length → d < k → crossbarref31_Records.l0 k l l (i : Int) = some true := by
  intro d
  induction d with
  | zero =>
    intro i k hd hi hk
    obtain ⟨k, rfl⟩ : ∃ q, k = q + 1 := ⟨k - 1, by omega⟩
    simp only [crossbarref31_Records.l0]
    rw [if_neg (by omega)]
  | succ d ih =>
    intro i k hd hi hk
    obtain ⟨k, rfl⟩ : ∃ q, k = q + 1 := ⟨k - 1, by omega⟩
    simp only [crossbarref31_Records.l0]
    rw [if_pos (by omega), if_pos (by omega), if_pos (by omega), if_neg (by simp), wsucc (by omega)]
    exact ih (i + 1) k (by omega) (by omega) (by omega)
theorem recs_eq (l : List S36) (hl : l.length ≤ 10000) {k : Nat} (hk : l.length < k) : crossbarref31_Records.f k l l = some true := by
  unfold crossbarref31_Records.f
  rw [if_pos rfl]
  exact recs_l0 l hl l.length 0 k rfl (Nat.zero_le _) hk
end Go.Proofs.Ytggdanifobagpaa.Pure
