/- digits.Minimal: the closure that asks whether a string has a shorter prefix in the levels. -/
import Derived.Test.YtajddminbfiipaaEMinC
import Derived.Deep.QuietTactic
import Derived.BigQuiet
namespace Go.Proofs.Ytajddminbfiipaa.Ext
set_option linter.unusedVariables false
set_option linter.unusedSimpArgs false
open Go.RowKit Go.Maps Go.WideMaps Go.Sort

theorem zero4 (w : World) : (zeroValue 4).run Try.prog w = .ok (.bool false) w := by kernel_rfl

/-- 'm[k]' at a set. -/
theorem SetAt.look {W : World} {b c : Nat} {S : Bytes → Bool} (h : SetAt W b c S) {key : ByteArray} (hk : key.size ≤ maxLen) :
    (Instr.lookup 44 (.map (some b)) (.string key) false).run Try.prog W = .ok (.bool (S key.data.toList)) W := by
  obtain ⟨D, h1, _, h3, h4⟩ := h
  obtain ⟨v, ps, hrun, hv⟩ := h1.lookup law9 Try.underlying44 (zero4 W) (plainElem_bool Try.underlying4 false) (keyOf_string_mk Try.underlying9 hk)
  rw [hrun]
  obtain ⟨a, rfl, e⟩ := plainElem_bool_inv Try.underlying4 hv
  simp only [Prod.mk.injEq] at e
  cases hs : S key.data.toList with
  | true =>
    rw [h4 _ _ hs] at e
    simp at e
    rw [← e.1]
  | false =>
    rw [atKey_of_not_has (by rw [h3, hs])] at e
    simp at e
    rw [e.1]

/-- A shorter prefix of p is in the levels. -/
def cov (S : Nat → Bytes → Bool) (k : Nat) (p : Bytes) : Bool := (List.range k).any fun m => S m (p.take m)
theorem cov_succ (S : Nat → Bytes → Bool) (k : Nat) (p : Bytes) : cov S (k + 1) p = (cov S k p || S k (p.take k)) := by
  simp [cov, List.range_succ]

theorem cov_true {S : Nat → Bytes → Bool} {k j : Nat} {p : Bytes} (h : cov S k p = true) (hk : k ≤ j) : cov S j p = true := by
  simp only [cov, List.any_eq_true, List.mem_range] at h ⊢
  obtain ⟨m, hm, h⟩ := h
  exact ⟨m, by omega, h⟩

theorem Lev.drewN {w W : World} {L N : Nat} {c : Nat → Nat} {S : Nat → Bytes → Bool} (h : Lev w L N c S W) (q : Nat) : Lev w L N c S (W.drewN q) := h.kept (row := none) ⟨rfl, rfl, rfl, Nat.le_refl _, fun _ _ _ => rfl⟩ (by simp)

set_option maxHeartbeats 1000000 in
set_option maxRecDepth 100000 in
theorem cov_calls (L N : Nat) (c : Nat → Nat) (S : Nat → Bytes → Bool) (p : ByteArray) (w W : World) (hL : Lev w L N c S W) (hp : p.size ≤ N) :
    Calls Try.prog 35 #[.string p, .pointer (some ⟨L, 0, none⟩)] W fun e w' => e = .returned (.bool (cov S p.size p.data.toList)) ∧ ∃ q, w' = W.drewN q := by
  have hN := hL.le
  go_enter Try.func35, Try.ntmps35
  go_wp2
  go_loopw [7] (fun i wr => ∃ k : Nat, k ≤ p.size ∧ i = .int .i64 k ∧ cov S k p.data.toList = false ∧ ∃ q, wr = W.drewN q) (fun i _ => p.size - (intOf i).toNat)
  case atStart => exact ⟨0, by omega, rfl, rfl, 0, rfl⟩
  case round =>
    obtain ⟨k, hk, rfl, hcv, q, rfl⟩ := hrel
    by_cases hlt : k < p.size
    · have hcell := hL.cell k (by omega)
      obtain ⟨b, hb⟩ : ∃ b, S k (p.data.toList.take k) = b := ⟨_, rfl⟩
      have hlook : ∀ n, (Instr.lookup 44 (.map (some (L + 1 + k))) (.string (p.extract 0 k)) false).run Try.prog (W.drewN n) = .ok (.bool b) (W.drewN n) := fun n => by
        have := ((hL.drewN n).set k (by omega)).look (key := p.extract 0 k) (by rw [ByteArray.size_extract]; unfold maxLen; omega)
        rwa [ext_take, hb] at this
      have hlook2 : ∀ n m, (Instr.lookup 44 (.map (some (L + 1 + k))) (.string (p.extract 0 k)) false).run Try.prog ((W.drewN n).drewN m) = .ok (.bool b) ((W.drewN n).drewN m) := fun n m => by
        have := (((hL.drewN n).drewN m).set k (by omega)).look (key := p.extract 0 k) (by rw [ByteArray.size_extract]; unfold maxLen; omega)
        rwa [ext_take, hb] at this
      have hk15 : (k : Int) < 15 := by omega
      have hk0 : (0 : Int) ≤ (k : Int) := by omega
      have hkp : (k : Int) ≤ (p.size : Int) := by omega
      have hnext : cov S (k + 1) p.data.toList = b := by rw [cov_succ, hcv, hb]; simp
      have HN := Lib.hid hnext
      clear hnext hcv hb
      cases b with
      | false =>
        go_wp2
        go_quiet (fail)
        go_wp2
        go_roundw
        case rel => exact ⟨k + 1, by omega, by go_num, HN.out, q + nq, by simp⟩
        case measure => simp [intOf]; omega
      | true =>
        go_wp2
        go_quiet (fail)
        go_wp2
        go_ret
        exact ⟨by rw [cov_true HN.out (by omega)]; rfl, q + nq, by simp⟩
    · obtain rfl : k = p.size := by omega
      have H := Lib.hid hcv
      clear hcv
      go_wp2
      go_ret
      exact ⟨by rw [H.out]; rfl, q, rfl⟩
end Go.Proofs.Ytajddminbfiipaa.Ext
