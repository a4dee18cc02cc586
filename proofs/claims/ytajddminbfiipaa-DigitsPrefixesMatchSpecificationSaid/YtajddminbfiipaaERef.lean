/- What the reference's Only, Valid, Starts and Normalize answer, and digits.Common: for every string. -/
import Derived.Test.YtajddminbfiipaaEFull
namespace Go.Proofs.Ytajddminbfiipaa.Ext
open Go.RowKit Go.Lib


theorem toList_eq (b : ByteArray) : b.toList = b.data.toList := ByteArray.toList_eq b
theorem ext_take' (s : ByteArray) (n : Nat) : (s.extract 0 n).data.toList = s.data.toList.take n := by simp

theorem isDig_int (c : UInt8) : isDig c = true ↔ ¬ ((c.toNat : Int) < 48) ∧ ¬ (57 < (c.toNat : Int)) := by
  simp only [isDig, Bool.and_eq_true, decide_eq_true_eq]; omega

set_option maxHeartbeats 1000000 in
theorem ref_only (s : ByteArray) (a b : Int) (w : World) (hb : b ≤ 1000) : Calls Try.prog 32 #[.string s, .int .i64 a, .int .i64 b] w fun e w' => e = .returned (.bool (onlyB s a b)) ∧ w' = w := by
  by_cases h1 : a ≤ (s.size : Int)
  · by_cases h2 : (s.size : Int) ≤ b
    · have hon : onlyB s a b = allDig s := by simp [onlyB, h1, h2]
      rw [hon]
      clear hon
      go_enter Try.func32, Try.ntmps32
      go_wp2
      go_loop [7] (fun i => ∃ k : Nat, k ≤ s.size ∧ i = .int .i64 k ∧ ∀ j (h : j < s.size), j < k → isDig (s[j]'h) = true) (fun i => s.size - (intOf i).toNat)
      case atStart => exact ⟨0, Nat.zero_le _, rfl, fun j _ h => absurd h (Nat.not_lt_zero _)⟩
      case round =>
        obtain ⟨k, hk, rfl, hd⟩ := hrel
        by_cases hlt : k < s.size
        · by_cases hdk : isDig (s[k]'hlt) = true
          · obtain ⟨g1, g2⟩ := (isDig_int _).1 hdk
            have hd' : ∀ j (h : j < s.size), j < k + 1 → isDig (s[j]'h) = true := by
              intro j h hj
              by_cases e : j = k
              · subst e; exact hdk
              · exact hd j h (by omega)
            have HD := Lib.hid hd'
            clear hd hd' hdk
            go_wp2
            go_round
            case rel => exact ⟨k + 1, by omega, by go_num, HD.out⟩
            case measure => simp [intOf]; omega
          · have hf : allDig s = false := by
              cases hh : allDig s with
              | false => rfl
              | true => exact absurd ((allDig_iff s).1 hh k hlt) hdk
            have hor : (s[k]'hlt).toNat < 48 ∨ 57 < (s[k]'hlt).toNat := by
              simp only [isDig, Bool.and_eq_true, decide_eq_true_eq] at hdk; omega
            have HF := Lib.hid hf
            clear hf hd hdk
            rcases hor with g | g
            · have g1 : ((s[k]'hlt).toNat : Int) < 48 := by omega
              go_wp2
              go_ret
              exact ⟨by rw [HF.out]; rfl, rfl⟩
            · have g1 : ¬ ((s[k]'hlt).toNat : Int) < 48 := by omega
              have g2 : (57 : Int) < ((s[k]'hlt).toNat : Int) := by omega
              go_wp2
              go_ret
              exact ⟨by rw [HF.out]; rfl, rfl⟩
        · have hf : allDig s = true := (allDig_iff s).2 (fun i h => hd i h (by omega))
          have HF := Lib.hid hf
          clear hf hd
          go_wp2
          go_ret
          exact ⟨by rw [HF.out]; rfl, rfl⟩
    · have hon : onlyB s a b = false := by simp [onlyB]; omega
      rw [hon]
      have h2' : b < (s.size : Int) := by omega
      go_enter Try.func32, Try.ntmps32
      go_wp2
      go_ret
      exact ⟨rfl, rfl⟩
  · have hon : onlyB s a b = false := by simp [onlyB]; omega
    rw [hon]
    have h1' : (s.size : Int) < a := by omega
    go_enter Try.func32, Try.ntmps32
    go_wp2
    go_ret
    exact ⟨rfl, rfl⟩
theorem ref_valid (s : ByteArray) (w : World) : Calls Try.prog 19 #[.string s] w fun e w' => e = .returned (.bool (onlyB s 1 15)) ∧ w' = w := by
  have hC := fun W => ref_only s 1 15 W (by omega)
  generalize onlyB s 1 15 = b at hC ⊢
  go_enter Try.func19, Try.ntmps19
  go_wp2_with (go_at_call 32; refine (hC _).mono ?_; rintro e w' ⟨rfl, rfl⟩)
  go_ret
  exact ⟨rfl, rfl⟩

theorem hasP_len {s p : ByteArray} (h : ¬ p.size ≤ s.size) : hasP s p = false := by
  cases hh : hasP s p with
  | false => rfl
  | true =>
    have := (List.isPrefixOf_iff_prefix.1 hh).length_le
    simp at this
    exact absurd this h
theorem hasP_take {s p : ByteArray} : ((s.extract 0 p.size).toList == p.toList) = hasP s p := by
  rw [toList_eq, toList_eq, ext_take']
  unfold hasP Lib.hasPrefix
  rw [Bool.eq_iff_iff, beq_iff_eq, List.isPrefixOf_iff_prefix, List.prefix_iff_eq_take]
  have : p.data.toList.length = p.size := by simp
  rw [this]
  exact eq_comm

set_option maxHeartbeats 1000000 in
theorem ref_starts (s p : ByteArray) (w : World) : Calls Try.prog 33 #[.string s, .string p] w fun e w' => e = .returned (.bool (hasP s p)) ∧ w' = w := by
  by_cases h1 : p.size ≤ s.size
  · have h1' : (p.size : Int) ≤ (s.size : Int) := by omega
    have ht := hasP_take (s := s) (p := p)
    obtain ⟨b, hb⟩ : ∃ b, hasP s p = b := ⟨_, rfl⟩
    rw [hb] at ht ⊢
    clear hb
    cases b with
    | false =>
      go_enter Try.func33, Try.ntmps33
      go_wp2
      go_ret
      exact ⟨rfl, rfl⟩
    | true =>
      go_enter Try.func33, Try.ntmps33
      go_wp2
      go_ret
      exact ⟨rfl, rfl⟩
  · rw [hasP_len h1]
    have h1' : (s.size : Int) < (p.size : Int) := by omega
    go_enter Try.func33, Try.ntmps33
    go_wp2
    go_ret
    exact ⟨rfl, rfl⟩
end Go.Proofs.Ytajddminbfiipaa.Ext
