/- What digits.only answers, for every string and every two bounds: whether the length lies between the bounds and each byte is a digit. -/
import Derived.Test.YtajddminbfiipaaShelf
import Derived.Test.YtajddminbfiipaaEMinCode
import Derived.WalkKit
import Derived.Laws.RangeAny
import Derived.Laws.RangeString
namespace Go.Proofs.Ytajddminbfiipaa.Ext
open Go.Shelf Go.RowKit Go.Lib

def nonDigit (r : Nat) : Bool := decide (r < 48) || decide (57 < r)
def isDig (c : UInt8) : Bool := decide (48 ≤ c.toNat) && decide (c.toNat ≤ 57)
def allDig (s : ByteArray) : Bool := s.data.toList.all isDig

theorem pred44 (w : World) : PredAt Try.prog 44 #[] encR nonDigit w := fun W r _ => by
  unfold FnGives
  by_cases h1 : r < 48 <;> by_cases h2 : 57 < r
  all_goals
    have z1 : (r : Int) < 48 ↔ r < 48 := by omega
    have z2 : (57 : Int) < (r : Int) ↔ 57 < r := by omega
    go_enter Try.func44, Try.ntmps44
    go_wp2
    all_goals first | (exfalso; omega) | (go_ret; exact ⟨by simp [nonDigit, h1, h2], 0, rfl⟩)

theorem from_digits (s : ByteArray) : ∀ (f pos : Nat), s.size ≤ f + pos → (idxFuncFrom nonDigit true s f pos = -1 ↔ ∀ i (h : i < s.size), pos ≤ i → isDig (s[i]'h) = true)
  | 0, pos, hf => by
    simp only [idxFuncFrom, true_iff]
    intro i h hp; omega
  | f + 1, pos, hf => by
    unfold idxFuncFrom
    by_cases hlt : pos < s.size
    · rw [if_pos hlt]
      by_cases ha : (s[pos]'hlt).toNat < 128
      · rw [decode_ascii s pos hlt ha]
        by_cases hd : isDig (s[pos]'hlt) = true
        · have hn : ¬ (nonDigit (s[pos]'hlt).toNat = true) := by
            simp [isDig] at hd; simp [nonDigit]; omega
          rw [if_neg hn, from_digits s f (pos + 1) (by omega)]
          constructor
          · intro h i hi hp
            by_cases e : i = pos
            · subst e; exact hd
            · exact h i hi (by omega)
          · intro h i hi hp; exact h i hi (by omega)
        · have hn : nonDigit (s[pos]'hlt).toNat = true := by
            simp [isDig] at hd; simp [nonDigit]; omega
          rw [if_pos hn]
          constructor
          · intro h; omega
          · intro h; exact absurd (h pos hlt (Nat.le_refl _)) hd
      · obtain ⟨h1, _⟩ := decode_high s pos hlt (by omega)
        have hn : nonDigit (Utf8.decode s pos).1 = true := by simp [nonDigit]; omega
        have hd : ¬ isDig (s[pos]'hlt) = true := by simp [isDig]; omega
        rw [if_pos hn]
        constructor
        · intro h; omega
        · intro h; exact absurd (h pos hlt (Nat.le_refl _)) hd
    · rw [if_neg hlt]
      constructor
      · intro _ i hi hp; omega
      · intro _; rfl

theorem allDig_iff (s : ByteArray) : allDig s = true ↔ ∀ i (h : i < s.size), isDig (s[i]'h) = true := by
  unfold allDig
  rw [List.all_eq_true]
  constructor
  · intro h i hi; exact h _ (by rw [ByteArray.getElem_eq_getElem_data]; exact Array.getElem_mem_toList _)
  · intro h c hc
    obtain ⟨i, hi, rfl⟩ := List.mem_iff_getElem.1 hc
    have := h i (by simpa using hi)
    simpa [ByteArray.getElem_eq_getElem_data] using this

theorem idx_digits (s : ByteArray) : (!decide (0 ≤ Lib.idxFunc nonDigit true s)) = allDig s := by
  have h := from_digits s s.size 0 (by omega)
  have ha := allDig_iff s
  have hr := Lib.idxFunc_range nonDigit true s
  unfold Lib.idxFunc at hr ⊢
  by_cases e : idxFuncFrom nonDigit true s s.size 0 = -1
  · rw [e]
    have : allDig s = true := ha.2 (fun i hi => h.1 e i hi (Nat.zero_le _))
    rw [this]; decide
  · have h0 : 0 ≤ idxFuncFrom nonDigit true s s.size 0 := by omega
    have hn : allDig s = false := by
      cases hh : allDig s with
      | false => rfl
      | true => exact absurd (h.2 (fun i hi _ => ha.1 hh i hi)) e
    rw [hn, decide_eq_true h0]; rfl

def onlyB (s : ByteArray) (a b : Int) : Bool := decide (a ≤ (s.size : Int)) && (decide ((s.size : Int) ≤ b) && allDig s)
def digits_only.f (a0 : ByteArray) (a1 : Int) (a2 : Int) : Option (Bool) := some (onlyB a0 a1 a2)

set_option maxHeartbeats 1000000 in
theorem digits_only.calls (a0 : ByteArray) (a1 : Int) (a2 : Int) (r : Bool) (w : World) (h : digits_only.f a0 a1 a2 = some r) :
    Calls Try.prog 29 #[.string a0, .int .i64 a1, .int .i64 a2] w fun e w' => e = .returned (.bool r) ∧ Below w.heap.size w w' := by
  have hC := fun W => Any.strings_ContainsFunc Try.l17 44 #[] (enters_of Try.func44 (by kernel_rfl) rfl) nonDigit a0 W (pred44 W)
  change ∀ W, Calls Try.prog 45 _ _ _ at hC
  have hr : onlyB a0 a1 a2 = r := by simpa [digits_only.f] using h
  clear h
  obtain ⟨I, hI⟩ : ∃ I, decide (0 ≤ Lib.idxFunc nonDigit true a0) = I := ⟨_, rfl⟩
  have hd := idx_digits a0
  unfold onlyB at hr
  rw [hI] at hC hd
  rw [← hd] at hr
  clear hI hd
  subst hr
  by_cases h1 : a1 ≤ (a0.size : Int) <;> by_cases h2 : (a0.size : Int) ≤ a2
  all_goals
    go_enter Try.func29, Try.ntmps29
    go_wp2_with (go_at_call 45; refine (hC _).mono ?_; rintro e w' ⟨rfl, hb⟩)
    go_ret
    exact ⟨by simp [h1, h2] <;> omega, by first | exact hb | exact Below.refl _ _⟩
end Go.Proofs.Ytajddminbfiipaa.Ext
