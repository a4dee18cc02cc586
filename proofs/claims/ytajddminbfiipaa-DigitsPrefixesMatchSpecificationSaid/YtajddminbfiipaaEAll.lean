/- The contracts of this session's own, in the form in which the printed texts meet them. -/
import Derived.Test.YtajddminbfiipaaECom
import Derived.Test.YtajddminbfiipaaESame
namespace Go.Proofs.Ytajddminbfiipaa.Ext
set_option linter.unusedVariables false
set_option linter.unusedSimpArgs false
open Go.RowKit Go.Lib

def crossbarref06_Only.f (a0 : ByteArray) (a1 : Int) (a2 : Int) : Option (Bool) := if a2 ≤ 1000 then some (onlyB a0 a1 a2) else none
theorem crossbarref06_Only.calls (a0 : ByteArray) (a1 : Int) (a2 : Int) (r : Bool) (w : World) (h : crossbarref06_Only.f a0 a1 a2 = some r) :
    Calls Try.prog 32 #[.string a0, .int .i64 a1, .int .i64 a2] w fun e w' => e = .returned (.bool r) ∧ Below w.heap.size w w' := by
  unfold crossbarref06_Only.f at h
  split at h
  · rename_i hb
    have e : onlyB a0 a1 a2 = r := by simpa using h
    rw [← e]
    refine (ref_only a0 a1 a2 w hb).mono ?_
    rintro e w' ⟨rfl, rfl⟩
    exact ⟨rfl, Below.refl _ _⟩
  · simp at h

def crossbarref06_Valid.f (a0 : ByteArray) : Option (Bool) := some (onlyB a0 1 15)
theorem crossbarref06_Valid.calls (a0 : ByteArray) (r : Bool) (w : World) (h : crossbarref06_Valid.f a0 = some r) :
    Calls Try.prog 19 #[.string a0] w fun e w' => e = .returned (.bool r) ∧ Below w.heap.size w w' := by
  have e : onlyB a0 1 15 = r := by simpa [crossbarref06_Valid.f] using h
  rw [← e]
  refine (ref_valid a0 w).mono ?_
  rintro e w' ⟨rfl, rfl⟩
  exact ⟨rfl, Below.refl _ _⟩

def crossbarref06_Starts.f (a0 : ByteArray) (a1 : ByteArray) : Option (Bool) := some (hasP a0 a1)
theorem crossbarref06_Starts.calls (a0 : ByteArray) (a1 : ByteArray) (r : Bool) (w : World) (h : crossbarref06_Starts.f a0 a1 = some r) :
    Calls Try.prog 33 #[.string a0, .string a1] w fun e w' => e = .returned (.bool r) ∧ Below w.heap.size w w' := by
  have e : hasP a0 a1 = r := by simpa [crossbarref06_Starts.f] using h
  rw [← e]
  refine (ref_starts a0 a1 w).mono ?_
  rintro e w' ⟨rfl, rfl⟩
  exact ⟨rfl, Below.refl _ _⟩

def crossbarref06_Normalize.f (a0 : ByteArray) (a1 : ByteArray) (a2 : ByteArray) : Option (ByteArray × Int) := some (normB a0 a1 a2)
theorem crossbarref06_Normalize.calls (a0 : ByteArray) (a1 : ByteArray) (a2 : ByteArray) (r1 : ByteArray) (r2 : Int) (w : World) (h : crossbarref06_Normalize.f a0 a1 a2 = some (r1, r2)) :
    Calls Try.prog 15 #[.string a0, .string a1, .string a2] w fun e w' => e = .returned (.tuple #[.string r1, .int .i64 r2]) ∧ Below w.heap.size w w' := by
  have e : normB a0 a1 a2 = (r1, r2) := by simpa [crossbarref06_Normalize.f] using h
  have := ref_norm a0 a1 a2 w
  rw [e] at this
  refine this.mono ?_
  rintro e w' ⟨rfl, rfl⟩
  exact ⟨rfl, Below.refl _ _⟩

def digits_Common.f (a0 : ByteArray) (a1 : ByteArray) : Option (Int) := if a0.size ≤ 140737488351232 ∧ a1.size ≤ 140737488351232 then some (com a0.data.toList a1.data.toList : Nat) else none
theorem digits_Common.calls (a0 : ByteArray) (a1 : ByteArray) (r : Int) (w : World) (h : digits_Common.f a0 a1 = some r) :
    Calls Try.prog 24 #[.string a0, .string a1] w fun e w' => e = .returned (.int .i64 r) ∧ Below w.heap.size w w' := by
  unfold digits_Common.f at h
  split at h
  · rename_i hb
    have e : (com a0.data.toList a1.data.toList : Int) = r := by simpa using h
    rw [← e]
    exact com_calls a0 a1 w hb.1 hb.2
  · simp at h

def digits_Valid.f (a0 : ByteArray) : Option (Bool) := some (onlyB a0 1 15)
theorem digits_Valid.calls (a0 : ByteArray) (r : Bool) (w : World) (h : digits_Valid.f a0 = some r) :
    Calls Try.prog 18 #[.string a0] w fun e w' => e = .returned (.bool r) ∧ Below w.heap.size w w' := by
  have e : onlyB a0 1 15 = r := by simpa [digits_Valid.f] using h
  rw [← e]
  exact valid_calls a0 w

theorem norm_calls (d c a : ByteArray) (w : World) : Calls Try.prog 14 #[.string d, .string c, .string a] w fun e w' => e = .returned (.tuple #[.string (normB d c a).1, .int .i64 (normB d c a).2]) ∧ Below w.heap.size w w' := by
  have hO := fun W => digits_only.calls d 1 20 (onlyB d 1 20) W rfl
  have hH := fun W => home_calls c a W
  cases hA : onlyB d 1 20 with
  | false =>
    have e : normB d c a = (ByteArray.empty, 60) := by simp [normB, hA]
    rw [e]
    rw [hA] at hO
    clear hA e hH
    go_enter Try.func14, Try.ntmps14
    go_wp2_with (go_at_call 29; refine (hO _).mono ?_; rintro e w1 ⟨rfl, hb⟩)
    go_ret2
    exact ⟨rfl, hb⟩
  | true =>
    rw [hA] at hO
    cases hB : (onlyB c 1 15 && onlyB a 0 15) with
    | false =>
      have e : normB d c a = (ByteArray.empty, 60) := by simp only [normB, hA, hB]; rfl
      rw [e]
      rw [hB] at hH
      clear hA e hB
      go_enter Try.func14, Try.ntmps14
      go_wp2_with (first | (go_at_call 29; refine (hO _).mono ?_; rintro e w1 ⟨rfl, hb⟩) | (go_at_call 30; refine (hH _).mono ?_; rintro e w2 ⟨rfl, hb2⟩))
      go_ret2
      exact ⟨rfl, hb.trans (hb2.mono hb.size)⟩
    | true =>
      rw [hB] at hH
      have hd2 : (d.size : Int) ≤ 20 := only_le hA
      have hB2 := hB
      simp only [Bool.and_eq_true] at hB2
      have hc2 : (c.size : Int) ≤ 15 := only_le hB2.1
      have ha2 : (a.size : Int) ≤ 15 := only_le hB2.2
      have hF := fun W => full_calls d c a W (by omega)
      have hV := fun W => valid_calls (fullB d c a) W
      have hn : normB d c a = if onlyB (fullB d c a) 1 15 = true then (fullB d c a, 0) else (ByteArray.empty, 60) := by
        unfold normB; rw [if_pos (by rw [hA, hB]; rfl)]
      rw [hn]
      clear hn hA hB hB2
      generalize fullB d c a = f at hF hV ⊢
      cases hv : onlyB f 1 15 with
      | false =>
        rw [hv] at hV
        rw [if_neg (by decide)]
        clear hv
        go_enter Try.func14, Try.ntmps14
        go_wp2_with (first | (go_at_call 29; refine (hO _).mono ?_; rintro e w1 ⟨rfl, hb⟩) | (go_at_call 30; refine (hH _).mono ?_; rintro e w2 ⟨rfl, hb2⟩) | (go_at_call 31; refine (hF _).mono ?_; rintro e w3 ⟨rfl, rfl⟩) | (go_at_call 18; refine (hV _).mono ?_; rintro e w4 ⟨rfl, hb4⟩))
        go_ret2
        exact ⟨rfl, (hb.trans (hb2.mono hb.size)).trans (hb4.mono (Nat.le_trans hb.size hb2.size))⟩
      | true =>
        rw [hv] at hV
        rw [if_pos rfl]
        clear hv
        go_enter Try.func14, Try.ntmps14
        go_wp2_with (first | (go_at_call 29; refine (hO _).mono ?_; rintro e w1 ⟨rfl, hb⟩) | (go_at_call 30; refine (hH _).mono ?_; rintro e w2 ⟨rfl, hb2⟩) | (go_at_call 31; refine (hF _).mono ?_; rintro e w3 ⟨rfl, rfl⟩) | (go_at_call 18; refine (hV _).mono ?_; rintro e w4 ⟨rfl, hb4⟩))
        go_ret2
        exact ⟨rfl, (hb.trans (hb2.mono hb.size)).trans (hb4.mono (Nat.le_trans hb.size hb2.size))⟩

def digits_Normalize.f (a0 : ByteArray) (a1 : ByteArray) (a2 : ByteArray) : Option (ByteArray × Int) := some (normB a0 a1 a2)
theorem digits_Normalize.calls (a0 : ByteArray) (a1 : ByteArray) (a2 : ByteArray) (r1 : ByteArray) (r2 : Int) (w : World) (h : digits_Normalize.f a0 a1 a2 = some (r1, r2)) :
    Calls Try.prog 14 #[.string a0, .string a1, .string a2] w fun e w' => e = .returned (.tuple #[.string r1, .int .i64 r2]) ∧ Below w.heap.size w w' := by
  have e : normB a0 a1 a2 = (r1, r2) := by simpa [digits_Normalize.f] using h
  have := norm_calls a0 a1 a2 w
  rw [e] at this
  exact this

def crossbarref06_Shorten.f (a0 : ByteArray) (a1 : ByteArray) (a2 : ByteArray) : Option (ByteArray × Int) := some (shortenB a0 a1 a2)
theorem crossbarref06_Shorten.calls (a0 : ByteArray) (a1 : ByteArray) (a2 : ByteArray) (r1 : ByteArray) (r2 : Int) (w : World) (h : crossbarref06_Shorten.f a0 a1 a2 = some (r1, r2)) :
    Calls Try.prog 17 #[.string a0, .string a1, .string a2] w fun e w' => e = .returned (.tuple #[.string r1, .int .i64 r2]) ∧ Below w.heap.size w w' := by
  have e : shortenB a0 a1 a2 = (r1, r2) := by simpa [crossbarref06_Shorten.f] using h
  have := ref_short a0 a1 a2 w
  rw [same_short, e] at this
  refine this.mono ?_
  rintro e w' ⟨rfl, rfl⟩
  exact ⟨rfl, Below.refl _ _⟩
end Go.Proofs.Ytajddminbfiipaa.Ext
