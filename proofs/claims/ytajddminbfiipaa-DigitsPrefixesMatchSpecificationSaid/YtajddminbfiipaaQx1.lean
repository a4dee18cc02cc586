/- What these functions compute, walked (printed by print2.py over the kit's print): crossbarref06_Strings, crossbarlaw06_sane. -/
import Derived.Test.YtajddminbfiipaaQx0
namespace Go.Proofs.Ytajddminbfiipaa.Q
open Go.RowKit Go.Proofs.YtajddminbfiipaaW.PrintWords Go.Proofs.YtajddminbfiipaaW.PrintLast Go.Proofs.YtajddminbfiipaaW.PrintMore Go.Proofs.Ytajddminbfiipaa.Ext
attribute [local go_sem] max2_int min2_int max_two min_two max_three min_three max_four min_four   -- for this text's walks alone
set_option linter.unusedVariables false
set_option linter.unusedSimpArgs false

/-! ### crossbarref06_Strings: function 23 -/
def crossbarref06_Strings.l0 : Nat → List ByteArray → List ByteArray → Int → Option (Bool)
  | 0, _, _, _ => none
  | k + 1, x0, x1, x5 => if x5 < (x0.length : Int) then (if 0 ≤ x5 then (if x5 < (x1.length : Int) then (if (rdOf ByteArray.empty x0 x5).toList = (rdOf ByteArray.empty x1 x5).toList then (crossbarref06_Strings.l0 k x0 x1 (wrap64 (x5 + 1))) else (some false)) else (none)) else (none)) else (some true)
def crossbarref06_Strings.f (k : Nat) (l0 : List ByteArray) (l1 : List ByteArray) : Option (Bool) := if (l0.length : Int) = (l1.length : Int) then (crossbarref06_Strings.l0 k l0 l1 0) else (some false)
theorem crossbarref06_Strings.mono_l : ∀ k, (∀ y0 y1 y2, LeO (crossbarref06_Strings.l0 k y0 y1 y2) (crossbarref06_Strings.l0 (k + 1) y0 y1 y2))
  | 0 => fun _ _ _ r h => by simp [crossbarref06_Strings.l0] at h
  | k + 1 => by
    have ih0 := crossbarref06_Strings.mono_l k
    · intro y0 y1 y2
      unfold crossbarref06_Strings.l0
      repeat' first
      | (with_reducible exact ih0 _ _ _)
      | (with_reducible exact LeO.refl _)
      | (with_reducible exact LeO.none _)
      | (with_reducible refine LeO.ite ?_ ?_)
      | (with_reducible refine LeO.bind ?_ (fun _ => ?_))
      | exact ih0 _ _ _
      | exact LeO.none _
      | refine LeO.ite ?_ ?_
      | refine LeO.bind ?_ (fun _ => ?_)
theorem crossbarref06_Strings.mono : ∀ a0 a1 k, LeO (crossbarref06_Strings.f k a0 a1) (crossbarref06_Strings.f (k + 1) a0 a1) := by
  intro a0 a1 k
  have ih0 := crossbarref06_Strings.mono_l k
  unfold crossbarref06_Strings.f
  repeat' first
      | (with_reducible exact ih0 _ _ _)
      | (with_reducible exact LeO.refl _)
      | (with_reducible exact LeO.none _)
      | (with_reducible refine LeO.ite ?_ ?_)
      | (with_reducible refine LeO.bind ?_ (fun _ => ?_))
      | exact ih0 _ _ _
      | exact LeO.none _
      | refine LeO.ite ?_ ?_
      | refine LeO.bind ?_ (fun _ => ?_)
set_option maxHeartbeats 8000000 in
set_option maxRecDepth 100000 in
theorem crossbarref06_Strings.calls (k : Nat) (A0 : Option Addr) (c0 : Nat) (l0 : List ByteArray) (A1 : Option Addr) (c1 : Nat) (l1 : List ByteArray) (r : Bool) (w : World) (hr0 : Kd.C Kd.string w A0 l0.length l0) (hc0 : l0.length ≤ c0) (hr1 : Kd.C Kd.string w A1 l1.length l1) (hc1 : l1.length ≤ c1) (h : crossbarref06_Strings.f k l0 l1 = some r) :
    Calls Try.prog 23 #[.slice A0 l0.length c0, .slice A1 l1.length c1] w fun e w' => e = .returned (.bool r) ∧ Drawn0 w w' := by
  have HR0 := Aside0.mk hr0
  have HC0 := Aside0.mk hc0
  clear hr0 hc0
  have HR1 := Aside0.mk hr1
  have HC1 := Aside0.mk hc1
  clear hr1 hc1
  have H : (if (l0.length : Int) = (l1.length : Int) then (crossbarref06_Strings.l0 k l0 l1 0) else (some false)) = some r := h
  clear h
  by_cases c3 : (l0.length : Int) = (l1.length : Int)
  · rw [if_pos c3] at H
    have c3b0 : ((l0.length : Int) == (l1.length : Int)) = true := beq_iff_eq.mpr c3
    have c3b1 : ((l0.length : Int) != (l1.length : Int)) = false := bne_eq_false_iff_eq.mpr c3
    have c3b2 : (l0.length == l1.length) = true := by first | simpa using c3 | (simp at c3 ⊢; omega)
    clear c3
    have H' := Aside0.mk H
    clear H
    go_enter Try.func23, Try.ntmps23
    go_wp2
    repeat (go_quiet (fail); try go_wp2)
    go_loopg [5] k (fun kq v5 w' => ∃ (x5_1 : Int), v5 = .int .i64 x5_1 ∧ Aside0 (crossbarref06_Strings.l0 kq l0 l1 x5_1 = some r) ∧ Aside0 (kq ≤ k) ∧ Drawn0 w w')
    case atStart => exact ⟨(0), (by first | rfl | (simp; done) | (simp [*]; done)), H', ⟨Nat.le_refl _⟩, by repeat (first | exact Drawn0.refl _ | apply Drawn0.step)⟩
    case round =>
      clear H'
      try clear c1
      try clear c2
      try clear p2
      try clear c3
      try clear c3b0
      try clear c3b1
      try clear c3b2
      obtain ⟨x5_1, rfl, HA, HK1, ⟨m1, rfl⟩⟩ := hrel
      cases gk with
      | zero => exact absurd HA.out (by simp [crossbarref06_Strings.l0])
      | succ k1 =>
        have H := HA.out
        clear HA
        simp only [crossbarref06_Strings.l0] at H
        by_cases c4 : x5_1 < (l0.length : Int)
        · rw [if_pos c4] at H
          have c4b0 : decide (x5_1 < (l0.length : Int)) = true := decide_eq_true c4
          clear c4
          by_cases c5 : 0 ≤ x5_1
          · rw [if_pos c5] at H
            have c5b0 : decide (0 ≤ x5_1) = true := decide_eq_true c5
            clear c5
            by_cases c6 : x5_1 < (l1.length : Int)
            · rw [if_pos c6] at H
              have c6b0 : decide (x5_1 < (l1.length : Int)) = true := decide_eq_true c6
              clear c6
              by_cases c7 : (rdOf ByteArray.empty l0 x5_1).toList = (rdOf ByteArray.empty l1 x5_1).toList
              · rw [if_pos c7] at H
                have c7b0 : ((rdOf ByteArray.empty l0 x5_1).toList == (rdOf ByteArray.empty l1 x5_1).toList) = true := beq_iff_eq.mpr c7
                have c7b1 : ((rdOf ByteArray.empty l0 x5_1).toList != (rdOf ByteArray.empty l1 x5_1).toList) = false := bne_eq_false_iff_eq.mpr c7
                clear c7
                have H' := Aside0.mk H
                clear H
                have p101 : 0 ≤ (x5_1 : Int) := of_decide_eq_true (by first | (with_reducible assumption) | assumption)
                have q101 : x5_1 < (l0.length : Int) := of_decide_eq_true (by first | (with_reducible assumption) | assumption)
                obtain ⟨ad101, e101, hx101_0⟩ := Kd.at_string HR0.out x5_1 p101 q101
                cases e101
                replace p101 := eq_true p101
                replace q101 := eq_true q101
                have p102 : 0 ≤ (x5_1 : Int) := of_decide_eq_true (by first | (with_reducible assumption) | assumption)
                have q102 : x5_1 < (l1.length : Int) := of_decide_eq_true (by first | (with_reducible assumption) | assumption)
                obtain ⟨ad102, e102, hx102_0⟩ := Kd.at_string HR1.out x5_1 p102 q102
                cases e102
                replace p102 := eq_true p102
                replace q102 := eq_true q102
                go_wp2
                repeat (go_quiet (fail); try go_wp2)
                go_roundg k1
                case measure => have := HK1.out; omega
                case rel => exact ⟨(wrap64 (x5_1 + 1)), (by first | rfl | (simp; done) | (simp [*]; done)), H', ⟨by have := HK1.out; omega⟩, by repeat (first | exact Drawn0.refl _ | apply Drawn0.step)⟩
              · rw [if_neg c7] at H
                have c7b0 : ((rdOf ByteArray.empty l0 x5_1).toList == (rdOf ByteArray.empty l1 x5_1).toList) = false := beq_eq_false_iff_ne.mpr c7
                have c7b1 : ((rdOf ByteArray.empty l0 x5_1).toList != (rdOf ByteArray.empty l1 x5_1).toList) = true := bne_iff_ne.mpr c7
                obtain rfl := Option.some.inj H
                have p101 : 0 ≤ (x5_1 : Int) := of_decide_eq_true (by first | (with_reducible assumption) | assumption)
                have q101 : x5_1 < (l0.length : Int) := of_decide_eq_true (by first | (with_reducible assumption) | assumption)
                obtain ⟨ad101, e101, hx101_0⟩ := Kd.at_string HR0.out x5_1 p101 q101
                cases e101
                replace p101 := eq_true p101
                replace q101 := eq_true q101
                have p102 : 0 ≤ (x5_1 : Int) := of_decide_eq_true (by first | (with_reducible assumption) | assumption)
                have q102 : x5_1 < (l1.length : Int) := of_decide_eq_true (by first | (with_reducible assumption) | assumption)
                obtain ⟨ad102, e102, hx102_0⟩ := Kd.at_string HR1.out x5_1 p102 q102
                cases e102
                replace p102 := eq_true p102
                replace q102 := eq_true q102
                go_wp2
                repeat (go_quiet (fail); try go_wp2)
                go_ret
                exact ⟨by first | rfl | (simp; done) | (simp [*]; done), by repeat (first | exact Drawn0.refl _ | apply Drawn0.step)⟩
            · rw [if_neg c6] at H
              exact absurd H (by simp)
          · rw [if_neg c5] at H
            exact absurd H (by simp)
        · rw [if_neg c4] at H
          have c4b0 : decide (x5_1 < (l0.length : Int)) = false := decide_eq_false c4
          clear c4
          obtain rfl := Option.some.inj H
          go_wp2
          repeat (go_quiet (fail); try go_wp2)
          go_ret
          exact ⟨by first | rfl | (simp; done) | (simp [*]; done), by repeat (first | exact Drawn0.refl _ | apply Drawn0.step)⟩
  · rw [if_neg c3] at H
    have c3b0 : ((l0.length : Int) == (l1.length : Int)) = false := beq_eq_false_iff_ne.mpr c3
    have c3b1 : ((l0.length : Int) != (l1.length : Int)) = true := bne_iff_ne.mpr c3
    have c3b2 : (l0.length == l1.length) = false := by first | simpa using c3 | (simp at c3 ⊢; omega)
    obtain rfl := Option.some.inj H
    go_enter Try.func23, Try.ntmps23
    go_wp2
    repeat (go_quiet (fail); try go_wp2)
    go_ret
    exact ⟨by first | rfl | (simp; done) | (simp [*]; done), by repeat (first | exact Drawn0.refl _ | apply Drawn0.step)⟩

/-! ### crossbarlaw06_sane: function 12 -/
mutual
def crossbarlaw06_sane.j0 : Nat → ByteArray → ByteArray → ByteArray → ByteArray → ByteArray → ByteArray → List ByteArray → List ByteArray → Int → Bool → Option (Bool)
  | 0, _, _, _, _, _, _, _, _, _, _ => none
  | k + 1, x1, x3, x5, x7, x9, x11, x13, x15, x18, x19 => if x1.toList = ([52, 57, 51, 48, 49, 50, 51, 52] : List UInt8) then (if x3.toList = ([52, 57, 56, 57, 49, 50, 51, 52] : List UInt8) then (if x5.toList = ([51, 51, 49] : List UInt8) then (if x7.toList = ([49, 50, 51, 52] : List UInt8) then (if x9.toList = ([48, 51, 48, 48, 49, 50, 51] : List UInt8) then (crossbarlaw06_sane.j1 k x13 x15 x18 x19 (x11.toList == ([48, 48, 51, 51, 49] : List UInt8))) else (crossbarlaw06_sane.j1 k x13 x15 x18 x19 false)) else (crossbarlaw06_sane.j1 k x13 x15 x18 x19 false)) else (crossbarlaw06_sane.j1 k x13 x15 x18 x19 false)) else (crossbarlaw06_sane.j1 k x13 x15 x18 x19 false)) else (crossbarlaw06_sane.j1 k x13 x15 x18 x19 false)
def crossbarlaw06_sane.j1 : Nat → List ByteArray → List ByteArray → Int → Bool → Bool → Option (Bool)
  | 0, _, _, _, _, _ => none
  | k + 1, x13, x15, x18, x19, x20 => (crossbarref06_Strings.f k x13 (([(⟨#[49]⟩ : ByteArray)] : List ByteArray))).bind fun t134 => (if t134 = true then ((crossbarref06_Strings.f k x15 (([(⟨#[53]⟩ : ByteArray), (⟨#[55]⟩ : ByteArray)] : List ByteArray))).bind fun t138 => (crossbarlaw06_sane.j2 k x18 x19 x20 t138)) else (crossbarlaw06_sane.j2 k x18 x19 x20 false))
def crossbarlaw06_sane.j2 : Nat → Int → Bool → Bool → Bool → Option (Bool)
  | 0, _, _, _, _ => none
  | k + 1, x18, x19, x20, x21 => if x19 = true then (if x20 = true then (if x21 = true then (if x18 = 60 then ((digits_Valid.f (⟨#[55]⟩ : ByteArray)).bind fun t139 => (if t139 = true then ((digits_Valid.f (⟨#[]⟩ : ByteArray)).bind fun t140 => (if t140 = true then (some false) else ((digits_Valid.f (⟨#[55, 120]⟩ : ByteArray)).bind fun t141 => (if t141 = true then (some false) else ((digits_Common.f (⟨#[49, 50, 51, 52]⟩ : ByteArray) (⟨#[49, 50, 56, 57]⟩ : ByteArray)).bind fun t142 => (if t142 = 2 then ((digits_Matches.f (([(⟨#[49, 50]⟩ : ByteArray)] : List ByteArray)) (⟨#[49, 50, 51]⟩ : ByteArray)).bind fun t146 => (if t146 = true then ((digits_Matches.f (([(⟨#[49, 50]⟩ : ByteArray)] : List ByteArray)) (⟨#[49]⟩ : ByteArray)).bind fun t150 => (some (!t150))) else (some false))) else (some false))))))) else (some false))) else (some false)) else (some false)) else (some false)) else (some false)
end
def crossbarlaw06_sane.f (k : Nat)  : Option (Bool) := (digits_Normalize.f (⟨#[49, 50, 51, 52]⟩ : ByteArray) (⟨#[52, 57]⟩ : ByteArray) (⟨#[51, 48]⟩ : ByteArray)).bind fun bt103 => ((digits_Normalize.f (⟨#[48, 56, 57, 49, 50, 51, 52]⟩ : ByteArray) (⟨#[52, 57]⟩ : ByteArray) (⟨#[51, 48]⟩ : ByteArray)).bind fun bt105 => ((digits_Normalize.f (⟨#[48, 48, 51, 51, 49]⟩ : ByteArray) (⟨#[52, 57]⟩ : ByteArray) (⟨#[51, 48]⟩ : ByteArray)).bind fun bt107 => ((digits_Shorten.f (⟨#[52, 57, 51, 48, 49, 50, 51, 52]⟩ : ByteArray) (⟨#[52, 57]⟩ : ByteArray) (⟨#[51, 48]⟩ : ByteArray)).bind fun bt109 => ((digits_Shorten.f (⟨#[52, 57, 51, 48, 48, 49, 50, 51]⟩ : ByteArray) (⟨#[52, 57]⟩ : ByteArray) (⟨#[51, 48]⟩ : ByteArray)).bind fun bt111 => ((digits_Shorten.f (⟨#[51, 51, 49]⟩ : ByteArray) (⟨#[52, 57]⟩ : ByteArray) (⟨#[51, 48]⟩ : ByteArray)).bind fun bt113 => ((digits_Minimal.f (([(⟨#[49, 50]⟩ : ByteArray), (⟨#[49, 50, 51]⟩ : ByteArray), (⟨#[49]⟩ : ByteArray)] : List ByteArray))).bind fun bt118 => ((digits_Minimal.f (([(⟨#[53, 48]⟩ : ByteArray), (⟨#[53, 49]⟩ : ByteArray), (⟨#[53, 50]⟩ : ByteArray), (⟨#[53, 51]⟩ : ByteArray), (⟨#[53, 52]⟩ : ByteArray), (⟨#[53, 53]⟩ : ByteArray), (⟨#[53, 54]⟩ : ByteArray), (⟨#[53, 55]⟩ : ByteArray), (⟨#[55]⟩ : ByteArray), (⟨#[53, 56]⟩ : ByteArray), (⟨#[53, 57]⟩ : ByteArray)] : List ByteArray))).bind fun bt125 => ((digits_Normalize.f (⟨#[48, 48]⟩ : ByteArray) (⟨#[52, 57]⟩ : ByteArray) (⟨#[51, 48]⟩ : ByteArray)).bind fun bt129 => (if bt103.2 = 0 then (if bt105.2 = 0 then (if bt107.2 = 0 then (if bt109.2 = 0 then (if bt111.2 = 0 then (if bt113.2 = 0 then (if bt118.2 = 0 then (crossbarlaw06_sane.j0 k bt103.1 bt105.1 bt107.1 bt109.1 bt111.1 bt113.1 bt118.1 bt125.1 bt129.2 (bt125.2 == 0)) else (crossbarlaw06_sane.j0 k bt103.1 bt105.1 bt107.1 bt109.1 bt111.1 bt113.1 bt118.1 bt125.1 bt129.2 false)) else (crossbarlaw06_sane.j0 k bt103.1 bt105.1 bt107.1 bt109.1 bt111.1 bt113.1 bt118.1 bt125.1 bt129.2 false)) else (crossbarlaw06_sane.j0 k bt103.1 bt105.1 bt107.1 bt109.1 bt111.1 bt113.1 bt118.1 bt125.1 bt129.2 false)) else (crossbarlaw06_sane.j0 k bt103.1 bt105.1 bt107.1 bt109.1 bt111.1 bt113.1 bt118.1 bt125.1 bt129.2 false)) else (crossbarlaw06_sane.j0 k bt103.1 bt105.1 bt107.1 bt109.1 bt111.1 bt113.1 bt118.1 bt125.1 bt129.2 false)) else (crossbarlaw06_sane.j0 k bt103.1 bt105.1 bt107.1 bt109.1 bt111.1 bt113.1 bt118.1 bt125.1 bt129.2 false)) else (crossbarlaw06_sane.j0 k bt103.1 bt105.1 bt107.1 bt109.1 bt111.1 bt113.1 bt118.1 bt125.1 bt129.2 false))))))))))
theorem crossbarlaw06_sane.mono_l : ∀ k, (∀ y0 y1 y2 y3 y4 y5 y6 y7 y8 y9, LeO (crossbarlaw06_sane.j0 k y0 y1 y2 y3 y4 y5 y6 y7 y8 y9) (crossbarlaw06_sane.j0 (k + 1) y0 y1 y2 y3 y4 y5 y6 y7 y8 y9)) ∧ (∀ y0 y1 y2 y3 y4, LeO (crossbarlaw06_sane.j1 k y0 y1 y2 y3 y4) (crossbarlaw06_sane.j1 (k + 1) y0 y1 y2 y3 y4)) ∧ (∀ y0 y1 y2 y3, LeO (crossbarlaw06_sane.j2 k y0 y1 y2 y3) (crossbarlaw06_sane.j2 (k + 1) y0 y1 y2 y3))
  | 0 => ⟨fun _ _ _ _ _ _ _ _ _ _ r h => by simp [crossbarlaw06_sane.j0] at h, fun _ _ _ _ _ r h => by simp [crossbarlaw06_sane.j1] at h, fun _ _ _ _ r h => by simp [crossbarlaw06_sane.j2] at h⟩
  | k + 1 => by
    obtain ⟨ih0, ih1, ih2⟩ := crossbarlaw06_sane.mono_l k
    refine ⟨?_, ?_, ?_⟩
    · intro y0 y1 y2 y3 y4 y5 y6 y7 y8 y9
      unfold crossbarlaw06_sane.j0
      repeat' first
      | (with_reducible exact ih0 _ _ _ _ _ _ _ _ _ _)
      | (with_reducible exact ih1 _ _ _ _ _)
      | (with_reducible exact ih2 _ _ _ _)
      | (with_reducible exact crossbarref06_Strings.mono _ _ _)
      | (with_reducible exact LeO.refl _)
      | (with_reducible exact LeO.none _)
      | (with_reducible refine LeO.ite ?_ ?_)
      | (with_reducible refine LeO.bind ?_ (fun _ => ?_))
      | exact ih0 _ _ _ _ _ _ _ _ _ _
      | exact ih1 _ _ _ _ _
      | exact ih2 _ _ _ _
      | exact crossbarref06_Strings.mono _ _ _
      | exact LeO.none _
      | refine LeO.ite ?_ ?_
      | refine LeO.bind ?_ (fun _ => ?_)
    · intro y0 y1 y2 y3 y4
      unfold crossbarlaw06_sane.j1
      repeat' first
      | (with_reducible exact ih0 _ _ _ _ _ _ _ _ _ _)
      | (with_reducible exact ih1 _ _ _ _ _)
      | (with_reducible exact ih2 _ _ _ _)
      | (with_reducible exact crossbarref06_Strings.mono _ _ _)
      | (with_reducible exact LeO.refl _)
      | (with_reducible exact LeO.none _)
      | (with_reducible refine LeO.ite ?_ ?_)
      | (with_reducible refine LeO.bind ?_ (fun _ => ?_))
      | exact ih0 _ _ _ _ _ _ _ _ _ _
      | exact ih1 _ _ _ _ _
      | exact ih2 _ _ _ _
      | exact crossbarref06_Strings.mono _ _ _
      | exact LeO.none _
      | refine LeO.ite ?_ ?_
      | refine LeO.bind ?_ (fun _ => ?_)
    · intro y0 y1 y2 y3
      unfold crossbarlaw06_sane.j2
      repeat' first
      | (with_reducible exact ih0 _ _ _ _ _ _ _ _ _ _)
      | (with_reducible exact ih1 _ _ _ _ _)
      | (with_reducible exact ih2 _ _ _ _)
      | (with_reducible exact crossbarref06_Strings.mono _ _ _)
      | (with_reducible exact LeO.refl _)
      | (with_reducible exact LeO.none _)
      | (with_reducible refine LeO.ite ?_ ?_)
      | (with_reducible refine LeO.bind ?_ (fun _ => ?_))
      | exact ih0 _ _ _ _ _ _ _ _ _ _
      | exact ih1 _ _ _ _ _
      | exact ih2 _ _ _ _
      | exact crossbarref06_Strings.mono _ _ _
      | exact LeO.none _
      | refine LeO.ite ?_ ?_
      | refine LeO.bind ?_ (fun _ => ?_)
theorem crossbarlaw06_sane.mono : ∀ k, LeO (crossbarlaw06_sane.f k ) (crossbarlaw06_sane.f (k + 1) ) := by
  intro  k
  obtain ⟨ih0, ih1, ih2⟩ := crossbarlaw06_sane.mono_l k
  unfold crossbarlaw06_sane.f
  repeat' first
      | (with_reducible exact ih0 _ _ _ _ _ _ _ _ _ _)
      | (with_reducible exact ih1 _ _ _ _ _)
      | (with_reducible exact ih2 _ _ _ _)
      | (with_reducible exact crossbarref06_Strings.mono _ _ _)
      | (with_reducible exact LeO.refl _)
      | (with_reducible exact LeO.none _)
      | (with_reducible refine LeO.ite ?_ ?_)
      | (with_reducible refine LeO.bind ?_ (fun _ => ?_))
      | exact ih0 _ _ _ _ _ _ _ _ _ _
      | exact ih1 _ _ _ _ _
      | exact ih2 _ _ _ _
      | exact crossbarref06_Strings.mono _ _ _
      | exact LeO.none _
      | refine LeO.ite ?_ ?_
      | refine LeO.bind ?_ (fun _ => ?_)
set_option maxHeartbeats 8000000 in
set_option maxRecDepth 100000 in
theorem crossbarlaw06_sane.calls (k : Nat)  (r : Bool) (w : World) (h : crossbarlaw06_sane.f k  = some r) :
    Calls Try.prog 12 #[] w fun e w' => e = .returned (.bool r) ∧ Below w.heap.size w w' := by
  have HB := Aside0.mk (Below.refl w.heap.size w)
  have H : ((digits_Normalize.f (⟨#[49, 50, 51, 52]⟩ : ByteArray) (⟨#[52, 57]⟩ : ByteArray) (⟨#[51, 48]⟩ : ByteArray)).bind fun bt103 => ((digits_Normalize.f (⟨#[48, 56, 57, 49, 50, 51, 52]⟩ : ByteArray) (⟨#[52, 57]⟩ : ByteArray) (⟨#[51, 48]⟩ : ByteArray)).bind fun bt105 => ((digits_Normalize.f (⟨#[48, 48, 51, 51, 49]⟩ : ByteArray) (⟨#[52, 57]⟩ : ByteArray) (⟨#[51, 48]⟩ : ByteArray)).bind fun bt107 => ((digits_Shorten.f (⟨#[52, 57, 51, 48, 49, 50, 51, 52]⟩ : ByteArray) (⟨#[52, 57]⟩ : ByteArray) (⟨#[51, 48]⟩ : ByteArray)).bind fun bt109 => ((digits_Shorten.f (⟨#[52, 57, 51, 48, 48, 49, 50, 51]⟩ : ByteArray) (⟨#[52, 57]⟩ : ByteArray) (⟨#[51, 48]⟩ : ByteArray)).bind fun bt111 => ((digits_Shorten.f (⟨#[51, 51, 49]⟩ : ByteArray) (⟨#[52, 57]⟩ : ByteArray) (⟨#[51, 48]⟩ : ByteArray)).bind fun bt113 => ((digits_Minimal.f (([(⟨#[49, 50]⟩ : ByteArray), (⟨#[49, 50, 51]⟩ : ByteArray), (⟨#[49]⟩ : ByteArray)] : List ByteArray))).bind fun bt118 => ((digits_Minimal.f (([(⟨#[53, 48]⟩ : ByteArray), (⟨#[53, 49]⟩ : ByteArray), (⟨#[53, 50]⟩ : ByteArray), (⟨#[53, 51]⟩ : ByteArray), (⟨#[53, 52]⟩ : ByteArray), (⟨#[53, 53]⟩ : ByteArray), (⟨#[53, 54]⟩ : ByteArray), (⟨#[53, 55]⟩ : ByteArray), (⟨#[55]⟩ : ByteArray), (⟨#[53, 56]⟩ : ByteArray), (⟨#[53, 57]⟩ : ByteArray)] : List ByteArray))).bind fun bt125 => ((digits_Normalize.f (⟨#[48, 48]⟩ : ByteArray) (⟨#[52, 57]⟩ : ByteArray) (⟨#[51, 48]⟩ : ByteArray)).bind fun bt129 => (if bt103.2 = 0 then (if bt105.2 = 0 then (if bt107.2 = 0 then (if bt109.2 = 0 then (if bt111.2 = 0 then (if bt113.2 = 0 then (if bt118.2 = 0 then (crossbarlaw06_sane.j0 k bt103.1 bt105.1 bt107.1 bt109.1 bt111.1 bt113.1 bt118.1 bt125.1 bt129.2 (bt125.2 == 0)) else (crossbarlaw06_sane.j0 k bt103.1 bt105.1 bt107.1 bt109.1 bt111.1 bt113.1 bt118.1 bt125.1 bt129.2 false)) else (crossbarlaw06_sane.j0 k bt103.1 bt105.1 bt107.1 bt109.1 bt111.1 bt113.1 bt118.1 bt125.1 bt129.2 false)) else (crossbarlaw06_sane.j0 k bt103.1 bt105.1 bt107.1 bt109.1 bt111.1 bt113.1 bt118.1 bt125.1 bt129.2 false)) else (crossbarlaw06_sane.j0 k bt103.1 bt105.1 bt107.1 bt109.1 bt111.1 bt113.1 bt118.1 bt125.1 bt129.2 false)) else (crossbarlaw06_sane.j0 k bt103.1 bt105.1 bt107.1 bt109.1 bt111.1 bt113.1 bt118.1 bt125.1 bt129.2 false)) else (crossbarlaw06_sane.j0 k bt103.1 bt105.1 bt107.1 bt109.1 bt111.1 bt113.1 bt118.1 bt125.1 bt129.2 false)) else (crossbarlaw06_sane.j0 k bt103.1 bt105.1 bt107.1 bt109.1 bt111.1 bt113.1 bt118.1 bt125.1 bt129.2 false))))))))))) = some r := h
  clear h
  replace H := Option.bind_eq_some_iff.mp H
  obtain ⟨⟨t103, t104⟩, A10, H⟩ := H
  replace H : ((digits_Normalize.f (⟨#[48, 56, 57, 49, 50, 51, 52]⟩ : ByteArray) (⟨#[52, 57]⟩ : ByteArray) (⟨#[51, 48]⟩ : ByteArray)).bind fun bt105 => ((digits_Normalize.f (⟨#[48, 48, 51, 51, 49]⟩ : ByteArray) (⟨#[52, 57]⟩ : ByteArray) (⟨#[51, 48]⟩ : ByteArray)).bind fun bt107 => ((digits_Shorten.f (⟨#[52, 57, 51, 48, 49, 50, 51, 52]⟩ : ByteArray) (⟨#[52, 57]⟩ : ByteArray) (⟨#[51, 48]⟩ : ByteArray)).bind fun bt109 => ((digits_Shorten.f (⟨#[52, 57, 51, 48, 48, 49, 50, 51]⟩ : ByteArray) (⟨#[52, 57]⟩ : ByteArray) (⟨#[51, 48]⟩ : ByteArray)).bind fun bt111 => ((digits_Shorten.f (⟨#[51, 51, 49]⟩ : ByteArray) (⟨#[52, 57]⟩ : ByteArray) (⟨#[51, 48]⟩ : ByteArray)).bind fun bt113 => ((digits_Minimal.f (([(⟨#[49, 50]⟩ : ByteArray), (⟨#[49, 50, 51]⟩ : ByteArray), (⟨#[49]⟩ : ByteArray)] : List ByteArray))).bind fun bt118 => ((digits_Minimal.f (([(⟨#[53, 48]⟩ : ByteArray), (⟨#[53, 49]⟩ : ByteArray), (⟨#[53, 50]⟩ : ByteArray), (⟨#[53, 51]⟩ : ByteArray), (⟨#[53, 52]⟩ : ByteArray), (⟨#[53, 53]⟩ : ByteArray), (⟨#[53, 54]⟩ : ByteArray), (⟨#[53, 55]⟩ : ByteArray), (⟨#[55]⟩ : ByteArray), (⟨#[53, 56]⟩ : ByteArray), (⟨#[53, 57]⟩ : ByteArray)] : List ByteArray))).bind fun bt125 => ((digits_Normalize.f (⟨#[48, 48]⟩ : ByteArray) (⟨#[52, 57]⟩ : ByteArray) (⟨#[51, 48]⟩ : ByteArray)).bind fun bt129 => (if t104 = 0 then (if bt105.2 = 0 then (if bt107.2 = 0 then (if bt109.2 = 0 then (if bt111.2 = 0 then (if bt113.2 = 0 then (if bt118.2 = 0 then (crossbarlaw06_sane.j0 k t103 bt105.1 bt107.1 bt109.1 bt111.1 bt113.1 bt118.1 bt125.1 bt129.2 (bt125.2 == 0)) else (crossbarlaw06_sane.j0 k t103 bt105.1 bt107.1 bt109.1 bt111.1 bt113.1 bt118.1 bt125.1 bt129.2 false)) else (crossbarlaw06_sane.j0 k t103 bt105.1 bt107.1 bt109.1 bt111.1 bt113.1 bt118.1 bt125.1 bt129.2 false)) else (crossbarlaw06_sane.j0 k t103 bt105.1 bt107.1 bt109.1 bt111.1 bt113.1 bt118.1 bt125.1 bt129.2 false)) else (crossbarlaw06_sane.j0 k t103 bt105.1 bt107.1 bt109.1 bt111.1 bt113.1 bt118.1 bt125.1 bt129.2 false)) else (crossbarlaw06_sane.j0 k t103 bt105.1 bt107.1 bt109.1 bt111.1 bt113.1 bt118.1 bt125.1 bt129.2 false)) else (crossbarlaw06_sane.j0 k t103 bt105.1 bt107.1 bt109.1 bt111.1 bt113.1 bt118.1 bt125.1 bt129.2 false)) else (crossbarlaw06_sane.j0 k t103 bt105.1 bt107.1 bt109.1 bt111.1 bt113.1 bt118.1 bt125.1 bt129.2 false)))))))))) = some r := H
  have A1 := Aside0.mk A10
  clear A10
  replace H := Option.bind_eq_some_iff.mp H
  obtain ⟨⟨t105, t106⟩, A20, H⟩ := H
  replace H : ((digits_Normalize.f (⟨#[48, 48, 51, 51, 49]⟩ : ByteArray) (⟨#[52, 57]⟩ : ByteArray) (⟨#[51, 48]⟩ : ByteArray)).bind fun bt107 => ((digits_Shorten.f (⟨#[52, 57, 51, 48, 49, 50, 51, 52]⟩ : ByteArray) (⟨#[52, 57]⟩ : ByteArray) (⟨#[51, 48]⟩ : ByteArray)).bind fun bt109 => ((digits_Shorten.f (⟨#[52, 57, 51, 48, 48, 49, 50, 51]⟩ : ByteArray) (⟨#[52, 57]⟩ : ByteArray) (⟨#[51, 48]⟩ : ByteArray)).bind fun bt111 => ((digits_Shorten.f (⟨#[51, 51, 49]⟩ : ByteArray) (⟨#[52, 57]⟩ : ByteArray) (⟨#[51, 48]⟩ : ByteArray)).bind fun bt113 => ((digits_Minimal.f (([(⟨#[49, 50]⟩ : ByteArray), (⟨#[49, 50, 51]⟩ : ByteArray), (⟨#[49]⟩ : ByteArray)] : List ByteArray))).bind fun bt118 => ((digits_Minimal.f (([(⟨#[53, 48]⟩ : ByteArray), (⟨#[53, 49]⟩ : ByteArray), (⟨#[53, 50]⟩ : ByteArray), (⟨#[53, 51]⟩ : ByteArray), (⟨#[53, 52]⟩ : ByteArray), (⟨#[53, 53]⟩ : ByteArray), (⟨#[53, 54]⟩ : ByteArray), (⟨#[53, 55]⟩ : ByteArray), (⟨#[55]⟩ : ByteArray), (⟨#[53, 56]⟩ : ByteArray), (⟨#[53, 57]⟩ : ByteArray)] : List ByteArray))).bind fun bt125 => ((digits_Normalize.f (⟨#[48, 48]⟩ : ByteArray) (⟨#[52, 57]⟩ : ByteArray) (⟨#[51, 48]⟩ : ByteArray)).bind fun bt129 => (if t104 = 0 then (if t106 = 0 then (if bt107.2 = 0 then (if bt109.2 = 0 then (if bt111.2 = 0 then (if bt113.2 = 0 then (if bt118.2 = 0 then (crossbarlaw06_sane.j0 k t103 t105 bt107.1 bt109.1 bt111.1 bt113.1 bt118.1 bt125.1 bt129.2 (bt125.2 == 0)) else (crossbarlaw06_sane.j0 k t103 t105 bt107.1 bt109.1 bt111.1 bt113.1 bt118.1 bt125.1 bt129.2 false)) else (crossbarlaw06_sane.j0 k t103 t105 bt107.1 bt109.1 bt111.1 bt113.1 bt118.1 bt125.1 bt129.2 false)) else (crossbarlaw06_sane.j0 k t103 t105 bt107.1 bt109.1 bt111.1 bt113.1 bt118.1 bt125.1 bt129.2 false)) else (crossbarlaw06_sane.j0 k t103 t105 bt107.1 bt109.1 bt111.1 bt113.1 bt118.1 bt125.1 bt129.2 false)) else (crossbarlaw06_sane.j0 k t103 t105 bt107.1 bt109.1 bt111.1 bt113.1 bt118.1 bt125.1 bt129.2 false)) else (crossbarlaw06_sane.j0 k t103 t105 bt107.1 bt109.1 bt111.1 bt113.1 bt118.1 bt125.1 bt129.2 false)) else (crossbarlaw06_sane.j0 k t103 t105 bt107.1 bt109.1 bt111.1 bt113.1 bt118.1 bt125.1 bt129.2 false))))))))) = some r := H
  have A2 := Aside0.mk A20
  clear A20
  replace H := Option.bind_eq_some_iff.mp H
  obtain ⟨⟨t107, t108⟩, A30, H⟩ := H
  replace H : ((digits_Shorten.f (⟨#[52, 57, 51, 48, 49, 50, 51, 52]⟩ : ByteArray) (⟨#[52, 57]⟩ : ByteArray) (⟨#[51, 48]⟩ : ByteArray)).bind fun bt109 => ((digits_Shorten.f (⟨#[52, 57, 51, 48, 48, 49, 50, 51]⟩ : ByteArray) (⟨#[52, 57]⟩ : ByteArray) (⟨#[51, 48]⟩ : ByteArray)).bind fun bt111 => ((digits_Shorten.f (⟨#[51, 51, 49]⟩ : ByteArray) (⟨#[52, 57]⟩ : ByteArray) (⟨#[51, 48]⟩ : ByteArray)).bind fun bt113 => ((digits_Minimal.f (([(⟨#[49, 50]⟩ : ByteArray), (⟨#[49, 50, 51]⟩ : ByteArray), (⟨#[49]⟩ : ByteArray)] : List ByteArray))).bind fun bt118 => ((digits_Minimal.f (([(⟨#[53, 48]⟩ : ByteArray), (⟨#[53, 49]⟩ : ByteArray), (⟨#[53, 50]⟩ : ByteArray), (⟨#[53, 51]⟩ : ByteArray), (⟨#[53, 52]⟩ : ByteArray), (⟨#[53, 53]⟩ : ByteArray), (⟨#[53, 54]⟩ : ByteArray), (⟨#[53, 55]⟩ : ByteArray), (⟨#[55]⟩ : ByteArray), (⟨#[53, 56]⟩ : ByteArray), (⟨#[53, 57]⟩ : ByteArray)] : List ByteArray))).bind fun bt125 => ((digits_Normalize.f (⟨#[48, 48]⟩ : ByteArray) (⟨#[52, 57]⟩ : ByteArray) (⟨#[51, 48]⟩ : ByteArray)).bind fun bt129 => (if t104 = 0 then (if t106 = 0 then (if t108 = 0 then (if bt109.2 = 0 then (if bt111.2 = 0 then (if bt113.2 = 0 then (if bt118.2 = 0 then (crossbarlaw06_sane.j0 k t103 t105 t107 bt109.1 bt111.1 bt113.1 bt118.1 bt125.1 bt129.2 (bt125.2 == 0)) else (crossbarlaw06_sane.j0 k t103 t105 t107 bt109.1 bt111.1 bt113.1 bt118.1 bt125.1 bt129.2 false)) else (crossbarlaw06_sane.j0 k t103 t105 t107 bt109.1 bt111.1 bt113.1 bt118.1 bt125.1 bt129.2 false)) else (crossbarlaw06_sane.j0 k t103 t105 t107 bt109.1 bt111.1 bt113.1 bt118.1 bt125.1 bt129.2 false)) else (crossbarlaw06_sane.j0 k t103 t105 t107 bt109.1 bt111.1 bt113.1 bt118.1 bt125.1 bt129.2 false)) else (crossbarlaw06_sane.j0 k t103 t105 t107 bt109.1 bt111.1 bt113.1 bt118.1 bt125.1 bt129.2 false)) else (crossbarlaw06_sane.j0 k t103 t105 t107 bt109.1 bt111.1 bt113.1 bt118.1 bt125.1 bt129.2 false)) else (crossbarlaw06_sane.j0 k t103 t105 t107 bt109.1 bt111.1 bt113.1 bt118.1 bt125.1 bt129.2 false)))))))) = some r := H
  have A3 := Aside0.mk A30
  clear A30
  replace H := Option.bind_eq_some_iff.mp H
  obtain ⟨⟨t109, t110⟩, A40, H⟩ := H
  replace H : ((digits_Shorten.f (⟨#[52, 57, 51, 48, 48, 49, 50, 51]⟩ : ByteArray) (⟨#[52, 57]⟩ : ByteArray) (⟨#[51, 48]⟩ : ByteArray)).bind fun bt111 => ((digits_Shorten.f (⟨#[51, 51, 49]⟩ : ByteArray) (⟨#[52, 57]⟩ : ByteArray) (⟨#[51, 48]⟩ : ByteArray)).bind fun bt113 => ((digits_Minimal.f (([(⟨#[49, 50]⟩ : ByteArray), (⟨#[49, 50, 51]⟩ : ByteArray), (⟨#[49]⟩ : ByteArray)] : List ByteArray))).bind fun bt118 => ((digits_Minimal.f (([(⟨#[53, 48]⟩ : ByteArray), (⟨#[53, 49]⟩ : ByteArray), (⟨#[53, 50]⟩ : ByteArray), (⟨#[53, 51]⟩ : ByteArray), (⟨#[53, 52]⟩ : ByteArray), (⟨#[53, 53]⟩ : ByteArray), (⟨#[53, 54]⟩ : ByteArray), (⟨#[53, 55]⟩ : ByteArray), (⟨#[55]⟩ : ByteArray), (⟨#[53, 56]⟩ : ByteArray), (⟨#[53, 57]⟩ : ByteArray)] : List ByteArray))).bind fun bt125 => ((digits_Normalize.f (⟨#[48, 48]⟩ : ByteArray) (⟨#[52, 57]⟩ : ByteArray) (⟨#[51, 48]⟩ : ByteArray)).bind fun bt129 => (if t104 = 0 then (if t106 = 0 then (if t108 = 0 then (if t110 = 0 then (if bt111.2 = 0 then (if bt113.2 = 0 then (if bt118.2 = 0 then (crossbarlaw06_sane.j0 k t103 t105 t107 t109 bt111.1 bt113.1 bt118.1 bt125.1 bt129.2 (bt125.2 == 0)) else (crossbarlaw06_sane.j0 k t103 t105 t107 t109 bt111.1 bt113.1 bt118.1 bt125.1 bt129.2 false)) else (crossbarlaw06_sane.j0 k t103 t105 t107 t109 bt111.1 bt113.1 bt118.1 bt125.1 bt129.2 false)) else (crossbarlaw06_sane.j0 k t103 t105 t107 t109 bt111.1 bt113.1 bt118.1 bt125.1 bt129.2 false)) else (crossbarlaw06_sane.j0 k t103 t105 t107 t109 bt111.1 bt113.1 bt118.1 bt125.1 bt129.2 false)) else (crossbarlaw06_sane.j0 k t103 t105 t107 t109 bt111.1 bt113.1 bt118.1 bt125.1 bt129.2 false)) else (crossbarlaw06_sane.j0 k t103 t105 t107 t109 bt111.1 bt113.1 bt118.1 bt125.1 bt129.2 false)) else (crossbarlaw06_sane.j0 k t103 t105 t107 t109 bt111.1 bt113.1 bt118.1 bt125.1 bt129.2 false))))))) = some r := H
  have A4 := Aside0.mk A40
  clear A40
  replace H := Option.bind_eq_some_iff.mp H
  obtain ⟨⟨t111, t112⟩, A50, H⟩ := H
  replace H : ((digits_Shorten.f (⟨#[51, 51, 49]⟩ : ByteArray) (⟨#[52, 57]⟩ : ByteArray) (⟨#[51, 48]⟩ : ByteArray)).bind fun bt113 => ((digits_Minimal.f (([(⟨#[49, 50]⟩ : ByteArray), (⟨#[49, 50, 51]⟩ : ByteArray), (⟨#[49]⟩ : ByteArray)] : List ByteArray))).bind fun bt118 => ((digits_Minimal.f (([(⟨#[53, 48]⟩ : ByteArray), (⟨#[53, 49]⟩ : ByteArray), (⟨#[53, 50]⟩ : ByteArray), (⟨#[53, 51]⟩ : ByteArray), (⟨#[53, 52]⟩ : ByteArray), (⟨#[53, 53]⟩ : ByteArray), (⟨#[53, 54]⟩ : ByteArray), (⟨#[53, 55]⟩ : ByteArray), (⟨#[55]⟩ : ByteArray), (⟨#[53, 56]⟩ : ByteArray), (⟨#[53, 57]⟩ : ByteArray)] : List ByteArray))).bind fun bt125 => ((digits_Normalize.f (⟨#[48, 48]⟩ : ByteArray) (⟨#[52, 57]⟩ : ByteArray) (⟨#[51, 48]⟩ : ByteArray)).bind fun bt129 => (if t104 = 0 then (if t106 = 0 then (if t108 = 0 then (if t110 = 0 then (if t112 = 0 then (if bt113.2 = 0 then (if bt118.2 = 0 then (crossbarlaw06_sane.j0 k t103 t105 t107 t109 t111 bt113.1 bt118.1 bt125.1 bt129.2 (bt125.2 == 0)) else (crossbarlaw06_sane.j0 k t103 t105 t107 t109 t111 bt113.1 bt118.1 bt125.1 bt129.2 false)) else (crossbarlaw06_sane.j0 k t103 t105 t107 t109 t111 bt113.1 bt118.1 bt125.1 bt129.2 false)) else (crossbarlaw06_sane.j0 k t103 t105 t107 t109 t111 bt113.1 bt118.1 bt125.1 bt129.2 false)) else (crossbarlaw06_sane.j0 k t103 t105 t107 t109 t111 bt113.1 bt118.1 bt125.1 bt129.2 false)) else (crossbarlaw06_sane.j0 k t103 t105 t107 t109 t111 bt113.1 bt118.1 bt125.1 bt129.2 false)) else (crossbarlaw06_sane.j0 k t103 t105 t107 t109 t111 bt113.1 bt118.1 bt125.1 bt129.2 false)) else (crossbarlaw06_sane.j0 k t103 t105 t107 t109 t111 bt113.1 bt118.1 bt125.1 bt129.2 false)))))) = some r := H
  have A5 := Aside0.mk A50
  clear A50
  replace H := Option.bind_eq_some_iff.mp H
  obtain ⟨⟨t113, t114⟩, A60, H⟩ := H
  replace H : ((digits_Minimal.f (([(⟨#[49, 50]⟩ : ByteArray), (⟨#[49, 50, 51]⟩ : ByteArray), (⟨#[49]⟩ : ByteArray)] : List ByteArray))).bind fun bt118 => ((digits_Minimal.f (([(⟨#[53, 48]⟩ : ByteArray), (⟨#[53, 49]⟩ : ByteArray), (⟨#[53, 50]⟩ : ByteArray), (⟨#[53, 51]⟩ : ByteArray), (⟨#[53, 52]⟩ : ByteArray), (⟨#[53, 53]⟩ : ByteArray), (⟨#[53, 54]⟩ : ByteArray), (⟨#[53, 55]⟩ : ByteArray), (⟨#[55]⟩ : ByteArray), (⟨#[53, 56]⟩ : ByteArray), (⟨#[53, 57]⟩ : ByteArray)] : List ByteArray))).bind fun bt125 => ((digits_Normalize.f (⟨#[48, 48]⟩ : ByteArray) (⟨#[52, 57]⟩ : ByteArray) (⟨#[51, 48]⟩ : ByteArray)).bind fun bt129 => (if t104 = 0 then (if t106 = 0 then (if t108 = 0 then (if t110 = 0 then (if t112 = 0 then (if t114 = 0 then (if bt118.2 = 0 then (crossbarlaw06_sane.j0 k t103 t105 t107 t109 t111 t113 bt118.1 bt125.1 bt129.2 (bt125.2 == 0)) else (crossbarlaw06_sane.j0 k t103 t105 t107 t109 t111 t113 bt118.1 bt125.1 bt129.2 false)) else (crossbarlaw06_sane.j0 k t103 t105 t107 t109 t111 t113 bt118.1 bt125.1 bt129.2 false)) else (crossbarlaw06_sane.j0 k t103 t105 t107 t109 t111 t113 bt118.1 bt125.1 bt129.2 false)) else (crossbarlaw06_sane.j0 k t103 t105 t107 t109 t111 t113 bt118.1 bt125.1 bt129.2 false)) else (crossbarlaw06_sane.j0 k t103 t105 t107 t109 t111 t113 bt118.1 bt125.1 bt129.2 false)) else (crossbarlaw06_sane.j0 k t103 t105 t107 t109 t111 t113 bt118.1 bt125.1 bt129.2 false)) else (crossbarlaw06_sane.j0 k t103 t105 t107 t109 t111 t113 bt118.1 bt125.1 bt129.2 false))))) = some r := H
  have A6 := Aside0.mk A60
  clear A60
  obtain ⟨y115, hy115⟩ : ∃ y_ : List ByteArray, y_ = (([(⟨#[49, 50]⟩ : ByteArray), (⟨#[49, 50, 51]⟩ : ByteArray), (⟨#[49]⟩ : ByteArray)] : List ByteArray)) := ⟨_, rfl⟩
  replace H : ((digits_Minimal.f y115).bind fun bt118 => ((digits_Minimal.f (([(⟨#[53, 48]⟩ : ByteArray), (⟨#[53, 49]⟩ : ByteArray), (⟨#[53, 50]⟩ : ByteArray), (⟨#[53, 51]⟩ : ByteArray), (⟨#[53, 52]⟩ : ByteArray), (⟨#[53, 53]⟩ : ByteArray), (⟨#[53, 54]⟩ : ByteArray), (⟨#[53, 55]⟩ : ByteArray), (⟨#[55]⟩ : ByteArray), (⟨#[53, 56]⟩ : ByteArray), (⟨#[53, 57]⟩ : ByteArray)] : List ByteArray))).bind fun bt125 => ((digits_Normalize.f (⟨#[48, 48]⟩ : ByteArray) (⟨#[52, 57]⟩ : ByteArray) (⟨#[51, 48]⟩ : ByteArray)).bind fun bt129 => (if t104 = 0 then (if t106 = 0 then (if t108 = 0 then (if t110 = 0 then (if t112 = 0 then (if t114 = 0 then (if bt118.2 = 0 then (crossbarlaw06_sane.j0 k t103 t105 t107 t109 t111 t113 bt118.1 bt125.1 bt129.2 (bt125.2 == 0)) else (crossbarlaw06_sane.j0 k t103 t105 t107 t109 t111 t113 bt118.1 bt125.1 bt129.2 false)) else (crossbarlaw06_sane.j0 k t103 t105 t107 t109 t111 t113 bt118.1 bt125.1 bt129.2 false)) else (crossbarlaw06_sane.j0 k t103 t105 t107 t109 t111 t113 bt118.1 bt125.1 bt129.2 false)) else (crossbarlaw06_sane.j0 k t103 t105 t107 t109 t111 t113 bt118.1 bt125.1 bt129.2 false)) else (crossbarlaw06_sane.j0 k t103 t105 t107 t109 t111 t113 bt118.1 bt125.1 bt129.2 false)) else (crossbarlaw06_sane.j0 k t103 t105 t107 t109 t111 t113 bt118.1 bt125.1 bt129.2 false)) else (crossbarlaw06_sane.j0 k t103 t105 t107 t109 t111 t113 bt118.1 bt125.1 bt129.2 false))))) = some r := by first | (rw [hy115]; with_reducible exact H) | (have H2_ := (Option.bind_some _ _).symm.trans H; rw [hy115]; with_reducible exact H2_) | (have H2_ := (Option.bind_some _ _).symm.trans H; with_reducible exact H2_) | with_reducible exact H | (rw [hy115]; exact H) | exact H
  have Ny115 := Aside0.mk hy115
  clear hy115
  replace H := Option.bind_eq_some_iff.mp H
  obtain ⟨⟨t118, t119⟩, A70, H⟩ := H
  replace H : ((digits_Minimal.f (([(⟨#[53, 48]⟩ : ByteArray), (⟨#[53, 49]⟩ : ByteArray), (⟨#[53, 50]⟩ : ByteArray), (⟨#[53, 51]⟩ : ByteArray), (⟨#[53, 52]⟩ : ByteArray), (⟨#[53, 53]⟩ : ByteArray), (⟨#[53, 54]⟩ : ByteArray), (⟨#[53, 55]⟩ : ByteArray), (⟨#[55]⟩ : ByteArray), (⟨#[53, 56]⟩ : ByteArray), (⟨#[53, 57]⟩ : ByteArray)] : List ByteArray))).bind fun bt125 => ((digits_Normalize.f (⟨#[48, 48]⟩ : ByteArray) (⟨#[52, 57]⟩ : ByteArray) (⟨#[51, 48]⟩ : ByteArray)).bind fun bt129 => (if t104 = 0 then (if t106 = 0 then (if t108 = 0 then (if t110 = 0 then (if t112 = 0 then (if t114 = 0 then (if t119 = 0 then (crossbarlaw06_sane.j0 k t103 t105 t107 t109 t111 t113 t118 bt125.1 bt129.2 (bt125.2 == 0)) else (crossbarlaw06_sane.j0 k t103 t105 t107 t109 t111 t113 t118 bt125.1 bt129.2 false)) else (crossbarlaw06_sane.j0 k t103 t105 t107 t109 t111 t113 t118 bt125.1 bt129.2 false)) else (crossbarlaw06_sane.j0 k t103 t105 t107 t109 t111 t113 t118 bt125.1 bt129.2 false)) else (crossbarlaw06_sane.j0 k t103 t105 t107 t109 t111 t113 t118 bt125.1 bt129.2 false)) else (crossbarlaw06_sane.j0 k t103 t105 t107 t109 t111 t113 t118 bt125.1 bt129.2 false)) else (crossbarlaw06_sane.j0 k t103 t105 t107 t109 t111 t113 t118 bt125.1 bt129.2 false)) else (crossbarlaw06_sane.j0 k t103 t105 t107 t109 t111 t113 t118 bt125.1 bt129.2 false)))) = some r := H
  have A7 := Aside0.mk A70
  clear A70
  obtain ⟨y122, hy122⟩ : ∃ y_ : List ByteArray, y_ = (([(⟨#[53, 48]⟩ : ByteArray), (⟨#[53, 49]⟩ : ByteArray), (⟨#[53, 50]⟩ : ByteArray), (⟨#[53, 51]⟩ : ByteArray), (⟨#[53, 52]⟩ : ByteArray), (⟨#[53, 53]⟩ : ByteArray), (⟨#[53, 54]⟩ : ByteArray), (⟨#[53, 55]⟩ : ByteArray), (⟨#[55]⟩ : ByteArray), (⟨#[53, 56]⟩ : ByteArray), (⟨#[53, 57]⟩ : ByteArray)] : List ByteArray)) := ⟨_, rfl⟩
  replace H : ((digits_Minimal.f y122).bind fun bt125 => ((digits_Normalize.f (⟨#[48, 48]⟩ : ByteArray) (⟨#[52, 57]⟩ : ByteArray) (⟨#[51, 48]⟩ : ByteArray)).bind fun bt129 => (if t104 = 0 then (if t106 = 0 then (if t108 = 0 then (if t110 = 0 then (if t112 = 0 then (if t114 = 0 then (if t119 = 0 then (crossbarlaw06_sane.j0 k t103 t105 t107 t109 t111 t113 t118 bt125.1 bt129.2 (bt125.2 == 0)) else (crossbarlaw06_sane.j0 k t103 t105 t107 t109 t111 t113 t118 bt125.1 bt129.2 false)) else (crossbarlaw06_sane.j0 k t103 t105 t107 t109 t111 t113 t118 bt125.1 bt129.2 false)) else (crossbarlaw06_sane.j0 k t103 t105 t107 t109 t111 t113 t118 bt125.1 bt129.2 false)) else (crossbarlaw06_sane.j0 k t103 t105 t107 t109 t111 t113 t118 bt125.1 bt129.2 false)) else (crossbarlaw06_sane.j0 k t103 t105 t107 t109 t111 t113 t118 bt125.1 bt129.2 false)) else (crossbarlaw06_sane.j0 k t103 t105 t107 t109 t111 t113 t118 bt125.1 bt129.2 false)) else (crossbarlaw06_sane.j0 k t103 t105 t107 t109 t111 t113 t118 bt125.1 bt129.2 false)))) = some r := by first | (rw [hy122]; with_reducible exact H) | (have H2_ := (Option.bind_some _ _).symm.trans H; rw [hy122]; with_reducible exact H2_) | (have H2_ := (Option.bind_some _ _).symm.trans H; with_reducible exact H2_) | with_reducible exact H | (rw [hy122]; exact H) | exact H
  have Ny122 := Aside0.mk hy122
  clear hy122
  replace H := Option.bind_eq_some_iff.mp H
  obtain ⟨⟨t125, t126⟩, A80, H⟩ := H
  replace H : ((digits_Normalize.f (⟨#[48, 48]⟩ : ByteArray) (⟨#[52, 57]⟩ : ByteArray) (⟨#[51, 48]⟩ : ByteArray)).bind fun bt129 => (if t104 = 0 then (if t106 = 0 then (if t108 = 0 then (if t110 = 0 then (if t112 = 0 then (if t114 = 0 then (if t119 = 0 then (crossbarlaw06_sane.j0 k t103 t105 t107 t109 t111 t113 t118 t125 bt129.2 (t126 == 0)) else (crossbarlaw06_sane.j0 k t103 t105 t107 t109 t111 t113 t118 t125 bt129.2 false)) else (crossbarlaw06_sane.j0 k t103 t105 t107 t109 t111 t113 t118 t125 bt129.2 false)) else (crossbarlaw06_sane.j0 k t103 t105 t107 t109 t111 t113 t118 t125 bt129.2 false)) else (crossbarlaw06_sane.j0 k t103 t105 t107 t109 t111 t113 t118 t125 bt129.2 false)) else (crossbarlaw06_sane.j0 k t103 t105 t107 t109 t111 t113 t118 t125 bt129.2 false)) else (crossbarlaw06_sane.j0 k t103 t105 t107 t109 t111 t113 t118 t125 bt129.2 false)) else (crossbarlaw06_sane.j0 k t103 t105 t107 t109 t111 t113 t118 t125 bt129.2 false))) = some r := H
  have A8 := Aside0.mk A80
  clear A80
  replace H := Option.bind_eq_some_iff.mp H
  obtain ⟨⟨t129, t130⟩, A90, H⟩ := H
  replace H : (if t104 = 0 then (if t106 = 0 then (if t108 = 0 then (if t110 = 0 then (if t112 = 0 then (if t114 = 0 then (if t119 = 0 then (crossbarlaw06_sane.j0 k t103 t105 t107 t109 t111 t113 t118 t125 t130 (t126 == 0)) else (crossbarlaw06_sane.j0 k t103 t105 t107 t109 t111 t113 t118 t125 t130 false)) else (crossbarlaw06_sane.j0 k t103 t105 t107 t109 t111 t113 t118 t125 t130 false)) else (crossbarlaw06_sane.j0 k t103 t105 t107 t109 t111 t113 t118 t125 t130 false)) else (crossbarlaw06_sane.j0 k t103 t105 t107 t109 t111 t113 t118 t125 t130 false)) else (crossbarlaw06_sane.j0 k t103 t105 t107 t109 t111 t113 t118 t125 t130 false)) else (crossbarlaw06_sane.j0 k t103 t105 t107 t109 t111 t113 t118 t125 t130 false)) else (crossbarlaw06_sane.j0 k t103 t105 t107 t109 t111 t113 t118 t125 t130 false)) = some r := H
  have A9 := Aside0.mk A90
  clear A90
  have HC10 := Aside0.mk H
  clear H
  go_enter Try.func12, Try.ntmps12
  go_upto_region 10 with (first | ((with_reducible refine gate_callee (f := 14) rfl ?_); refine goesL_ (some 23) rfl rfl Try.func14 (by kernel_rfl) rfl #[.string (⟨#[49, 50, 51, 52]⟩ : ByteArray), .string (⟨#[52, 57]⟩ : ByteArray), .string (⟨#[51, 48]⟩ : ByteArray)] rfl (by (try simp only [List.map_toArray, List.map_cons, List.map_nil]); first | done | rfl | (simp only [List.length_drop, List.length_take]; rfl)) ?_; (with_reducible refine (digits_Normalize.calls (⟨#[49, 50, 51, 52]⟩ : ByteArray) (⟨#[52, 57]⟩ : ByteArray) (⟨#[51, 48]⟩ : ByteArray) t103 t104 _ A1.out).mono ?_); rintro e w11 ⟨rfl, hb⟩; refine ⟨_, rfl, ?_⟩; have n0_ := Aside0.mk (below_step (by repeat (first | (with_reducible first | exact HB.out | apply below_alloc | apply pw_below_drewN | apply below_drew1) | exact HB.out)) hb); clear HB; have HB := n0_; clear n0_; (try clear hb); (try clear hb2); (try clear hk); (try clear hi)) | ((with_reducible refine gate_callee (f := 14) rfl ?_); refine goesL_ (some 27) rfl rfl Try.func14 (by kernel_rfl) rfl #[.string (⟨#[48, 56, 57, 49, 50, 51, 52]⟩ : ByteArray), .string (⟨#[52, 57]⟩ : ByteArray), .string (⟨#[51, 48]⟩ : ByteArray)] rfl (by (try simp only [List.map_toArray, List.map_cons, List.map_nil]); first | done | rfl | (simp only [List.length_drop, List.length_take]; rfl)) ?_; (with_reducible refine (digits_Normalize.calls (⟨#[48, 56, 57, 49, 50, 51, 52]⟩ : ByteArray) (⟨#[52, 57]⟩ : ByteArray) (⟨#[51, 48]⟩ : ByteArray) t105 t106 _ A2.out).mono ?_); rintro e w12 ⟨rfl, hb⟩; refine ⟨_, rfl, ?_⟩; have n0_ := Aside0.mk (below_step (by repeat (first | (with_reducible first | exact HB.out | apply below_alloc | apply pw_below_drewN | apply below_drew1) | exact HB.out)) hb); clear HB; have HB := n0_; clear n0_; (try clear hb); (try clear hb2); (try clear hk); (try clear hi)) | ((with_reducible refine gate_callee (f := 14) rfl ?_); refine goesL_ (some 31) rfl rfl Try.func14 (by kernel_rfl) rfl #[.string (⟨#[48, 48, 51, 51, 49]⟩ : ByteArray), .string (⟨#[52, 57]⟩ : ByteArray), .string (⟨#[51, 48]⟩ : ByteArray)] rfl (by (try simp only [List.map_toArray, List.map_cons, List.map_nil]); first | done | rfl | (simp only [List.length_drop, List.length_take]; rfl)) ?_; (with_reducible refine (digits_Normalize.calls (⟨#[48, 48, 51, 51, 49]⟩ : ByteArray) (⟨#[52, 57]⟩ : ByteArray) (⟨#[51, 48]⟩ : ByteArray) t107 t108 _ A3.out).mono ?_); rintro e w13 ⟨rfl, hb⟩; refine ⟨_, rfl, ?_⟩; have n0_ := Aside0.mk (below_step (by repeat (first | (with_reducible first | exact HB.out | apply below_alloc | apply pw_below_drewN | apply below_drew1) | exact HB.out)) hb); clear HB; have HB := n0_; clear n0_; (try clear hb); (try clear hb2); (try clear hk); (try clear hi)) | ((with_reducible refine gate_callee (f := 16) rfl ?_); refine goesL_ (some 35) rfl rfl Try.func16 (by kernel_rfl) rfl #[.string (⟨#[52, 57, 51, 48, 49, 50, 51, 52]⟩ : ByteArray), .string (⟨#[52, 57]⟩ : ByteArray), .string (⟨#[51, 48]⟩ : ByteArray)] rfl (by (try simp only [List.map_toArray, List.map_cons, List.map_nil]); first | done | rfl | (simp only [List.length_drop, List.length_take]; rfl)) ?_; (with_reducible refine (digits_Shorten.calls (⟨#[52, 57, 51, 48, 49, 50, 51, 52]⟩ : ByteArray) (⟨#[52, 57]⟩ : ByteArray) (⟨#[51, 48]⟩ : ByteArray) t109 t110 _ A4.out).mono ?_); rintro e w14 ⟨rfl, hb⟩; refine ⟨_, rfl, ?_⟩; have n0_ := Aside0.mk (below_step (by repeat (first | (with_reducible first | exact HB.out | apply below_alloc | apply pw_below_drewN | apply below_drew1) | exact HB.out)) hb); clear HB; have HB := n0_; clear n0_; (try clear hb); (try clear hb2); (try clear hk); (try clear hi)) | ((with_reducible refine gate_callee (f := 16) rfl ?_); refine goesL_ (some 39) rfl rfl Try.func16 (by kernel_rfl) rfl #[.string (⟨#[52, 57, 51, 48, 48, 49, 50, 51]⟩ : ByteArray), .string (⟨#[52, 57]⟩ : ByteArray), .string (⟨#[51, 48]⟩ : ByteArray)] rfl (by (try simp only [List.map_toArray, List.map_cons, List.map_nil]); first | done | rfl | (simp only [List.length_drop, List.length_take]; rfl)) ?_; (with_reducible refine (digits_Shorten.calls (⟨#[52, 57, 51, 48, 48, 49, 50, 51]⟩ : ByteArray) (⟨#[52, 57]⟩ : ByteArray) (⟨#[51, 48]⟩ : ByteArray) t111 t112 _ A5.out).mono ?_); rintro e w15 ⟨rfl, hb⟩; refine ⟨_, rfl, ?_⟩; have n0_ := Aside0.mk (below_step (by repeat (first | (with_reducible first | exact HB.out | apply below_alloc | apply pw_below_drewN | apply below_drew1) | exact HB.out)) hb); clear HB; have HB := n0_; clear n0_; (try clear hb); (try clear hb2); (try clear hk); (try clear hi)) | ((with_reducible refine gate_callee (f := 16) rfl ?_); refine goesL_ (some 43) rfl rfl Try.func16 (by kernel_rfl) rfl #[.string (⟨#[51, 51, 49]⟩ : ByteArray), .string (⟨#[52, 57]⟩ : ByteArray), .string (⟨#[51, 48]⟩ : ByteArray)] rfl (by (try simp only [List.map_toArray, List.map_cons, List.map_nil]); first | done | rfl | (simp only [List.length_drop, List.length_take]; rfl)) ?_; (with_reducible refine (digits_Shorten.calls (⟨#[51, 51, 49]⟩ : ByteArray) (⟨#[52, 57]⟩ : ByteArray) (⟨#[51, 48]⟩ : ByteArray) t113 t114 _ A6.out).mono ?_); rintro e w16 ⟨rfl, hb⟩; refine ⟨_, rfl, ?_⟩; have n0_ := Aside0.mk (below_step (by repeat (first | (with_reducible first | exact HB.out | apply below_alloc | apply pw_below_drewN | apply below_drew1) | exact HB.out)) hb); clear HB; have HB := n0_; clear n0_; (try clear hb); (try clear hb2); (try clear hk); (try clear hi)) | ((with_reducible refine gate_dst (N := 47) rfl ?_); (try (refine gate_guard (by rfl) ?_; dsimp only)); refine Kd.R_lit Kd.string _ 9 ?hg (N := 47) ?hd (xs := ([(⟨#[49, 50]⟩ : ByteArray), (⟨#[49, 50, 51]⟩ : ByteArray), (⟨#[49]⟩ : ByteArray)] : List ByteArray)) (inner := [.string (⟨#[49, 50]⟩ : ByteArray), .string (⟨#[49, 50, 51]⟩ : ByteArray), .string (⟨#[49]⟩ : ByteArray)]) (ok := fun _ => True) (okp := fun _ => True) ?hr ?hp (fun _ hk => hk) trivial (Below.refl _ _) (Nat.le_refl _) (by simp) ?_; (case hd => rfl); (case hg => rfl); (case hr => first | (go_simp; done) | (go_simp; rfl)); (case hp => exact (Reps.one (show Kd.M Kd.string _ _ _ (⟨#[49, 50]⟩ : ByteArray) [.string (⟨#[49, 50]⟩ : ByteArray)] from rfl) (Reps.one (show Kd.M Kd.string _ _ _ (⟨#[49, 50, 51]⟩ : ByteArray) [.string (⟨#[49, 50, 51]⟩ : ByteArray)] from rfl) (Reps.one (show Kd.M Kd.string _ _ _ (⟨#[49]⟩ : ByteArray) [.string (⟨#[49]⟩ : ByteArray)] from rfl) (Reps.none _ _))))); intro v116 w17 ho18 hb hg_ hnew_; clear hg_ hnew_; (first | rw [← Ny115.out] at ho18 | (simp only [Int.reduceToNat] at ho18; rw [← Ny115.out] at ho18)); have n0_ := Aside0.mk (Kd.R_lower ho18 (below_size (by repeat (first | (with_reducible first | exact HB.out | apply below_alloc | apply pw_below_drewN | apply below_drew1) | exact HB.out)))); have n1_ := Aside0.mk (below_step (by repeat (first | (with_reducible first | exact HB.out | apply below_alloc | apply pw_below_drewN | apply below_drew1) | exact HB.out)) hb); clear HB; have HO117 := n0_; have HB := n1_; clear n0_ n1_; clear hb ho18; obtain ⟨Ao19, co19, eo19⟩ := Kd.R_slice HO117.out; subst eo19) | ((with_reducible refine gate_callee (f := 21) rfl ?_); refine goesL_ (some 48) rfl rfl Try.func21 (by kernel_rfl) rfl #[.slice Ao19 y115.length co19] rfl (by (try simp only [List.map_toArray, List.map_cons, List.map_nil]); first | done | rfl | (simp only [List.length_drop, List.length_take]; rfl)) ?_; (with_reducible refine (digits_Minimal.calls _ _ y115 t118 t119 _ ?side1 ?side2 A7.out).mono ?_); (case side1 => repeat (first | exact (Kd.R_reads' HO117.out).2.2 | (with_reducible refine Kd.C_alloc ?_ _) | (with_reducible refine Kd.C_drewN ?_ _) | (with_reducible refine Kd.C_drew ?_))); (case side2 => exact (Kd.R_reads' HO117.out).2.1); rintro e w20 ⟨v120, rfl, ho0, hb⟩; refine ⟨_, rfl, ?_⟩; have n0_ := Aside0.mk (Kd.R_elder' (by (with_reducible repeat (first | apply Kd.R_alloc | apply Kd.R_drewN | apply Kd.R_drew)); exact HO117.out) (Kd.R_base ho0) hb); have n1_ := Aside0.mk (Kd.R_lower (Kd.R_new' ho0 (Kd.R_lt (by (with_reducible repeat (first | apply Kd.R_alloc | apply Kd.R_drewN | apply Kd.R_drew)); exact HO117.out))) (below_size (by repeat (first | (with_reducible first | exact HB.out | apply below_alloc | apply pw_below_drewN | apply below_drew1) | exact HB.out)))); have n2_ := Aside0.mk (below_step (by repeat (first | (with_reducible first | exact HB.out | apply below_alloc | apply pw_below_drewN | apply below_drew1) | exact HB.out)) hb); clear HO117; clear HB; have HO117 := n0_; have HO121 := n1_; have HB := n2_; clear n0_ n1_ n2_; (try clear hb); (try clear hb2); (try clear hk); (try clear hi); (try clear ho0)) | ((with_reducible refine gate_dst (N := 52) rfl ?_); (try (refine gate_guard (by rfl) ?_; dsimp only)); refine Kd.R_lit Kd.string _ 9 ?hg (N := 52) ?hd (xs := ([(⟨#[53, 48]⟩ : ByteArray), (⟨#[53, 49]⟩ : ByteArray), (⟨#[53, 50]⟩ : ByteArray), (⟨#[53, 51]⟩ : ByteArray), (⟨#[53, 52]⟩ : ByteArray), (⟨#[53, 53]⟩ : ByteArray), (⟨#[53, 54]⟩ : ByteArray), (⟨#[53, 55]⟩ : ByteArray), (⟨#[55]⟩ : ByteArray), (⟨#[53, 56]⟩ : ByteArray), (⟨#[53, 57]⟩ : ByteArray)] : List ByteArray)) (inner := [.string (⟨#[53, 48]⟩ : ByteArray), .string (⟨#[53, 49]⟩ : ByteArray), .string (⟨#[53, 50]⟩ : ByteArray), .string (⟨#[53, 51]⟩ : ByteArray), .string (⟨#[53, 52]⟩ : ByteArray), .string (⟨#[53, 53]⟩ : ByteArray), .string (⟨#[53, 54]⟩ : ByteArray), .string (⟨#[53, 55]⟩ : ByteArray), .string (⟨#[55]⟩ : ByteArray), .string (⟨#[53, 56]⟩ : ByteArray), .string (⟨#[53, 57]⟩ : ByteArray)]) (ok := fun _ => True) (okp := fun _ => True) ?hr ?hp (fun _ hk => hk) trivial (Below.refl _ _) (Nat.le_refl _) (by simp) ?_; (case hd => rfl); (case hg => rfl); (case hr => first | (go_simp; done) | (go_simp; rfl)); (case hp => exact (Reps.one (show Kd.M Kd.string _ _ _ (⟨#[53, 48]⟩ : ByteArray) [.string (⟨#[53, 48]⟩ : ByteArray)] from rfl) (Reps.one (show Kd.M Kd.string _ _ _ (⟨#[53, 49]⟩ : ByteArray) [.string (⟨#[53, 49]⟩ : ByteArray)] from rfl) (Reps.one (show Kd.M Kd.string _ _ _ (⟨#[53, 50]⟩ : ByteArray) [.string (⟨#[53, 50]⟩ : ByteArray)] from rfl) (Reps.one (show Kd.M Kd.string _ _ _ (⟨#[53, 51]⟩ : ByteArray) [.string (⟨#[53, 51]⟩ : ByteArray)] from rfl) (Reps.one (show Kd.M Kd.string _ _ _ (⟨#[53, 52]⟩ : ByteArray) [.string (⟨#[53, 52]⟩ : ByteArray)] from rfl) (Reps.one (show Kd.M Kd.string _ _ _ (⟨#[53, 53]⟩ : ByteArray) [.string (⟨#[53, 53]⟩ : ByteArray)] from rfl) (Reps.one (show Kd.M Kd.string _ _ _ (⟨#[53, 54]⟩ : ByteArray) [.string (⟨#[53, 54]⟩ : ByteArray)] from rfl) (Reps.one (show Kd.M Kd.string _ _ _ (⟨#[53, 55]⟩ : ByteArray) [.string (⟨#[53, 55]⟩ : ByteArray)] from rfl) (Reps.one (show Kd.M Kd.string _ _ _ (⟨#[55]⟩ : ByteArray) [.string (⟨#[55]⟩ : ByteArray)] from rfl) (Reps.one (show Kd.M Kd.string _ _ _ (⟨#[53, 56]⟩ : ByteArray) [.string (⟨#[53, 56]⟩ : ByteArray)] from rfl) (Reps.one (show Kd.M Kd.string _ _ _ (⟨#[53, 57]⟩ : ByteArray) [.string (⟨#[53, 57]⟩ : ByteArray)] from rfl) (Reps.none _ _))))))))))))); intro v123 w21 ho22 hb hg_ hnew_; clear hg_ hnew_; (first | rw [← Ny122.out] at ho22 | (simp only [Int.reduceToNat] at ho22; rw [← Ny122.out] at ho22)); have n0_ := Aside0.mk (Kd.R_elder' (by (with_reducible repeat (first | apply Kd.R_alloc | apply Kd.R_drewN | apply Kd.R_drew)); exact HO117.out) (Kd.R_base ho22) hb); have n1_ := Aside0.mk (Kd.R_elder' (by (with_reducible repeat (first | apply Kd.R_alloc | apply Kd.R_drewN | apply Kd.R_drew)); exact HO121.out) (Kd.R_base ho22) hb); have n2_ := Aside0.mk (Kd.R_lower (Kd.R_new' (Kd.R_new' ho22 (Kd.R_lt (by (with_reducible repeat (first | apply Kd.R_alloc | apply Kd.R_drewN | apply Kd.R_drew)); exact HO117.out))) (Kd.R_lt (by (with_reducible repeat (first | apply Kd.R_alloc | apply Kd.R_drewN | apply Kd.R_drew)); exact HO121.out))) (below_size (by repeat (first | (with_reducible first | exact HB.out | apply below_alloc | apply pw_below_drewN | apply below_drew1) | exact HB.out)))); have n3_ := Aside0.mk (below_step (by repeat (first | (with_reducible first | exact HB.out | apply below_alloc | apply pw_below_drewN | apply below_drew1) | exact HB.out)) hb); clear HO117; clear HO121; clear HB; have HO117 := n0_; have HO121 := n1_; have HO124 := n2_; have HB := n3_; clear n0_ n1_ n2_ n3_; clear hb ho22; obtain ⟨Ao23, co23, eo23⟩ := Kd.R_slice HO124.out; subst eo23) | ((with_reducible refine gate_callee (f := 21) rfl ?_); refine goesL_ (some 53) rfl rfl Try.func21 (by kernel_rfl) rfl #[.slice Ao23 y122.length co23] rfl (by (try simp only [List.map_toArray, List.map_cons, List.map_nil]); first | done | rfl | (simp only [List.length_drop, List.length_take]; rfl)) ?_; (with_reducible refine (digits_Minimal.calls _ _ y122 t125 t126 _ ?side1 ?side2 A8.out).mono ?_); (case side1 => repeat (first | exact (Kd.R_reads' HO124.out).2.2 | (with_reducible refine Kd.C_alloc ?_ _) | (with_reducible refine Kd.C_drewN ?_ _) | (with_reducible refine Kd.C_drew ?_))); (case side2 => exact (Kd.R_reads' HO124.out).2.1); rintro e w24 ⟨v127, rfl, ho0, hb⟩; refine ⟨_, rfl, ?_⟩; have n0_ := Aside0.mk (Kd.R_elder' (by (with_reducible repeat (first | apply Kd.R_alloc | apply Kd.R_drewN | apply Kd.R_drew)); exact HO117.out) (Kd.R_base ho0) hb); have n1_ := Aside0.mk (Kd.R_elder' (by (with_reducible repeat (first | apply Kd.R_alloc | apply Kd.R_drewN | apply Kd.R_drew)); exact HO121.out) (Kd.R_base ho0) hb); have n2_ := Aside0.mk (Kd.R_elder' (by (with_reducible repeat (first | apply Kd.R_alloc | apply Kd.R_drewN | apply Kd.R_drew)); exact HO124.out) (Kd.R_base ho0) hb); have n3_ := Aside0.mk (Kd.R_lower (Kd.R_new' (Kd.R_new' (Kd.R_new' ho0 (Kd.R_lt (by (with_reducible repeat (first | apply Kd.R_alloc | apply Kd.R_drewN | apply Kd.R_drew)); exact HO117.out))) (Kd.R_lt (by (with_reducible repeat (first | apply Kd.R_alloc | apply Kd.R_drewN | apply Kd.R_drew)); exact HO121.out))) (Kd.R_lt (by (with_reducible repeat (first | apply Kd.R_alloc | apply Kd.R_drewN | apply Kd.R_drew)); exact HO124.out))) (below_size (by repeat (first | (with_reducible first | exact HB.out | apply below_alloc | apply pw_below_drewN | apply below_drew1) | exact HB.out)))); have n4_ := Aside0.mk (below_step (by repeat (first | (with_reducible first | exact HB.out | apply below_alloc | apply pw_below_drewN | apply below_drew1) | exact HB.out)) hb); clear HO117; clear HO121; clear HO124; clear HB; have HO117 := n0_; have HO121 := n1_; have HO124 := n2_; have HO128 := n3_; have HB := n4_; clear n0_ n1_ n2_ n3_ n4_; (try clear hb); (try clear hb2); (try clear hk); (try clear hi); (try clear ho0)) | ((with_reducible refine gate_callee (f := 14) rfl ?_); refine goesL_ (some 57) rfl rfl Try.func14 (by kernel_rfl) rfl #[.string (⟨#[48, 48]⟩ : ByteArray), .string (⟨#[52, 57]⟩ : ByteArray), .string (⟨#[51, 48]⟩ : ByteArray)] rfl (by (try simp only [List.map_toArray, List.map_cons, List.map_nil]); first | done | rfl | (simp only [List.length_drop, List.length_take]; rfl)) ?_; (with_reducible refine (digits_Normalize.calls (⟨#[48, 48]⟩ : ByteArray) (⟨#[52, 57]⟩ : ByteArray) (⟨#[51, 48]⟩ : ByteArray) t129 t130 _ A9.out).mono ?_); rintro e w25 ⟨rfl, hb⟩; refine ⟨_, rfl, ?_⟩; have n0_ := Aside0.mk (Kd.R_below (by (with_reducible repeat (first | apply Kd.R_alloc | apply Kd.R_drewN | apply Kd.R_drew)); exact HO117.out) hb); have n1_ := Aside0.mk (Kd.R_below (by (with_reducible repeat (first | apply Kd.R_alloc | apply Kd.R_drewN | apply Kd.R_drew)); exact HO121.out) hb); have n2_ := Aside0.mk (Kd.R_below (by (with_reducible repeat (first | apply Kd.R_alloc | apply Kd.R_drewN | apply Kd.R_drew)); exact HO124.out) hb); have n3_ := Aside0.mk (Kd.R_below (by (with_reducible repeat (first | apply Kd.R_alloc | apply Kd.R_drewN | apply Kd.R_drew)); exact HO128.out) hb); have n4_ := Aside0.mk (below_step (by repeat (first | (with_reducible first | exact HB.out | apply below_alloc | apply pw_below_drewN | apply below_drew1) | exact HB.out)) hb); clear HO117; clear HO121; clear HO124; clear HO128; clear HB; have HO117 := n0_; have HO121 := n1_; have HO124 := n2_; have HO128 := n3_; have HB := n4_; clear n0_ n1_ n2_ n3_ n4_; (try clear hb); (try clear hb2); (try clear hk); (try clear hi)))
  (try simp only [Act.put, List.setIfInBounds_toArray, List.set_cons_zero, List.set_cons_succ])
  go_cut [19] (fun v19 wc => ∃ (kq : Nat) (x19_9 : Bool), v19 = .bool x19_9 ∧ Aside0 (crossbarlaw06_sane.j0 kq t103 t105 t107 t109 t111 t113 t118 t125 t130 x19_9 = some r) ∧ Aside0 (kq ≤ k) ∧ Aside0 (Kd.R Kd.string 9 wc w.heap.size (fun k_ => some k_ ≠ (v127 : Value).ownBlock) v120 t118) ∧ Aside0 (Kd.R Kd.string 9 wc w.heap.size (fun k_ => some k_ ≠ (v120 : Value).ownBlock) v127 t125) ∧ Aside0 (Below w.heap.size w wc))
  case first =>
    have H := HC10.out
    clear HC10
    by_cases c26 : t104 = 0
    · rw [if_pos c26] at H
      have c26b0 : (t104 == 0) = true := beq_iff_eq.mpr c26
      have c26b1 : (t104 != 0) = false := bne_eq_false_iff_eq.mpr c26
      clear c26
      (first | rw [c26b0] | (simp only [i64_w, i32_w]; rw [c26b0]) | skip)
      by_cases c27 : t106 = 0
      · rw [if_pos c27] at H
        have c27b0 : (t106 == 0) = true := beq_iff_eq.mpr c27
        have c27b1 : (t106 != 0) = false := bne_eq_false_iff_eq.mpr c27
        clear c27
        by_cases c28 : t108 = 0
        · rw [if_pos c28] at H
          have c28b0 : (t108 == 0) = true := beq_iff_eq.mpr c28
          have c28b1 : (t108 != 0) = false := bne_eq_false_iff_eq.mpr c28
          clear c28
          by_cases c29 : t110 = 0
          · rw [if_pos c29] at H
            have c29b0 : (t110 == 0) = true := beq_iff_eq.mpr c29
            have c29b1 : (t110 != 0) = false := bne_eq_false_iff_eq.mpr c29
            clear c29
            by_cases c30 : t112 = 0
            · rw [if_pos c30] at H
              have c30b0 : (t112 == 0) = true := beq_iff_eq.mpr c30
              have c30b1 : (t112 != 0) = false := bne_eq_false_iff_eq.mpr c30
              clear c30
              by_cases c31 : t114 = 0
              · rw [if_pos c31] at H
                have c31b0 : (t114 == 0) = true := beq_iff_eq.mpr c31
                have c31b1 : (t114 != 0) = false := bne_eq_false_iff_eq.mpr c31
                clear c31
                by_cases c32 : t119 = 0
                · rw [if_pos c32] at H
                  have c32b0 : (t119 == 0) = true := beq_iff_eq.mpr c32
                  have c32b1 : (t119 != 0) = false := bne_eq_false_iff_eq.mpr c32
                  clear c32
                  have H' := Aside0.mk H
                  clear H
                  go_wp2
                  go_meet
                  case rel => exact ⟨_, ((t126 == 0)), (by first | rfl | (simp; done) | (simp [*]; done)), H', ⟨by first | omega | exact Nat.le_refl _⟩, ⟨by (with_reducible repeat (first | apply Kd.R_alloc | apply Kd.R_drewN | apply Kd.R_drew)); exact Kd.R_mono HO121.out (fun _ hk => hk.2)⟩, ⟨by (with_reducible repeat (first | apply Kd.R_alloc | apply Kd.R_drewN | apply Kd.R_drew)); exact Kd.R_mono HO128.out (fun _ hk => hk.1.2)⟩, ⟨by repeat (first | (with_reducible first | exact HB.out | apply below_alloc | apply pw_below_drewN | apply below_drew1) | exact HB.out)⟩⟩
                · rw [if_neg c32] at H
                  have c32b0 : (t119 == 0) = false := beq_eq_false_iff_ne.mpr c32
                  have c32b1 : (t119 != 0) = true := bne_iff_ne.mpr c32
                  have H' := Aside0.mk H
                  clear H
                  go_wp2
                  go_meet
                  case rel => exact ⟨_, (false), (by first | rfl | (simp; done) | (simp [*]; done)), H', ⟨by first | omega | exact Nat.le_refl _⟩, ⟨by (with_reducible repeat (first | apply Kd.R_alloc | apply Kd.R_drewN | apply Kd.R_drew)); exact Kd.R_mono HO121.out (fun _ hk => hk.2)⟩, ⟨by (with_reducible repeat (first | apply Kd.R_alloc | apply Kd.R_drewN | apply Kd.R_drew)); exact Kd.R_mono HO128.out (fun _ hk => hk.1.2)⟩, ⟨by repeat (first | (with_reducible first | exact HB.out | apply below_alloc | apply pw_below_drewN | apply below_drew1) | exact HB.out)⟩⟩
              · rw [if_neg c31] at H
                have c31b0 : (t114 == 0) = false := beq_eq_false_iff_ne.mpr c31
                have c31b1 : (t114 != 0) = true := bne_iff_ne.mpr c31
                have H' := Aside0.mk H
                clear H
                go_wp2
                go_meet
                case rel => exact ⟨_, (false), (by first | rfl | (simp; done) | (simp [*]; done)), H', ⟨by first | omega | exact Nat.le_refl _⟩, ⟨by (with_reducible repeat (first | apply Kd.R_alloc | apply Kd.R_drewN | apply Kd.R_drew)); exact Kd.R_mono HO121.out (fun _ hk => hk.2)⟩, ⟨by (with_reducible repeat (first | apply Kd.R_alloc | apply Kd.R_drewN | apply Kd.R_drew)); exact Kd.R_mono HO128.out (fun _ hk => hk.1.2)⟩, ⟨by repeat (first | (with_reducible first | exact HB.out | apply below_alloc | apply pw_below_drewN | apply below_drew1) | exact HB.out)⟩⟩
            · rw [if_neg c30] at H
              have c30b0 : (t112 == 0) = false := beq_eq_false_iff_ne.mpr c30
              have c30b1 : (t112 != 0) = true := bne_iff_ne.mpr c30
              have H' := Aside0.mk H
              clear H
              go_wp2
              go_meet
              case rel => exact ⟨_, (false), (by first | rfl | (simp; done) | (simp [*]; done)), H', ⟨by first | omega | exact Nat.le_refl _⟩, ⟨by (with_reducible repeat (first | apply Kd.R_alloc | apply Kd.R_drewN | apply Kd.R_drew)); exact Kd.R_mono HO121.out (fun _ hk => hk.2)⟩, ⟨by (with_reducible repeat (first | apply Kd.R_alloc | apply Kd.R_drewN | apply Kd.R_drew)); exact Kd.R_mono HO128.out (fun _ hk => hk.1.2)⟩, ⟨by repeat (first | (with_reducible first | exact HB.out | apply below_alloc | apply pw_below_drewN | apply below_drew1) | exact HB.out)⟩⟩
          · rw [if_neg c29] at H
            have c29b0 : (t110 == 0) = false := beq_eq_false_iff_ne.mpr c29
            have c29b1 : (t110 != 0) = true := bne_iff_ne.mpr c29
            have H' := Aside0.mk H
            clear H
            go_wp2
            go_meet
            case rel => exact ⟨_, (false), (by first | rfl | (simp; done) | (simp [*]; done)), H', ⟨by first | omega | exact Nat.le_refl _⟩, ⟨by (with_reducible repeat (first | apply Kd.R_alloc | apply Kd.R_drewN | apply Kd.R_drew)); exact Kd.R_mono HO121.out (fun _ hk => hk.2)⟩, ⟨by (with_reducible repeat (first | apply Kd.R_alloc | apply Kd.R_drewN | apply Kd.R_drew)); exact Kd.R_mono HO128.out (fun _ hk => hk.1.2)⟩, ⟨by repeat (first | (with_reducible first | exact HB.out | apply below_alloc | apply pw_below_drewN | apply below_drew1) | exact HB.out)⟩⟩
        · rw [if_neg c28] at H
          have c28b0 : (t108 == 0) = false := beq_eq_false_iff_ne.mpr c28
          have c28b1 : (t108 != 0) = true := bne_iff_ne.mpr c28
          have H' := Aside0.mk H
          clear H
          go_wp2
          go_meet
          case rel => exact ⟨_, (false), (by first | rfl | (simp; done) | (simp [*]; done)), H', ⟨by first | omega | exact Nat.le_refl _⟩, ⟨by (with_reducible repeat (first | apply Kd.R_alloc | apply Kd.R_drewN | apply Kd.R_drew)); exact Kd.R_mono HO121.out (fun _ hk => hk.2)⟩, ⟨by (with_reducible repeat (first | apply Kd.R_alloc | apply Kd.R_drewN | apply Kd.R_drew)); exact Kd.R_mono HO128.out (fun _ hk => hk.1.2)⟩, ⟨by repeat (first | (with_reducible first | exact HB.out | apply below_alloc | apply pw_below_drewN | apply below_drew1) | exact HB.out)⟩⟩
      · rw [if_neg c27] at H
        have c27b0 : (t106 == 0) = false := beq_eq_false_iff_ne.mpr c27
        have c27b1 : (t106 != 0) = true := bne_iff_ne.mpr c27
        have H' := Aside0.mk H
        clear H
        go_wp2
        go_meet
        case rel => exact ⟨_, (false), (by first | rfl | (simp; done) | (simp [*]; done)), H', ⟨by first | omega | exact Nat.le_refl _⟩, ⟨by (with_reducible repeat (first | apply Kd.R_alloc | apply Kd.R_drewN | apply Kd.R_drew)); exact Kd.R_mono HO121.out (fun _ hk => hk.2)⟩, ⟨by (with_reducible repeat (first | apply Kd.R_alloc | apply Kd.R_drewN | apply Kd.R_drew)); exact Kd.R_mono HO128.out (fun _ hk => hk.1.2)⟩, ⟨by repeat (first | (with_reducible first | exact HB.out | apply below_alloc | apply pw_below_drewN | apply below_drew1) | exact HB.out)⟩⟩
    · rw [if_neg c26] at H
      have c26b0 : (t104 == 0) = false := beq_eq_false_iff_ne.mpr c26
      have c26b1 : (t104 != 0) = true := bne_iff_ne.mpr c26
      (first | rw [c26b0] | (simp only [i64_w, i32_w]; rw [c26b0]) | skip)
      have H' := Aside0.mk H
      clear H
      go_wp2
      go_meet
      case rel => exact ⟨_, (false), (by first | rfl | (simp; done) | (simp [*]; done)), H', ⟨by first | omega | exact Nat.le_refl _⟩, ⟨by (with_reducible repeat (first | apply Kd.R_alloc | apply Kd.R_drewN | apply Kd.R_drew)); exact Kd.R_mono HO121.out (fun _ hk => hk.2)⟩, ⟨by (with_reducible repeat (first | apply Kd.R_alloc | apply Kd.R_drewN | apply Kd.R_drew)); exact Kd.R_mono HO128.out (fun _ hk => hk.1.2)⟩, ⟨by repeat (first | (with_reducible first | exact HB.out | apply below_alloc | apply pw_below_drewN | apply below_drew1) | exact HB.out)⟩⟩
  case rest =>
    clear HC10
    try clear c1
    try clear c2
    try clear p2
    try clear c3
    try clear c12
    try clear c14
    try clear c16
    try clear c21
    try clear c26
    try clear c26b0
    try clear c26b1
    try clear c27
    try clear c27b0
    try clear c27b1
    try clear c28
    try clear c28b0
    try clear c28b1
    try clear c29
    try clear c29b0
    try clear c29b1
    try clear c30
    try clear c30b0
    try clear c30b1
    try clear c31
    try clear c31b0
    try clear c31b1
    try clear c32
    try clear c32b0
    try clear c32b1
    obtain ⟨kq, x19_9, rfl, HA, HJ9, HO_13, HO_15, HB⟩ := hcut
    cases kq with
    | zero => exact absurd HA.out (by simp [crossbarlaw06_sane.j0])
    | succ kj9 =>
      have H := HA.out
      clear HA
      simp only [crossbarlaw06_sane.j0] at H
      have HC33 := Aside0.mk H
      clear H
      go_upto_region 11 with (fail)
      go_cut [20] (fun v20 wc => ∃ (kq : Nat) (x20_32 : Bool), v20 = .bool x20_32 ∧ Aside0 (crossbarlaw06_sane.j1 kq t118 t125 t130 x19_9 x20_32 = some r) ∧ Aside0 (kq ≤ kj9) ∧ Aside0 (Kd.R Kd.string 9 wc w.heap.size (fun k_ => some k_ ≠ (v127 : Value).ownBlock) v120 t118) ∧ Aside0 (Kd.R Kd.string 9 wc w.heap.size (fun k_ => some k_ ≠ (v120 : Value).ownBlock) v127 t125) ∧ Aside0 (Below w.heap.size w wc))
      case first =>
        have H := HC33.out
        clear HC33
        by_cases c34 : t103.toList = ([52, 57, 51, 48, 49, 50, 51, 52] : List UInt8)
        · rw [if_pos c34] at H
          have c34b0 : (t103.toList == ([52, 57, 51, 48, 49, 50, 51, 52] : List UInt8)) = true := beq_iff_eq.mpr c34
          have c34b1 : (t103.toList != ([52, 57, 51, 48, 49, 50, 51, 52] : List UInt8)) = false := bne_eq_false_iff_eq.mpr c34
          clear c34
          (first | rw [c34b0] | (simp only [i64_w, i32_w]; rw [c34b0]) | skip)
          by_cases c35 : t105.toList = ([52, 57, 56, 57, 49, 50, 51, 52] : List UInt8)
          · rw [if_pos c35] at H
            have c35b0 : (t105.toList == ([52, 57, 56, 57, 49, 50, 51, 52] : List UInt8)) = true := beq_iff_eq.mpr c35
            have c35b1 : (t105.toList != ([52, 57, 56, 57, 49, 50, 51, 52] : List UInt8)) = false := bne_eq_false_iff_eq.mpr c35
            clear c35
            by_cases c36 : t107.toList = ([51, 51, 49] : List UInt8)
            · rw [if_pos c36] at H
              have c36b0 : (t107.toList == ([51, 51, 49] : List UInt8)) = true := beq_iff_eq.mpr c36
              have c36b1 : (t107.toList != ([51, 51, 49] : List UInt8)) = false := bne_eq_false_iff_eq.mpr c36
              clear c36
              by_cases c37 : t109.toList = ([49, 50, 51, 52] : List UInt8)
              · rw [if_pos c37] at H
                have c37b0 : (t109.toList == ([49, 50, 51, 52] : List UInt8)) = true := beq_iff_eq.mpr c37
                have c37b1 : (t109.toList != ([49, 50, 51, 52] : List UInt8)) = false := bne_eq_false_iff_eq.mpr c37
                clear c37
                by_cases c38 : t111.toList = ([48, 51, 48, 48, 49, 50, 51] : List UInt8)
                · rw [if_pos c38] at H
                  have c38b0 : (t111.toList == ([48, 51, 48, 48, 49, 50, 51] : List UInt8)) = true := beq_iff_eq.mpr c38
                  have c38b1 : (t111.toList != ([48, 51, 48, 48, 49, 50, 51] : List UInt8)) = false := bne_eq_false_iff_eq.mpr c38
                  clear c38
                  have H' := Aside0.mk H
                  clear H
                  go_wp2
                  go_meet
                  case rel => exact ⟨_, ((t113.toList == ([48, 48, 51, 51, 49] : List UInt8))), (by first | rfl | (simp; done) | (simp [*]; done)), H', ⟨by have := HJ9.out; first | omega | exact Nat.le_refl _⟩, ⟨by (with_reducible repeat (first | apply Kd.R_alloc | apply Kd.R_drewN | apply Kd.R_drew)); exact HO_13.out⟩, ⟨by (with_reducible repeat (first | apply Kd.R_alloc | apply Kd.R_drewN | apply Kd.R_drew)); exact HO_15.out⟩, ⟨by repeat (first | (with_reducible first | exact HB.out | apply below_alloc | apply pw_below_drewN | apply below_drew1) | exact HB.out)⟩⟩
                · rw [if_neg c38] at H
                  have c38b0 : (t111.toList == ([48, 51, 48, 48, 49, 50, 51] : List UInt8)) = false := beq_eq_false_iff_ne.mpr c38
                  have c38b1 : (t111.toList != ([48, 51, 48, 48, 49, 50, 51] : List UInt8)) = true := bne_iff_ne.mpr c38
                  have H' := Aside0.mk H
                  clear H
                  go_wp2
                  go_meet
                  case rel => exact ⟨_, (false), (by first | rfl | (simp; done) | (simp [*]; done)), H', ⟨by have := HJ9.out; first | omega | exact Nat.le_refl _⟩, ⟨by (with_reducible repeat (first | apply Kd.R_alloc | apply Kd.R_drewN | apply Kd.R_drew)); exact HO_13.out⟩, ⟨by (with_reducible repeat (first | apply Kd.R_alloc | apply Kd.R_drewN | apply Kd.R_drew)); exact HO_15.out⟩, ⟨by repeat (first | (with_reducible first | exact HB.out | apply below_alloc | apply pw_below_drewN | apply below_drew1) | exact HB.out)⟩⟩
              · rw [if_neg c37] at H
                have c37b0 : (t109.toList == ([49, 50, 51, 52] : List UInt8)) = false := beq_eq_false_iff_ne.mpr c37
                have c37b1 : (t109.toList != ([49, 50, 51, 52] : List UInt8)) = true := bne_iff_ne.mpr c37
                have H' := Aside0.mk H
                clear H
                go_wp2
                go_meet
                case rel => exact ⟨_, (false), (by first | rfl | (simp; done) | (simp [*]; done)), H', ⟨by have := HJ9.out; first | omega | exact Nat.le_refl _⟩, ⟨by (with_reducible repeat (first | apply Kd.R_alloc | apply Kd.R_drewN | apply Kd.R_drew)); exact HO_13.out⟩, ⟨by (with_reducible repeat (first | apply Kd.R_alloc | apply Kd.R_drewN | apply Kd.R_drew)); exact HO_15.out⟩, ⟨by repeat (first | (with_reducible first | exact HB.out | apply below_alloc | apply pw_below_drewN | apply below_drew1) | exact HB.out)⟩⟩
            · rw [if_neg c36] at H
              have c36b0 : (t107.toList == ([51, 51, 49] : List UInt8)) = false := beq_eq_false_iff_ne.mpr c36
              have c36b1 : (t107.toList != ([51, 51, 49] : List UInt8)) = true := bne_iff_ne.mpr c36
              have H' := Aside0.mk H
              clear H
              go_wp2
              go_meet
              case rel => exact ⟨_, (false), (by first | rfl | (simp; done) | (simp [*]; done)), H', ⟨by have := HJ9.out; first | omega | exact Nat.le_refl _⟩, ⟨by (with_reducible repeat (first | apply Kd.R_alloc | apply Kd.R_drewN | apply Kd.R_drew)); exact HO_13.out⟩, ⟨by (with_reducible repeat (first | apply Kd.R_alloc | apply Kd.R_drewN | apply Kd.R_drew)); exact HO_15.out⟩, ⟨by repeat (first | (with_reducible first | exact HB.out | apply below_alloc | apply pw_below_drewN | apply below_drew1) | exact HB.out)⟩⟩
          · rw [if_neg c35] at H
            have c35b0 : (t105.toList == ([52, 57, 56, 57, 49, 50, 51, 52] : List UInt8)) = false := beq_eq_false_iff_ne.mpr c35
            have c35b1 : (t105.toList != ([52, 57, 56, 57, 49, 50, 51, 52] : List UInt8)) = true := bne_iff_ne.mpr c35
            have H' := Aside0.mk H
            clear H
            go_wp2
            go_meet
            case rel => exact ⟨_, (false), (by first | rfl | (simp; done) | (simp [*]; done)), H', ⟨by have := HJ9.out; first | omega | exact Nat.le_refl _⟩, ⟨by (with_reducible repeat (first | apply Kd.R_alloc | apply Kd.R_drewN | apply Kd.R_drew)); exact HO_13.out⟩, ⟨by (with_reducible repeat (first | apply Kd.R_alloc | apply Kd.R_drewN | apply Kd.R_drew)); exact HO_15.out⟩, ⟨by repeat (first | (with_reducible first | exact HB.out | apply below_alloc | apply pw_below_drewN | apply below_drew1) | exact HB.out)⟩⟩
        · rw [if_neg c34] at H
          have c34b0 : (t103.toList == ([52, 57, 51, 48, 49, 50, 51, 52] : List UInt8)) = false := beq_eq_false_iff_ne.mpr c34
          have c34b1 : (t103.toList != ([52, 57, 51, 48, 49, 50, 51, 52] : List UInt8)) = true := bne_iff_ne.mpr c34
          (first | rw [c34b0] | (simp only [i64_w, i32_w]; rw [c34b0]) | skip)
          have H' := Aside0.mk H
          clear H
          go_wp2
          go_meet
          case rel => exact ⟨_, (false), (by first | rfl | (simp; done) | (simp [*]; done)), H', ⟨by have := HJ9.out; first | omega | exact Nat.le_refl _⟩, ⟨by (with_reducible repeat (first | apply Kd.R_alloc | apply Kd.R_drewN | apply Kd.R_drew)); exact HO_13.out⟩, ⟨by (with_reducible repeat (first | apply Kd.R_alloc | apply Kd.R_drewN | apply Kd.R_drew)); exact HO_15.out⟩, ⟨by repeat (first | (with_reducible first | exact HB.out | apply below_alloc | apply pw_below_drewN | apply below_drew1) | exact HB.out)⟩⟩
      case rest =>
        clear HC33
        try clear c1
        try clear c2
        try clear p2
        try clear c3
        try clear c12
        try clear c14
        try clear c16
        try clear c21
        try clear c26
        try clear c26b0
        try clear c26b1
        try clear c27
        try clear c27b0
        try clear c27b1
        try clear c28
        try clear c28b0
        try clear c28b1
        try clear c29
        try clear c29b0
        try clear c29b1
        try clear c30
        try clear c30b0
        try clear c30b1
        try clear c31
        try clear c31b0
        try clear c31b1
        try clear c32
        try clear c32b0
        try clear c32b1
        try clear c34
        try clear c34b0
        try clear c34b1
        try clear c35
        try clear c35b0
        try clear c35b1
        try clear c36
        try clear c36b0
        try clear c36b1
        try clear c37
        try clear c37b0
        try clear c37b1
        try clear c38
        try clear c38b0
        try clear c38b1
        try clear p2
        obtain ⟨kq, x20_32, rfl, HA, HJ32, HO_13, HO_15, HB⟩ := hcut
        cases kq with
        | zero => exact absurd HA.out (by simp [crossbarlaw06_sane.j1])
        | succ kj32 =>
          have H := HA.out
          clear HA
          simp only [crossbarlaw06_sane.j1] at H
          have HC39 := Aside0.mk H
          clear H
          go_upto_region 12 with (fail)
          go_cut [21] (fun v21 wc => ∃ (kq : Nat) (x21_38 : Bool), v21 = .bool x21_38 ∧ Aside0 (crossbarlaw06_sane.j2 kq t130 x19_9 x20_32 x21_38 = some r) ∧ Aside0 (kq ≤ kj32) ∧ Aside0 (Below w.heap.size w wc))
          case first =>
            have H := HC39.out
            clear HC39
            obtain ⟨y131, hy131⟩ : ∃ y_ : List ByteArray, y_ = (([(⟨#[49]⟩ : ByteArray)] : List ByteArray)) := ⟨_, rfl⟩
            replace H : ((crossbarref06_Strings.f kj32 t118 y131).bind fun t134 => (if t134 = true then ((crossbarref06_Strings.f kj32 t125 (([(⟨#[53]⟩ : ByteArray), (⟨#[55]⟩ : ByteArray)] : List ByteArray))).bind fun t138 => (crossbarlaw06_sane.j2 kj32 t130 x19_9 x20_32 t138)) else (crossbarlaw06_sane.j2 kj32 t130 x19_9 x20_32 false))) = some r := by first | (rw [hy131]; with_reducible exact H) | (have H2_ := (Option.bind_some _ _).symm.trans H; rw [hy131]; with_reducible exact H2_) | (have H2_ := (Option.bind_some _ _).symm.trans H; with_reducible exact H2_) | with_reducible exact H | (rw [hy131]; exact H) | exact H
            have Ny131 := Aside0.mk hy131
            clear hy131
            replace H := Option.bind_eq_some_iff.mp H
            obtain ⟨t134, A400, H⟩ := H
            replace H : (if t134 = true then ((crossbarref06_Strings.f kj32 t125 (([(⟨#[53]⟩ : ByteArray), (⟨#[55]⟩ : ByteArray)] : List ByteArray))).bind fun t138 => (crossbarlaw06_sane.j2 kj32 t130 x19_9 x20_32 t138)) else (crossbarlaw06_sane.j2 kj32 t130 x19_9 x20_32 false)) = some r := H
            have A40 := Aside0.mk A400
            clear A400
            by_cases c41 : t134 = true
            · subst c41
              have H1 : ((crossbarref06_Strings.f kj32 t125 (([(⟨#[53]⟩ : ByteArray), (⟨#[55]⟩ : ByteArray)] : List ByteArray))).bind fun t138 => (crossbarlaw06_sane.j2 kj32 t130 x19_9 x20_32 t138)) = some r := by rw [if_pos rfl] at H; exact H
              clear H
              have H := H1
              clear H1
              obtain ⟨y135, hy135⟩ : ∃ y_ : List ByteArray, y_ = (([(⟨#[53]⟩ : ByteArray), (⟨#[55]⟩ : ByteArray)] : List ByteArray)) := ⟨_, rfl⟩
              replace H : ((crossbarref06_Strings.f kj32 t125 y135).bind fun t138 => (crossbarlaw06_sane.j2 kj32 t130 x19_9 x20_32 t138)) = some r := by first | (rw [hy135]; with_reducible exact H) | (have H2_ := (Option.bind_some _ _).symm.trans H; rw [hy135]; with_reducible exact H2_) | (have H2_ := (Option.bind_some _ _).symm.trans H; with_reducible exact H2_) | with_reducible exact H | (rw [hy135]; exact H) | exact H
              have Ny135 := Aside0.mk hy135
              clear hy135
              replace H := Option.bind_eq_some_iff.mp H
              obtain ⟨t138, A420, H⟩ := H
              replace H : (crossbarlaw06_sane.j2 kj32 t130 x19_9 x20_32 t138) = some r := H
              have A42 := Aside0.mk A420
              clear A420
              have H' := Aside0.mk H
              clear H
              go_wp2_with (first | ((with_reducible refine gate_dst (N := 113) rfl ?_); (try (refine gate_guard (by rfl) ?_; dsimp only)); refine Kd.R_lit Kd.string _ 9 ?hg (N := 113) ?hd (xs := ([(⟨#[49]⟩ : ByteArray)] : List ByteArray)) (inner := [.string (⟨#[49]⟩ : ByteArray)]) (ok := fun _ => True) (okp := fun _ => True) ?hr ?hp (fun _ hk => hk) trivial (Below.refl _ _) (Nat.le_refl _) (by simp) ?_; (case hd => rfl); (case hg => rfl); (case hr => first | (go_simp; done) | (go_simp; rfl)); (case hp => exact (Reps.one (show Kd.M Kd.string _ _ _ (⟨#[49]⟩ : ByteArray) [.string (⟨#[49]⟩ : ByteArray)] from rfl) (Reps.none _ _))); intro v132 w43 ho44 hb hg_ hnew_; clear hg_ hnew_; (first | rw [← Ny131.out] at ho44 | (simp only [Int.reduceToNat] at ho44; rw [← Ny131.out] at ho44)); have n0_ := Aside0.mk (Kd.R_elder' (by (with_reducible repeat (first | apply Kd.R_alloc | apply Kd.R_drewN | apply Kd.R_drew)); exact HO_13.out) (Kd.R_base ho44) hb); have n1_ := Aside0.mk (Kd.R_elder' (by (with_reducible repeat (first | apply Kd.R_alloc | apply Kd.R_drewN | apply Kd.R_drew)); exact HO_15.out) (Kd.R_base ho44) hb); have n2_ := Aside0.mk (Kd.R_lower (Kd.R_new' (Kd.R_new' ho44 (Kd.R_lt (by (with_reducible repeat (first | apply Kd.R_alloc | apply Kd.R_drewN | apply Kd.R_drew)); exact HO_13.out))) (Kd.R_lt (by (with_reducible repeat (first | apply Kd.R_alloc | apply Kd.R_drewN | apply Kd.R_drew)); exact HO_15.out))) (below_size (by repeat (first | (with_reducible first | exact HB.out | apply below_alloc | apply pw_below_drewN | apply below_drew1) | exact HB.out)))); have n3_ := Aside0.mk (below_step (by repeat (first | (with_reducible first | exact HB.out | apply below_alloc | apply pw_below_drewN | apply below_drew1) | exact HB.out)) hb); clear HO_13; clear HO_15; clear HB; have HO_13 := n0_; have HO_15 := n1_; have HO133 := n2_; have HB := n3_; clear n0_ n1_ n2_ n3_; clear hb ho44; obtain ⟨Ao45, co45, eo45⟩ := Kd.R_slice HO_13.out; subst eo45; obtain ⟨Ao46, co46, eo46⟩ := Kd.R_slice HO133.out; subst eo46) | ((with_reducible refine gate_callee (f := 23) rfl ?_); refine goesL_ (some 114) rfl rfl Try.func23 (by kernel_rfl) rfl #[.slice Ao45 t118.length co45, .slice Ao46 y131.length co46] rfl (by (try simp only [List.map_toArray, List.map_cons, List.map_nil]); first | done | rfl | (simp only [List.length_drop, List.length_take]; rfl)) ?_; (with_reducible refine (crossbarref06_Strings.calls kj32 _ _ t118 _ _ y131 true _ ?side1 ?side2 ?side3 ?side4 A40.out).mono ?_); (case side1 => repeat (first | exact (Kd.R_reads' HO_13.out).2.2 | (with_reducible refine Kd.C_alloc ?_ _) | (with_reducible refine Kd.C_drewN ?_ _) | (with_reducible refine Kd.C_drew ?_))); (case side2 => exact (Kd.R_reads' HO_13.out).2.1); (case side3 => repeat (first | exact (Kd.R_reads' HO133.out).2.2 | (with_reducible refine Kd.C_alloc ?_ _) | (with_reducible refine Kd.C_drewN ?_ _) | (with_reducible refine Kd.C_drew ?_))); (case side4 => exact (Kd.R_reads' HO133.out).2.1); rintro e w' ⟨rfl, ⟨nd, rfl⟩⟩; refine ⟨_, rfl, ?_⟩) | ((with_reducible refine gate_dst (N := 117) rfl ?_); (try (refine gate_guard (by rfl) ?_; dsimp only)); refine Kd.R_lit Kd.string _ 9 ?hg (N := 117) ?hd (xs := ([(⟨#[53]⟩ : ByteArray), (⟨#[55]⟩ : ByteArray)] : List ByteArray)) (inner := [.string (⟨#[53]⟩ : ByteArray), .string (⟨#[55]⟩ : ByteArray)]) (ok := fun _ => True) (okp := fun _ => True) ?hr ?hp (fun _ hk => hk) trivial (Below.refl _ _) (Nat.le_refl _) (by simp) ?_; (case hd => rfl); (case hg => rfl); (case hr => first | (go_simp; done) | (go_simp; rfl)); (case hp => exact (Reps.one (show Kd.M Kd.string _ _ _ (⟨#[53]⟩ : ByteArray) [.string (⟨#[53]⟩ : ByteArray)] from rfl) (Reps.one (show Kd.M Kd.string _ _ _ (⟨#[55]⟩ : ByteArray) [.string (⟨#[55]⟩ : ByteArray)] from rfl) (Reps.none _ _)))); intro v136 w47 ho48 hb hg_ hnew_; clear hg_ hnew_; (first | rw [← Ny135.out] at ho48 | (simp only [Int.reduceToNat] at ho48; rw [← Ny135.out] at ho48)); have n0_ := Aside0.mk (Kd.R_elder' (by (with_reducible repeat (first | apply Kd.R_alloc | apply Kd.R_drewN | apply Kd.R_drew)); exact HO_13.out) (Kd.R_base ho48) hb); have n1_ := Aside0.mk (Kd.R_elder' (by (with_reducible repeat (first | apply Kd.R_alloc | apply Kd.R_drewN | apply Kd.R_drew)); exact HO_15.out) (Kd.R_base ho48) hb); have n2_ := Aside0.mk (Kd.R_elder' (by (with_reducible repeat (first | apply Kd.R_alloc | apply Kd.R_drewN | apply Kd.R_drew)); exact HO133.out) (Kd.R_base ho48) hb); have n3_ := Aside0.mk (Kd.R_lower (Kd.R_new' (Kd.R_new' (Kd.R_new' ho48 (Kd.R_lt (by (with_reducible repeat (first | apply Kd.R_alloc | apply Kd.R_drewN | apply Kd.R_drew)); exact HO_13.out))) (Kd.R_lt (by (with_reducible repeat (first | apply Kd.R_alloc | apply Kd.R_drewN | apply Kd.R_drew)); exact HO_15.out))) (Kd.R_lt (by (with_reducible repeat (first | apply Kd.R_alloc | apply Kd.R_drewN | apply Kd.R_drew)); exact HO133.out))) (below_size (by repeat (first | (with_reducible first | exact HB.out | apply below_alloc | apply pw_below_drewN | apply below_drew1) | exact HB.out)))); have n4_ := Aside0.mk (below_step (by repeat (first | (with_reducible first | exact HB.out | apply below_alloc | apply pw_below_drewN | apply below_drew1) | exact HB.out)) hb); clear HO_13; clear HO_15; clear HO133; clear HB; have HO_13 := n0_; have HO_15 := n1_; have HO133 := n2_; have HO137 := n3_; have HB := n4_; clear n0_ n1_ n2_ n3_ n4_; clear hb ho48; obtain ⟨Ao49, co49, eo49⟩ := Kd.R_slice HO_15.out; subst eo49; obtain ⟨Ao50, co50, eo50⟩ := Kd.R_slice HO137.out; subst eo50) | (go_at_call 23; (with_reducible refine (crossbarref06_Strings.calls kj32 _ _ t125 _ _ y135 t138 _ ?side1 ?side2 ?side3 ?side4 A42.out).mono ?_); (case side1 => repeat (first | exact (Kd.R_reads' HO_15.out).2.2 | (with_reducible refine Kd.C_alloc ?_ _) | (with_reducible refine Kd.C_drewN ?_ _) | (with_reducible refine Kd.C_drew ?_))); (case side2 => exact (Kd.R_reads' HO_15.out).2.1); (case side3 => repeat (first | exact (Kd.R_reads' HO137.out).2.2 | (with_reducible refine Kd.C_alloc ?_ _) | (with_reducible refine Kd.C_drewN ?_ _) | (with_reducible refine Kd.C_drew ?_))); (case side4 => exact (Kd.R_reads' HO137.out).2.1); rintro e w' ⟨rfl, ⟨nd, rfl⟩⟩))
              go_meet
              case rel => exact ⟨_, (t138), (by first | rfl | (simp; done) | (simp [*]; done)), H', ⟨by have := HJ9.out; have := HJ32.out; first | omega | exact Nat.le_refl _⟩, ⟨by repeat (first | (with_reducible first | exact HB.out | apply below_alloc | apply pw_below_drewN | apply below_drew1) | exact HB.out)⟩⟩
            · replace c41 := Bool.eq_false_iff.mpr c41
              subst c41
              have H1 : (crossbarlaw06_sane.j2 kj32 t130 x19_9 x20_32 false) = some r := by rw [if_neg (show ¬ (false = true) by decide)] at H; exact H
              clear H
              have H := H1
              clear H1
              have H' := Aside0.mk H
              clear H
              go_wp2_with (first | ((with_reducible refine gate_dst (N := 113) rfl ?_); (try (refine gate_guard (by rfl) ?_; dsimp only)); refine Kd.R_lit Kd.string _ 9 ?hg (N := 113) ?hd (xs := ([(⟨#[49]⟩ : ByteArray)] : List ByteArray)) (inner := [.string (⟨#[49]⟩ : ByteArray)]) (ok := fun _ => True) (okp := fun _ => True) ?hr ?hp (fun _ hk => hk) trivial (Below.refl _ _) (Nat.le_refl _) (by simp) ?_; (case hd => rfl); (case hg => rfl); (case hr => first | (go_simp; done) | (go_simp; rfl)); (case hp => exact (Reps.one (show Kd.M Kd.string _ _ _ (⟨#[49]⟩ : ByteArray) [.string (⟨#[49]⟩ : ByteArray)] from rfl) (Reps.none _ _))); intro v132 w51 ho52 hb hg_ hnew_; clear hg_ hnew_; (first | rw [← Ny131.out] at ho52 | (simp only [Int.reduceToNat] at ho52; rw [← Ny131.out] at ho52)); have n0_ := Aside0.mk (Kd.R_elder' (by (with_reducible repeat (first | apply Kd.R_alloc | apply Kd.R_drewN | apply Kd.R_drew)); exact HO_13.out) (Kd.R_base ho52) hb); have n1_ := Aside0.mk (Kd.R_elder' (by (with_reducible repeat (first | apply Kd.R_alloc | apply Kd.R_drewN | apply Kd.R_drew)); exact HO_15.out) (Kd.R_base ho52) hb); have n2_ := Aside0.mk (Kd.R_lower (Kd.R_new' (Kd.R_new' ho52 (Kd.R_lt (by (with_reducible repeat (first | apply Kd.R_alloc | apply Kd.R_drewN | apply Kd.R_drew)); exact HO_13.out))) (Kd.R_lt (by (with_reducible repeat (first | apply Kd.R_alloc | apply Kd.R_drewN | apply Kd.R_drew)); exact HO_15.out))) (below_size (by repeat (first | (with_reducible first | exact HB.out | apply below_alloc | apply pw_below_drewN | apply below_drew1) | exact HB.out)))); have n3_ := Aside0.mk (below_step (by repeat (first | (with_reducible first | exact HB.out | apply below_alloc | apply pw_below_drewN | apply below_drew1) | exact HB.out)) hb); clear HO_13; clear HO_15; clear HB; have HO_13 := n0_; have HO_15 := n1_; have HO133 := n2_; have HB := n3_; clear n0_ n1_ n2_ n3_; clear hb ho52; obtain ⟨Ao53, co53, eo53⟩ := Kd.R_slice HO_13.out; subst eo53; obtain ⟨Ao54, co54, eo54⟩ := Kd.R_slice HO133.out; subst eo54) | ((with_reducible refine gate_callee (f := 23) rfl ?_); refine goesL_ (some 114) rfl rfl Try.func23 (by kernel_rfl) rfl #[.slice Ao53 t118.length co53, .slice Ao54 y131.length co54] rfl (by (try simp only [List.map_toArray, List.map_cons, List.map_nil]); first | done | rfl | (simp only [List.length_drop, List.length_take]; rfl)) ?_; (with_reducible refine (crossbarref06_Strings.calls kj32 _ _ t118 _ _ y131 false _ ?side1 ?side2 ?side3 ?side4 A40.out).mono ?_); (case side1 => repeat (first | exact (Kd.R_reads' HO_13.out).2.2 | (with_reducible refine Kd.C_alloc ?_ _) | (with_reducible refine Kd.C_drewN ?_ _) | (with_reducible refine Kd.C_drew ?_))); (case side2 => exact (Kd.R_reads' HO_13.out).2.1); (case side3 => repeat (first | exact (Kd.R_reads' HO133.out).2.2 | (with_reducible refine Kd.C_alloc ?_ _) | (with_reducible refine Kd.C_drewN ?_ _) | (with_reducible refine Kd.C_drew ?_))); (case side4 => exact (Kd.R_reads' HO133.out).2.1); rintro e w' ⟨rfl, ⟨nd, rfl⟩⟩; refine ⟨_, rfl, ?_⟩))
              go_meet
              case rel => exact ⟨_, (false), (by first | rfl | (simp; done) | (simp [*]; done)), H', ⟨by have := HJ9.out; have := HJ32.out; first | omega | exact Nat.le_refl _⟩, ⟨by repeat (first | (with_reducible first | exact HB.out | apply below_alloc | apply pw_below_drewN | apply below_drew1) | exact HB.out)⟩⟩
          case rest =>
            clear HC39
            try clear c1
            try clear c2
            try clear p2
            try clear c3
            try clear c4
            try clear c12
            try clear c14
            try clear c16
            try clear c21
            try clear c23
            try clear c26
            try clear c26b0
            try clear c26b1
            try clear c27
            try clear c27b0
            try clear c27b1
            try clear c28
            try clear c28b0
            try clear c28b1
            try clear c29
            try clear c29b0
            try clear c29b1
            try clear c30
            try clear c30b0
            try clear c30b1
            try clear c31
            try clear c31b0
            try clear c31b1
            try clear c32
            try clear c32b0
            try clear c32b1
            try clear c34
            try clear c34b0
            try clear c34b1
            try clear c35
            try clear c35b0
            try clear c35b1
            try clear c36
            try clear c36b0
            try clear c36b1
            try clear c37
            try clear c37b0
            try clear c37b1
            try clear c38
            try clear c38b0
            try clear c38b1
            try clear c41
            try clear p2
            obtain ⟨kq, x21_38, rfl, HA, HJ38, HB⟩ := hcut
            cases kq with
            | zero => exact absurd HA.out (by simp [crossbarlaw06_sane.j2])
            | succ kj38 =>
              have H := HA.out
              clear HA
              simp only [crossbarlaw06_sane.j2] at H
              by_cases c55 : x19_9 = true
              · subst c55
                have H1 : (if x20_32 = true then (if x21_38 = true then (if t130 = 60 then ((digits_Valid.f (⟨#[55]⟩ : ByteArray)).bind fun t139 => (if t139 = true then ((digits_Valid.f (⟨#[]⟩ : ByteArray)).bind fun t140 => (if t140 = true then (some false) else ((digits_Valid.f (⟨#[55, 120]⟩ : ByteArray)).bind fun t141 => (if t141 = true then (some false) else ((digits_Common.f (⟨#[49, 50, 51, 52]⟩ : ByteArray) (⟨#[49, 50, 56, 57]⟩ : ByteArray)).bind fun t142 => (if t142 = 2 then ((digits_Matches.f (([(⟨#[49, 50]⟩ : ByteArray)] : List ByteArray)) (⟨#[49, 50, 51]⟩ : ByteArray)).bind fun t146 => (if t146 = true then ((digits_Matches.f (([(⟨#[49, 50]⟩ : ByteArray)] : List ByteArray)) (⟨#[49]⟩ : ByteArray)).bind fun t150 => (some (!t150))) else (some false))) else (some false))))))) else (some false))) else (some false)) else (some false)) else (some false)) = some r := by rw [if_pos rfl] at H; exact H
                clear H
                have H := H1
                clear H1
                by_cases c56 : x20_32 = true
                · subst c56
                  have H1 : (if x21_38 = true then (if t130 = 60 then ((digits_Valid.f (⟨#[55]⟩ : ByteArray)).bind fun t139 => (if t139 = true then ((digits_Valid.f (⟨#[]⟩ : ByteArray)).bind fun t140 => (if t140 = true then (some false) else ((digits_Valid.f (⟨#[55, 120]⟩ : ByteArray)).bind fun t141 => (if t141 = true then (some false) else ((digits_Common.f (⟨#[49, 50, 51, 52]⟩ : ByteArray) (⟨#[49, 50, 56, 57]⟩ : ByteArray)).bind fun t142 => (if t142 = 2 then ((digits_Matches.f (([(⟨#[49, 50]⟩ : ByteArray)] : List ByteArray)) (⟨#[49, 50, 51]⟩ : ByteArray)).bind fun t146 => (if t146 = true then ((digits_Matches.f (([(⟨#[49, 50]⟩ : ByteArray)] : List ByteArray)) (⟨#[49]⟩ : ByteArray)).bind fun t150 => (some (!t150))) else (some false))) else (some false))))))) else (some false))) else (some false)) else (some false)) = some r := by rw [if_pos rfl] at H; exact H
                  clear H
                  have H := H1
                  clear H1
                  by_cases c57 : x21_38 = true
                  · subst c57
                    have H1 : (if t130 = 60 then ((digits_Valid.f (⟨#[55]⟩ : ByteArray)).bind fun t139 => (if t139 = true then ((digits_Valid.f (⟨#[]⟩ : ByteArray)).bind fun t140 => (if t140 = true then (some false) else ((digits_Valid.f (⟨#[55, 120]⟩ : ByteArray)).bind fun t141 => (if t141 = true then (some false) else ((digits_Common.f (⟨#[49, 50, 51, 52]⟩ : ByteArray) (⟨#[49, 50, 56, 57]⟩ : ByteArray)).bind fun t142 => (if t142 = 2 then ((digits_Matches.f (([(⟨#[49, 50]⟩ : ByteArray)] : List ByteArray)) (⟨#[49, 50, 51]⟩ : ByteArray)).bind fun t146 => (if t146 = true then ((digits_Matches.f (([(⟨#[49, 50]⟩ : ByteArray)] : List ByteArray)) (⟨#[49]⟩ : ByteArray)).bind fun t150 => (some (!t150))) else (some false))) else (some false))))))) else (some false))) else (some false)) = some r := by rw [if_pos rfl] at H; exact H
                    clear H
                    have H := H1
                    clear H1
                    by_cases c58 : t130 = 60
                    · rw [if_pos c58] at H
                      have c58b0 : (t130 == 60) = true := beq_iff_eq.mpr c58
                      have c58b1 : (t130 != 60) = false := bne_eq_false_iff_eq.mpr c58
                      clear c58
                      replace H := Option.bind_eq_some_iff.mp H
                      obtain ⟨t139, A590, H⟩ := H
                      replace H : (if t139 = true then ((digits_Valid.f (⟨#[]⟩ : ByteArray)).bind fun t140 => (if t140 = true then (some false) else ((digits_Valid.f (⟨#[55, 120]⟩ : ByteArray)).bind fun t141 => (if t141 = true then (some false) else ((digits_Common.f (⟨#[49, 50, 51, 52]⟩ : ByteArray) (⟨#[49, 50, 56, 57]⟩ : ByteArray)).bind fun t142 => (if t142 = 2 then ((digits_Matches.f (([(⟨#[49, 50]⟩ : ByteArray)] : List ByteArray)) (⟨#[49, 50, 51]⟩ : ByteArray)).bind fun t146 => (if t146 = true then ((digits_Matches.f (([(⟨#[49, 50]⟩ : ByteArray)] : List ByteArray)) (⟨#[49]⟩ : ByteArray)).bind fun t150 => (some (!t150))) else (some false))) else (some false))))))) else (some false)) = some r := H
                      have A59 := Aside0.mk A590
                      clear A590
                      by_cases c60 : t139 = true
                      · subst c60
                        have H1 : ((digits_Valid.f (⟨#[]⟩ : ByteArray)).bind fun t140 => (if t140 = true then (some false) else ((digits_Valid.f (⟨#[55, 120]⟩ : ByteArray)).bind fun t141 => (if t141 = true then (some false) else ((digits_Common.f (⟨#[49, 50, 51, 52]⟩ : ByteArray) (⟨#[49, 50, 56, 57]⟩ : ByteArray)).bind fun t142 => (if t142 = 2 then ((digits_Matches.f (([(⟨#[49, 50]⟩ : ByteArray)] : List ByteArray)) (⟨#[49, 50, 51]⟩ : ByteArray)).bind fun t146 => (if t146 = true then ((digits_Matches.f (([(⟨#[49, 50]⟩ : ByteArray)] : List ByteArray)) (⟨#[49]⟩ : ByteArray)).bind fun t150 => (some (!t150))) else (some false))) else (some false))))))) = some r := by rw [if_pos rfl] at H; exact H
                        clear H
                        have H := H1
                        clear H1
                        replace H := Option.bind_eq_some_iff.mp H
                        obtain ⟨t140, A610, H⟩ := H
                        replace H : (if t140 = true then (some false) else ((digits_Valid.f (⟨#[55, 120]⟩ : ByteArray)).bind fun t141 => (if t141 = true then (some false) else ((digits_Common.f (⟨#[49, 50, 51, 52]⟩ : ByteArray) (⟨#[49, 50, 56, 57]⟩ : ByteArray)).bind fun t142 => (if t142 = 2 then ((digits_Matches.f (([(⟨#[49, 50]⟩ : ByteArray)] : List ByteArray)) (⟨#[49, 50, 51]⟩ : ByteArray)).bind fun t146 => (if t146 = true then ((digits_Matches.f (([(⟨#[49, 50]⟩ : ByteArray)] : List ByteArray)) (⟨#[49]⟩ : ByteArray)).bind fun t150 => (some (!t150))) else (some false))) else (some false)))))) = some r := H
                        have A61 := Aside0.mk A610
                        clear A610
                        by_cases c62 : t140 = true
                        · subst c62
                          have H1 : (some false) = some r := by rw [if_pos rfl] at H; exact H
                          clear H
                          have H := H1
                          clear H1
                          obtain rfl := Option.some.inj H
                          go_wp2_with (first | (go_at_call 18; (with_reducible refine (digits_Valid.calls (⟨#[55]⟩ : ByteArray) true _ A59.out).mono ?_); rintro e w63 ⟨rfl, hb⟩; have n0_ := Aside0.mk (below_step (by repeat (first | (with_reducible first | exact HB.out | apply below_alloc | apply pw_below_drewN | apply below_drew1) | exact HB.out)) hb); clear HB; have HB := n0_; clear n0_; (try clear hb); (try clear hb2); (try clear hk); (try clear hi)) | (go_at_call 18; (with_reducible refine (digits_Valid.calls (⟨#[]⟩ : ByteArray) true _ A61.out).mono ?_); rintro e w64 ⟨rfl, hb⟩; have n0_ := Aside0.mk (below_step (by repeat (first | (with_reducible first | exact HB.out | apply below_alloc | apply pw_below_drewN | apply below_drew1) | exact HB.out)) hb); clear HB; have HB := n0_; clear n0_; (try clear hb); (try clear hb2); (try clear hk); (try clear hi)))
                          go_ret
                          exact ⟨by first | rfl | (simp [errW_none, errW_some] <;> rfl) | (simp [*, errW_none, errW_some] <;> rfl), by repeat (first | (with_reducible first | exact HB.out | apply below_alloc | apply pw_below_drewN | apply below_drew1) | exact HB.out)⟩
                        · replace c62 := Bool.eq_false_iff.mpr c62
                          subst c62
                          have H1 : ((digits_Valid.f (⟨#[55, 120]⟩ : ByteArray)).bind fun t141 => (if t141 = true then (some false) else ((digits_Common.f (⟨#[49, 50, 51, 52]⟩ : ByteArray) (⟨#[49, 50, 56, 57]⟩ : ByteArray)).bind fun t142 => (if t142 = 2 then ((digits_Matches.f (([(⟨#[49, 50]⟩ : ByteArray)] : List ByteArray)) (⟨#[49, 50, 51]⟩ : ByteArray)).bind fun t146 => (if t146 = true then ((digits_Matches.f (([(⟨#[49, 50]⟩ : ByteArray)] : List ByteArray)) (⟨#[49]⟩ : ByteArray)).bind fun t150 => (some (!t150))) else (some false))) else (some false))))) = some r := by rw [if_neg (show ¬ (false = true) by decide)] at H; exact H
                          clear H
                          have H := H1
                          clear H1
                          replace H := Option.bind_eq_some_iff.mp H
                          obtain ⟨t141, A650, H⟩ := H
                          replace H : (if t141 = true then (some false) else ((digits_Common.f (⟨#[49, 50, 51, 52]⟩ : ByteArray) (⟨#[49, 50, 56, 57]⟩ : ByteArray)).bind fun t142 => (if t142 = 2 then ((digits_Matches.f (([(⟨#[49, 50]⟩ : ByteArray)] : List ByteArray)) (⟨#[49, 50, 51]⟩ : ByteArray)).bind fun t146 => (if t146 = true then ((digits_Matches.f (([(⟨#[49, 50]⟩ : ByteArray)] : List ByteArray)) (⟨#[49]⟩ : ByteArray)).bind fun t150 => (some (!t150))) else (some false))) else (some false)))) = some r := H
                          have A65 := Aside0.mk A650
                          clear A650
                          by_cases c66 : t141 = true
                          · subst c66
                            have H1 : (some false) = some r := by rw [if_pos rfl] at H; exact H
                            clear H
                            have H := H1
                            clear H1
                            obtain rfl := Option.some.inj H
                            go_wp2_with (first | (go_at_call 18; (with_reducible refine (digits_Valid.calls (⟨#[55]⟩ : ByteArray) true _ A59.out).mono ?_); rintro e w67 ⟨rfl, hb⟩; have n0_ := Aside0.mk (below_step (by repeat (first | (with_reducible first | exact HB.out | apply below_alloc | apply pw_below_drewN | apply below_drew1) | exact HB.out)) hb); clear HB; have HB := n0_; clear n0_; (try clear hb); (try clear hb2); (try clear hk); (try clear hi)) | (go_at_call 18; (with_reducible refine (digits_Valid.calls (⟨#[]⟩ : ByteArray) false _ A61.out).mono ?_); rintro e w68 ⟨rfl, hb⟩; have n0_ := Aside0.mk (below_step (by repeat (first | (with_reducible first | exact HB.out | apply below_alloc | apply pw_below_drewN | apply below_drew1) | exact HB.out)) hb); clear HB; have HB := n0_; clear n0_; (try clear hb); (try clear hb2); (try clear hk); (try clear hi)) | (go_at_call 18; (with_reducible refine (digits_Valid.calls (⟨#[55, 120]⟩ : ByteArray) true _ A65.out).mono ?_); rintro e w69 ⟨rfl, hb⟩; have n0_ := Aside0.mk (below_step (by repeat (first | (with_reducible first | exact HB.out | apply below_alloc | apply pw_below_drewN | apply below_drew1) | exact HB.out)) hb); clear HB; have HB := n0_; clear n0_; (try clear hb); (try clear hb2); (try clear hk); (try clear hi)))
                            go_ret
                            exact ⟨by first | rfl | (simp [errW_none, errW_some] <;> rfl) | (simp [*, errW_none, errW_some] <;> rfl), by repeat (first | (with_reducible first | exact HB.out | apply below_alloc | apply pw_below_drewN | apply below_drew1) | exact HB.out)⟩
                          · replace c66 := Bool.eq_false_iff.mpr c66
                            subst c66
                            have H1 : ((digits_Common.f (⟨#[49, 50, 51, 52]⟩ : ByteArray) (⟨#[49, 50, 56, 57]⟩ : ByteArray)).bind fun t142 => (if t142 = 2 then ((digits_Matches.f (([(⟨#[49, 50]⟩ : ByteArray)] : List ByteArray)) (⟨#[49, 50, 51]⟩ : ByteArray)).bind fun t146 => (if t146 = true then ((digits_Matches.f (([(⟨#[49, 50]⟩ : ByteArray)] : List ByteArray)) (⟨#[49]⟩ : ByteArray)).bind fun t150 => (some (!t150))) else (some false))) else (some false))) = some r := by rw [if_neg (show ¬ (false = true) by decide)] at H; exact H
                            clear H
                            have H := H1
                            clear H1
                            replace H := Option.bind_eq_some_iff.mp H
                            obtain ⟨t142, A700, H⟩ := H
                            replace H : (if t142 = 2 then ((digits_Matches.f (([(⟨#[49, 50]⟩ : ByteArray)] : List ByteArray)) (⟨#[49, 50, 51]⟩ : ByteArray)).bind fun t146 => (if t146 = true then ((digits_Matches.f (([(⟨#[49, 50]⟩ : ByteArray)] : List ByteArray)) (⟨#[49]⟩ : ByteArray)).bind fun t150 => (some (!t150))) else (some false))) else (some false)) = some r := H
                            have A70 := Aside0.mk A700
                            clear A700
                            by_cases c71 : t142 = 2
                            · rw [if_pos c71] at H
                              have c71b0 : (t142 == 2) = true := beq_iff_eq.mpr c71
                              have c71b1 : (t142 != 2) = false := bne_eq_false_iff_eq.mpr c71
                              clear c71
                              obtain ⟨y143, hy143⟩ : ∃ y_ : List ByteArray, y_ = (([(⟨#[49, 50]⟩ : ByteArray)] : List ByteArray)) := ⟨_, rfl⟩
                              replace H : ((digits_Matches.f y143 (⟨#[49, 50, 51]⟩ : ByteArray)).bind fun t146 => (if t146 = true then ((digits_Matches.f (([(⟨#[49, 50]⟩ : ByteArray)] : List ByteArray)) (⟨#[49]⟩ : ByteArray)).bind fun t150 => (some (!t150))) else (some false))) = some r := by first | (rw [hy143]; with_reducible exact H) | (have H2_ := (Option.bind_some _ _).symm.trans H; rw [hy143]; with_reducible exact H2_) | (have H2_ := (Option.bind_some _ _).symm.trans H; with_reducible exact H2_) | with_reducible exact H | (rw [hy143]; exact H) | exact H
                              have Ny143 := Aside0.mk hy143
                              clear hy143
                              replace H := Option.bind_eq_some_iff.mp H
                              obtain ⟨t146, A720, H⟩ := H
                              replace H : (if t146 = true then ((digits_Matches.f (([(⟨#[49, 50]⟩ : ByteArray)] : List ByteArray)) (⟨#[49]⟩ : ByteArray)).bind fun t150 => (some (!t150))) else (some false)) = some r := H
                              have A72 := Aside0.mk A720
                              clear A720
                              by_cases c73 : t146 = true
                              · subst c73
                                have H1 : ((digits_Matches.f (([(⟨#[49, 50]⟩ : ByteArray)] : List ByteArray)) (⟨#[49]⟩ : ByteArray)).bind fun t150 => (some (!t150))) = some r := by rw [if_pos rfl] at H; exact H
                                clear H
                                have H := H1
                                clear H1
                                obtain ⟨y147, hy147⟩ : ∃ y_ : List ByteArray, y_ = (([(⟨#[49, 50]⟩ : ByteArray)] : List ByteArray)) := ⟨_, rfl⟩
                                replace H : ((digits_Matches.f y147 (⟨#[49]⟩ : ByteArray)).bind fun t150 => (some (!t150))) = some r := by first | (rw [hy147]; with_reducible exact H) | (have H2_ := (Option.bind_some _ _).symm.trans H; rw [hy147]; with_reducible exact H2_) | (have H2_ := (Option.bind_some _ _).symm.trans H; with_reducible exact H2_) | with_reducible exact H | (rw [hy147]; exact H) | exact H
                                have Ny147 := Aside0.mk hy147
                                clear hy147
                                replace H := Option.bind_eq_some_iff.mp H
                                obtain ⟨t150, A740, H⟩ := H
                                replace H : (some (!t150)) = some r := H
                                have A74 := Aside0.mk A740
                                clear A740
                                obtain rfl := Option.some.inj H
                                go_wp2_with (first | (go_at_call 18; (with_reducible refine (digits_Valid.calls (⟨#[55]⟩ : ByteArray) true _ A59.out).mono ?_); rintro e w75 ⟨rfl, hb⟩; have n0_ := Aside0.mk (below_step (by repeat (first | (with_reducible first | exact HB.out | apply below_alloc | apply pw_below_drewN | apply below_drew1) | exact HB.out)) hb); clear HB; have HB := n0_; clear n0_; (try clear hb); (try clear hb2); (try clear hk); (try clear hi)) | (go_at_call 18; (with_reducible refine (digits_Valid.calls (⟨#[]⟩ : ByteArray) false _ A61.out).mono ?_); rintro e w76 ⟨rfl, hb⟩; have n0_ := Aside0.mk (below_step (by repeat (first | (with_reducible first | exact HB.out | apply below_alloc | apply pw_below_drewN | apply below_drew1) | exact HB.out)) hb); clear HB; have HB := n0_; clear n0_; (try clear hb); (try clear hb2); (try clear hk); (try clear hi)) | (go_at_call 18; (with_reducible refine (digits_Valid.calls (⟨#[55, 120]⟩ : ByteArray) false _ A65.out).mono ?_); rintro e w77 ⟨rfl, hb⟩; have n0_ := Aside0.mk (below_step (by repeat (first | (with_reducible first | exact HB.out | apply below_alloc | apply pw_below_drewN | apply below_drew1) | exact HB.out)) hb); clear HB; have HB := n0_; clear n0_; (try clear hb); (try clear hb2); (try clear hk); (try clear hi)) | (go_at_call 24; (with_reducible refine (digits_Common.calls (⟨#[49, 50, 51, 52]⟩ : ByteArray) (⟨#[49, 50, 56, 57]⟩ : ByteArray) t142 _ A70.out).mono ?_); rintro e w78 ⟨rfl, hb⟩; have n0_ := Aside0.mk (below_step (by repeat (first | (with_reducible first | exact HB.out | apply below_alloc | apply pw_below_drewN | apply below_drew1) | exact HB.out)) hb); clear HB; have HB := n0_; clear n0_; (try clear hb); (try clear hb2); (try clear hk); (try clear hi)) | ((with_reducible refine gate_dst (N := 147) rfl ?_); (try (refine gate_guard (by rfl) ?_; dsimp only)); refine Kd.R_lit Kd.string _ 9 ?hg (N := 147) ?hd (xs := ([(⟨#[49, 50]⟩ : ByteArray)] : List ByteArray)) (inner := [.string (⟨#[49, 50]⟩ : ByteArray)]) (ok := fun _ => True) (okp := fun _ => True) ?hr ?hp (fun _ hk => hk) trivial (Below.refl _ _) (Nat.le_refl _) (by simp) ?_; (case hd => rfl); (case hg => rfl); (case hr => first | (go_simp; done) | (go_simp; rfl)); (case hp => exact (Reps.one (show Kd.M Kd.string _ _ _ (⟨#[49, 50]⟩ : ByteArray) [.string (⟨#[49, 50]⟩ : ByteArray)] from rfl) (Reps.none _ _))); intro v144 w79 ho80 hb hg_ hnew_; clear hg_ hnew_; (first | rw [← Ny143.out] at ho80 | (simp only [Int.reduceToNat] at ho80; rw [← Ny143.out] at ho80)); have n0_ := Aside0.mk (Kd.R_lower ho80 (below_size (by repeat (first | (with_reducible first | exact HB.out | apply below_alloc | apply pw_below_drewN | apply below_drew1) | exact HB.out)))); have n1_ := Aside0.mk (below_step (by repeat (first | (with_reducible first | exact HB.out | apply below_alloc | apply pw_below_drewN | apply below_drew1) | exact HB.out)) hb); clear HB; have HO145 := n0_; have HB := n1_; clear n0_ n1_; clear hb ho80; obtain ⟨Ao81, co81, eo81⟩ := Kd.R_slice HO145.out; subst eo81) | (go_at_call 26; (with_reducible refine (digits_Matches.calls _ _ y143 (⟨#[49, 50, 51]⟩ : ByteArray) true _ ?side1 ?side2 A72.out).mono ?_); (case side1 => repeat (first | exact (Kd.R_reads' HO145.out).2.2 | (with_reducible refine Kd.C_alloc ?_ _) | (with_reducible refine Kd.C_drewN ?_ _) | (with_reducible refine Kd.C_drew ?_))); (case side2 => exact (Kd.R_reads' HO145.out).2.1); rintro e w82 ⟨rfl, hb⟩; have n0_ := Aside0.mk (Kd.R_below (by (with_reducible repeat (first | apply Kd.R_alloc | apply Kd.R_drewN | apply Kd.R_drew)); exact HO145.out) hb); have n1_ := Aside0.mk (below_step (by repeat (first | (with_reducible first | exact HB.out | apply below_alloc | apply pw_below_drewN | apply below_drew1) | exact HB.out)) hb); clear HO145; clear HB; have HO145 := n0_; have HB := n1_; clear n0_ n1_; (try clear hb); (try clear hb2); (try clear hk); (try clear hi)) | ((with_reducible refine gate_dst (N := 151) rfl ?_); (try (refine gate_guard (by rfl) ?_; dsimp only)); refine Kd.R_lit Kd.string _ 9 ?hg (N := 151) ?hd (xs := ([(⟨#[49, 50]⟩ : ByteArray)] : List ByteArray)) (inner := [.string (⟨#[49, 50]⟩ : ByteArray)]) (ok := fun _ => True) (okp := fun _ => True) ?hr ?hp (fun _ hk => hk) trivial (Below.refl _ _) (Nat.le_refl _) (by simp) ?_; (case hd => rfl); (case hg => rfl); (case hr => first | (go_simp; done) | (go_simp; rfl)); (case hp => exact (Reps.one (show Kd.M Kd.string _ _ _ (⟨#[49, 50]⟩ : ByteArray) [.string (⟨#[49, 50]⟩ : ByteArray)] from rfl) (Reps.none _ _))); intro v148 w83 ho84 hb hg_ hnew_; clear hg_ hnew_; (first | rw [← Ny147.out] at ho84 | (simp only [Int.reduceToNat] at ho84; rw [← Ny147.out] at ho84)); have n0_ := Aside0.mk (Kd.R_elder' (by (with_reducible repeat (first | apply Kd.R_alloc | apply Kd.R_drewN | apply Kd.R_drew)); exact HO145.out) (Kd.R_base ho84) hb); have n1_ := Aside0.mk (Kd.R_lower (Kd.R_new' ho84 (Kd.R_lt (by (with_reducible repeat (first | apply Kd.R_alloc | apply Kd.R_drewN | apply Kd.R_drew)); exact HO145.out))) (below_size (by repeat (first | (with_reducible first | exact HB.out | apply below_alloc | apply pw_below_drewN | apply below_drew1) | exact HB.out)))); have n2_ := Aside0.mk (below_step (by repeat (first | (with_reducible first | exact HB.out | apply below_alloc | apply pw_below_drewN | apply below_drew1) | exact HB.out)) hb); clear HO145; clear HB; have HO145 := n0_; have HO149 := n1_; have HB := n2_; clear n0_ n1_ n2_; clear hb ho84; obtain ⟨Ao85, co85, eo85⟩ := Kd.R_slice HO149.out; subst eo85) | (go_at_call 26; (with_reducible refine (digits_Matches.calls _ _ y147 (⟨#[49]⟩ : ByteArray) t150 _ ?side1 ?side2 A74.out).mono ?_); (case side1 => repeat (first | exact (Kd.R_reads' HO149.out).2.2 | (with_reducible refine Kd.C_alloc ?_ _) | (with_reducible refine Kd.C_drewN ?_ _) | (with_reducible refine Kd.C_drew ?_))); (case side2 => exact (Kd.R_reads' HO149.out).2.1); rintro e w86 ⟨rfl, hb⟩; have n0_ := Aside0.mk (Kd.R_below (by (with_reducible repeat (first | apply Kd.R_alloc | apply Kd.R_drewN | apply Kd.R_drew)); exact HO145.out) hb); have n1_ := Aside0.mk (Kd.R_below (by (with_reducible repeat (first | apply Kd.R_alloc | apply Kd.R_drewN | apply Kd.R_drew)); exact HO149.out) hb); have n2_ := Aside0.mk (below_step (by repeat (first | (with_reducible first | exact HB.out | apply below_alloc | apply pw_below_drewN | apply below_drew1) | exact HB.out)) hb); clear HO145; clear HO149; clear HB; have HO145 := n0_; have HO149 := n1_; have HB := n2_; clear n0_ n1_ n2_; (try clear hb); (try clear hb2); (try clear hk); (try clear hi)))
                                go_ret
                                exact ⟨by first | rfl | (simp [errW_none, errW_some] <;> rfl) | (simp [*, errW_none, errW_some] <;> rfl), by repeat (first | (with_reducible first | exact HB.out | apply below_alloc | apply pw_below_drewN | apply below_drew1) | exact HB.out)⟩
                              · replace c73 := Bool.eq_false_iff.mpr c73
                                subst c73
                                have H1 : (some false) = some r := by rw [if_neg (show ¬ (false = true) by decide)] at H; exact H
                                clear H
                                have H := H1
                                clear H1
                                obtain rfl := Option.some.inj H
                                go_wp2_with (first | (go_at_call 18; (with_reducible refine (digits_Valid.calls (⟨#[55]⟩ : ByteArray) true _ A59.out).mono ?_); rintro e w87 ⟨rfl, hb⟩; have n0_ := Aside0.mk (below_step (by repeat (first | (with_reducible first | exact HB.out | apply below_alloc | apply pw_below_drewN | apply below_drew1) | exact HB.out)) hb); clear HB; have HB := n0_; clear n0_; (try clear hb); (try clear hb2); (try clear hk); (try clear hi)) | (go_at_call 18; (with_reducible refine (digits_Valid.calls (⟨#[]⟩ : ByteArray) false _ A61.out).mono ?_); rintro e w88 ⟨rfl, hb⟩; have n0_ := Aside0.mk (below_step (by repeat (first | (with_reducible first | exact HB.out | apply below_alloc | apply pw_below_drewN | apply below_drew1) | exact HB.out)) hb); clear HB; have HB := n0_; clear n0_; (try clear hb); (try clear hb2); (try clear hk); (try clear hi)) | (go_at_call 18; (with_reducible refine (digits_Valid.calls (⟨#[55, 120]⟩ : ByteArray) false _ A65.out).mono ?_); rintro e w89 ⟨rfl, hb⟩; have n0_ := Aside0.mk (below_step (by repeat (first | (with_reducible first | exact HB.out | apply below_alloc | apply pw_below_drewN | apply below_drew1) | exact HB.out)) hb); clear HB; have HB := n0_; clear n0_; (try clear hb); (try clear hb2); (try clear hk); (try clear hi)) | (go_at_call 24; (with_reducible refine (digits_Common.calls (⟨#[49, 50, 51, 52]⟩ : ByteArray) (⟨#[49, 50, 56, 57]⟩ : ByteArray) t142 _ A70.out).mono ?_); rintro e w90 ⟨rfl, hb⟩; have n0_ := Aside0.mk (below_step (by repeat (first | (with_reducible first | exact HB.out | apply below_alloc | apply pw_below_drewN | apply below_drew1) | exact HB.out)) hb); clear HB; have HB := n0_; clear n0_; (try clear hb); (try clear hb2); (try clear hk); (try clear hi)) | ((with_reducible refine gate_dst (N := 147) rfl ?_); (try (refine gate_guard (by rfl) ?_; dsimp only)); refine Kd.R_lit Kd.string _ 9 ?hg (N := 147) ?hd (xs := ([(⟨#[49, 50]⟩ : ByteArray)] : List ByteArray)) (inner := [.string (⟨#[49, 50]⟩ : ByteArray)]) (ok := fun _ => True) (okp := fun _ => True) ?hr ?hp (fun _ hk => hk) trivial (Below.refl _ _) (Nat.le_refl _) (by simp) ?_; (case hd => rfl); (case hg => rfl); (case hr => first | (go_simp; done) | (go_simp; rfl)); (case hp => exact (Reps.one (show Kd.M Kd.string _ _ _ (⟨#[49, 50]⟩ : ByteArray) [.string (⟨#[49, 50]⟩ : ByteArray)] from rfl) (Reps.none _ _))); intro v144 w91 ho92 hb hg_ hnew_; clear hg_ hnew_; (first | rw [← Ny143.out] at ho92 | (simp only [Int.reduceToNat] at ho92; rw [← Ny143.out] at ho92)); have n0_ := Aside0.mk (Kd.R_lower ho92 (below_size (by repeat (first | (with_reducible first | exact HB.out | apply below_alloc | apply pw_below_drewN | apply below_drew1) | exact HB.out)))); have n1_ := Aside0.mk (below_step (by repeat (first | (with_reducible first | exact HB.out | apply below_alloc | apply pw_below_drewN | apply below_drew1) | exact HB.out)) hb); clear HB; have HO145 := n0_; have HB := n1_; clear n0_ n1_; clear hb ho92; obtain ⟨Ao93, co93, eo93⟩ := Kd.R_slice HO145.out; subst eo93) | (go_at_call 26; (with_reducible refine (digits_Matches.calls _ _ y143 (⟨#[49, 50, 51]⟩ : ByteArray) false _ ?side1 ?side2 A72.out).mono ?_); (case side1 => repeat (first | exact (Kd.R_reads' HO145.out).2.2 | (with_reducible refine Kd.C_alloc ?_ _) | (with_reducible refine Kd.C_drewN ?_ _) | (with_reducible refine Kd.C_drew ?_))); (case side2 => exact (Kd.R_reads' HO145.out).2.1); rintro e w94 ⟨rfl, hb⟩; have n0_ := Aside0.mk (Kd.R_below (by (with_reducible repeat (first | apply Kd.R_alloc | apply Kd.R_drewN | apply Kd.R_drew)); exact HO145.out) hb); have n1_ := Aside0.mk (below_step (by repeat (first | (with_reducible first | exact HB.out | apply below_alloc | apply pw_below_drewN | apply below_drew1) | exact HB.out)) hb); clear HO145; clear HB; have HO145 := n0_; have HB := n1_; clear n0_ n1_; (try clear hb); (try clear hb2); (try clear hk); (try clear hi)))
                                go_ret
                                exact ⟨by first | rfl | (simp [errW_none, errW_some] <;> rfl) | (simp [*, errW_none, errW_some] <;> rfl), by repeat (first | (with_reducible first | exact HB.out | apply below_alloc | apply pw_below_drewN | apply below_drew1) | exact HB.out)⟩
                            · rw [if_neg c71] at H
                              have c71b0 : (t142 == 2) = false := beq_eq_false_iff_ne.mpr c71
                              have c71b1 : (t142 != 2) = true := bne_iff_ne.mpr c71
                              obtain rfl := Option.some.inj H
                              go_wp2_with (first | (go_at_call 18; (with_reducible refine (digits_Valid.calls (⟨#[55]⟩ : ByteArray) true _ A59.out).mono ?_); rintro e w95 ⟨rfl, hb⟩; have n0_ := Aside0.mk (below_step (by repeat (first | (with_reducible first | exact HB.out | apply below_alloc | apply pw_below_drewN | apply below_drew1) | exact HB.out)) hb); clear HB; have HB := n0_; clear n0_; (try clear hb); (try clear hb2); (try clear hk); (try clear hi)) | (go_at_call 18; (with_reducible refine (digits_Valid.calls (⟨#[]⟩ : ByteArray) false _ A61.out).mono ?_); rintro e w96 ⟨rfl, hb⟩; have n0_ := Aside0.mk (below_step (by repeat (first | (with_reducible first | exact HB.out | apply below_alloc | apply pw_below_drewN | apply below_drew1) | exact HB.out)) hb); clear HB; have HB := n0_; clear n0_; (try clear hb); (try clear hb2); (try clear hk); (try clear hi)) | (go_at_call 18; (with_reducible refine (digits_Valid.calls (⟨#[55, 120]⟩ : ByteArray) false _ A65.out).mono ?_); rintro e w97 ⟨rfl, hb⟩; have n0_ := Aside0.mk (below_step (by repeat (first | (with_reducible first | exact HB.out | apply below_alloc | apply pw_below_drewN | apply below_drew1) | exact HB.out)) hb); clear HB; have HB := n0_; clear n0_; (try clear hb); (try clear hb2); (try clear hk); (try clear hi)) | (go_at_call 24; (with_reducible refine (digits_Common.calls (⟨#[49, 50, 51, 52]⟩ : ByteArray) (⟨#[49, 50, 56, 57]⟩ : ByteArray) t142 _ A70.out).mono ?_); rintro e w98 ⟨rfl, hb⟩; have n0_ := Aside0.mk (below_step (by repeat (first | (with_reducible first | exact HB.out | apply below_alloc | apply pw_below_drewN | apply below_drew1) | exact HB.out)) hb); clear HB; have HB := n0_; clear n0_; (try clear hb); (try clear hb2); (try clear hk); (try clear hi)))
                              go_ret
                              exact ⟨by first | rfl | (simp [errW_none, errW_some] <;> rfl) | (simp [*, errW_none, errW_some] <;> rfl), by repeat (first | (with_reducible first | exact HB.out | apply below_alloc | apply pw_below_drewN | apply below_drew1) | exact HB.out)⟩
                      · replace c60 := Bool.eq_false_iff.mpr c60
                        subst c60
                        have H1 : (some false) = some r := by rw [if_neg (show ¬ (false = true) by decide)] at H; exact H
                        clear H
                        have H := H1
                        clear H1
                        obtain rfl := Option.some.inj H
                        go_wp2_with (first | (go_at_call 18; (with_reducible refine (digits_Valid.calls (⟨#[55]⟩ : ByteArray) false _ A59.out).mono ?_); rintro e w99 ⟨rfl, hb⟩; have n0_ := Aside0.mk (below_step (by repeat (first | (with_reducible first | exact HB.out | apply below_alloc | apply pw_below_drewN | apply below_drew1) | exact HB.out)) hb); clear HB; have HB := n0_; clear n0_; (try clear hb); (try clear hb2); (try clear hk); (try clear hi)))
                        go_ret
                        exact ⟨by first | rfl | (simp [errW_none, errW_some] <;> rfl) | (simp [*, errW_none, errW_some] <;> rfl), by repeat (first | (with_reducible first | exact HB.out | apply below_alloc | apply pw_below_drewN | apply below_drew1) | exact HB.out)⟩
                    · rw [if_neg c58] at H
                      have c58b0 : (t130 == 60) = false := beq_eq_false_iff_ne.mpr c58
                      have c58b1 : (t130 != 60) = true := bne_iff_ne.mpr c58
                      obtain rfl := Option.some.inj H
                      go_wp2
                      go_ret
                      exact ⟨by first | rfl | (simp [errW_none, errW_some] <;> rfl) | (simp [*, errW_none, errW_some] <;> rfl), by repeat (first | (with_reducible first | exact HB.out | apply below_alloc | apply pw_below_drewN | apply below_drew1) | exact HB.out)⟩
                  · replace c57 := Bool.eq_false_iff.mpr c57
                    subst c57
                    have H1 : (some false) = some r := by rw [if_neg (show ¬ (false = true) by decide)] at H; exact H
                    clear H
                    have H := H1
                    clear H1
                    obtain rfl := Option.some.inj H
                    go_wp2
                    go_ret
                    exact ⟨by first | rfl | (simp [errW_none, errW_some] <;> rfl) | (simp [*, errW_none, errW_some] <;> rfl), by repeat (first | (with_reducible first | exact HB.out | apply below_alloc | apply pw_below_drewN | apply below_drew1) | exact HB.out)⟩
                · replace c56 := Bool.eq_false_iff.mpr c56
                  subst c56
                  have H1 : (some false) = some r := by rw [if_neg (show ¬ (false = true) by decide)] at H; exact H
                  clear H
                  have H := H1
                  clear H1
                  obtain rfl := Option.some.inj H
                  go_wp2
                  go_ret
                  exact ⟨by first | rfl | (simp [errW_none, errW_some] <;> rfl) | (simp [*, errW_none, errW_some] <;> rfl), by repeat (first | (with_reducible first | exact HB.out | apply below_alloc | apply pw_below_drewN | apply below_drew1) | exact HB.out)⟩
              · replace c55 := Bool.eq_false_iff.mpr c55
                subst c55
                have H1 : (some false) = some r := by rw [if_neg (show ¬ (false = true) by decide)] at H; exact H
                clear H
                have H := H1
                clear H1
                obtain rfl := Option.some.inj H
                go_wp2
                go_ret
                exact ⟨by first | rfl | (simp [errW_none, errW_some] <;> rfl) | (simp [*, errW_none, errW_some] <;> rfl), by repeat (first | (with_reducible first | exact HB.out | apply below_alloc | apply pw_below_drewN | apply below_drew1) | exact HB.out)⟩

end Go.Proofs.Ytajddminbfiipaa.Q
