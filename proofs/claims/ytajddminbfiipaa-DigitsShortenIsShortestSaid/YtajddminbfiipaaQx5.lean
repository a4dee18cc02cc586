/- What these functions compute, walked (printed by print2.py over the kit's print): crossbarlaw06_DigitsShortenRoundTrip, crossbarlaw06_DigitsShortenIsShortest, crossbarlaw06_DigitsFormsAgree. -/
import Derived.Test.YtajddminbfiipaaQx0
import Derived.Test.YtajddminbfiipaaQx1
import Derived.Test.YtajddminbfiipaaQx2
namespace Go.Proofs.Ytajddminbfiipaa.Q
open Go.RowKit Go.Proofs.YtajddminbfiipaaW.PrintWords Go.Proofs.YtajddminbfiipaaW.PrintLast Go.Proofs.YtajddminbfiipaaW.PrintMore Go.Proofs.Ytajddminbfiipaa.Ext
attribute [local go_sem] max2_int min2_int max_two min_two max_three min_three max_four min_four   -- for this text's walks alone
set_option linter.unusedVariables false
set_option linter.unusedSimpArgs false

/-! ### crossbarlaw06_DigitsShortenRoundTrip: function 5 -/
def crossbarlaw06_DigitsShortenRoundTrip.f (k : Nat) (a0 : ByteArray) (a1 : ByteArray) (a2 : ByteArray) : Option (Bool) := (crossbarlaw06_sane.f k).bind fun t246 => (if t246 = true then ((crossbarlaw06_short.f a0 a1 a2).bind fun t247 => (if t247 = true then ((digits_Shorten.f a0 a1 a2).bind fun bt248 => (if bt248.2 = 0 then ((digits_Normalize.f bt248.1 a1 a2).bind fun bt250 => (if bt250.2 = 0 then (some (bt250.1.toList == a0.toList)) else (some false))) else (if bt248.1.toList = ([] : List UInt8) then ((digits_Valid.f a0).bind fun t252 => (if t252 = true then ((digits_Valid.f a1).bind fun t253 => (if t253 = true then ((digits_Valid.f a2).bind fun t254 => (some (!t254))) else (some true))) else (some true))) else (some false)))) else (some true))) else (some false))
theorem crossbarlaw06_DigitsShortenRoundTrip.mono : ∀ a0 a1 a2 k, LeO (crossbarlaw06_DigitsShortenRoundTrip.f k a0 a1 a2) (crossbarlaw06_DigitsShortenRoundTrip.f (k + 1) a0 a1 a2) := by
  intro a0 a1 a2 k
  unfold crossbarlaw06_DigitsShortenRoundTrip.f
  repeat' first
      | (with_reducible exact crossbarlaw06_sane.mono _)
      | (with_reducible exact LeO.refl _)
      | (with_reducible exact LeO.none _)
      | (with_reducible refine LeO.ite ?_ ?_)
      | (with_reducible refine LeO.bind ?_ (fun _ => ?_))
      | exact crossbarlaw06_sane.mono _
      | exact LeO.none _
      | refine LeO.ite ?_ ?_
      | refine LeO.bind ?_ (fun _ => ?_)
set_option maxHeartbeats 8000000 in
set_option maxRecDepth 100000 in
theorem crossbarlaw06_DigitsShortenRoundTrip.calls (k : Nat) (a0 : ByteArray) (a1 : ByteArray) (a2 : ByteArray) (r : Bool) (w : World) (h : crossbarlaw06_DigitsShortenRoundTrip.f k a0 a1 a2 = some r) :
    Calls Try.prog 5 #[.string a0, .string a1, .string a2] w fun e w' => e = .returned (.bool r) ∧ Below w.heap.size w w' := by
  have HB := Aside0.mk (Below.refl w.heap.size w)
  have H : ((crossbarlaw06_sane.f k).bind fun t246 => (if t246 = true then ((crossbarlaw06_short.f a0 a1 a2).bind fun t247 => (if t247 = true then ((digits_Shorten.f a0 a1 a2).bind fun bt248 => (if bt248.2 = 0 then ((digits_Normalize.f bt248.1 a1 a2).bind fun bt250 => (if bt250.2 = 0 then (some (bt250.1.toList == a0.toList)) else (some false))) else (if bt248.1.toList = ([] : List UInt8) then ((digits_Valid.f a0).bind fun t252 => (if t252 = true then ((digits_Valid.f a1).bind fun t253 => (if t253 = true then ((digits_Valid.f a2).bind fun t254 => (some (!t254))) else (some true))) else (some true))) else (some false)))) else (some true))) else (some false))) = some r := h
  clear h
  replace H := Option.bind_eq_some_iff.mp H
  obtain ⟨t246, A40, H⟩ := H
  replace H : (if t246 = true then ((crossbarlaw06_short.f a0 a1 a2).bind fun t247 => (if t247 = true then ((digits_Shorten.f a0 a1 a2).bind fun bt248 => (if bt248.2 = 0 then ((digits_Normalize.f bt248.1 a1 a2).bind fun bt250 => (if bt250.2 = 0 then (some (bt250.1.toList == a0.toList)) else (some false))) else (if bt248.1.toList = ([] : List UInt8) then ((digits_Valid.f a0).bind fun t252 => (if t252 = true then ((digits_Valid.f a1).bind fun t253 => (if t253 = true then ((digits_Valid.f a2).bind fun t254 => (some (!t254))) else (some true))) else (some true))) else (some false)))) else (some true))) else (some false)) = some r := H
  have A4 := Aside0.mk A40
  clear A40
  by_cases c5 : t246 = true
  · subst c5
    have H1 : ((crossbarlaw06_short.f a0 a1 a2).bind fun t247 => (if t247 = true then ((digits_Shorten.f a0 a1 a2).bind fun bt248 => (if bt248.2 = 0 then ((digits_Normalize.f bt248.1 a1 a2).bind fun bt250 => (if bt250.2 = 0 then (some (bt250.1.toList == a0.toList)) else (some false))) else (if bt248.1.toList = ([] : List UInt8) then ((digits_Valid.f a0).bind fun t252 => (if t252 = true then ((digits_Valid.f a1).bind fun t253 => (if t253 = true then ((digits_Valid.f a2).bind fun t254 => (some (!t254))) else (some true))) else (some true))) else (some false)))) else (some true))) = some r := by rw [if_pos rfl] at H; exact H
    clear H
    have H := H1
    clear H1
    replace H := Option.bind_eq_some_iff.mp H
    obtain ⟨t247, A60, H⟩ := H
    replace H : (if t247 = true then ((digits_Shorten.f a0 a1 a2).bind fun bt248 => (if bt248.2 = 0 then ((digits_Normalize.f bt248.1 a1 a2).bind fun bt250 => (if bt250.2 = 0 then (some (bt250.1.toList == a0.toList)) else (some false))) else (if bt248.1.toList = ([] : List UInt8) then ((digits_Valid.f a0).bind fun t252 => (if t252 = true then ((digits_Valid.f a1).bind fun t253 => (if t253 = true then ((digits_Valid.f a2).bind fun t254 => (some (!t254))) else (some true))) else (some true))) else (some false)))) else (some true)) = some r := H
    have A6 := Aside0.mk A60
    clear A60
    by_cases c7 : t247 = true
    · subst c7
      have H1 : ((digits_Shorten.f a0 a1 a2).bind fun bt248 => (if bt248.2 = 0 then ((digits_Normalize.f bt248.1 a1 a2).bind fun bt250 => (if bt250.2 = 0 then (some (bt250.1.toList == a0.toList)) else (some false))) else (if bt248.1.toList = ([] : List UInt8) then ((digits_Valid.f a0).bind fun t252 => (if t252 = true then ((digits_Valid.f a1).bind fun t253 => (if t253 = true then ((digits_Valid.f a2).bind fun t254 => (some (!t254))) else (some true))) else (some true))) else (some false)))) = some r := by rw [if_pos rfl] at H; exact H
      clear H
      have H := H1
      clear H1
      replace H := Option.bind_eq_some_iff.mp H
      obtain ⟨⟨t248, t249⟩, A80, H⟩ := H
      replace H : (if t249 = 0 then ((digits_Normalize.f t248 a1 a2).bind fun bt250 => (if bt250.2 = 0 then (some (bt250.1.toList == a0.toList)) else (some false))) else (if t248.toList = ([] : List UInt8) then ((digits_Valid.f a0).bind fun t252 => (if t252 = true then ((digits_Valid.f a1).bind fun t253 => (if t253 = true then ((digits_Valid.f a2).bind fun t254 => (some (!t254))) else (some true))) else (some true))) else (some false))) = some r := H
      have A8 := Aside0.mk A80
      clear A80
      by_cases c9 : t249 = 0
      · rw [if_pos c9] at H
        have c9b0 : (t249 == 0) = true := beq_iff_eq.mpr c9
        have c9b1 : (t249 != 0) = false := bne_eq_false_iff_eq.mpr c9
        clear c9
        replace H := Option.bind_eq_some_iff.mp H
        obtain ⟨⟨t250, t251⟩, A100, H⟩ := H
        replace H : (if t251 = 0 then (some (t250.toList == a0.toList)) else (some false)) = some r := H
        have A10 := Aside0.mk A100
        clear A100
        by_cases c11 : t251 = 0
        · rw [if_pos c11] at H
          have c11b0 : (t251 == 0) = true := beq_iff_eq.mpr c11
          have c11b1 : (t251 != 0) = false := bne_eq_false_iff_eq.mpr c11
          clear c11
          obtain rfl := Option.some.inj H
          go_enter Try.func5, Try.ntmps5
          go_wp2_with (first | ((with_reducible refine gate_callee (f := 12) rfl ?_); refine goesL_ (some 11) rfl rfl Try.func12 (by kernel_rfl) rfl #[] rfl (by (try simp only [List.map_toArray, List.map_cons, List.map_nil]); first | done | rfl | (simp only [List.length_drop, List.length_take]; rfl)) ?_; (with_reducible refine (crossbarlaw06_sane.calls k  true _ A4.out).mono ?_); rintro e w12 ⟨rfl, hb⟩; refine ⟨_, rfl, ?_⟩; have n0_ := Aside0.mk (below_step (by repeat (first | (with_reducible first | exact HB.out | apply below_alloc | apply pw_below_drewN | apply below_drew1) | exact HB.out)) hb); clear HB; have HB := n0_; clear n0_; (try clear hb); (try clear hb2); (try clear hk); (try clear hi)) | ((with_reducible refine gate_callee (f := 13) rfl ?_); refine goesL_ (some 16) rfl rfl Try.func13 (by kernel_rfl) rfl #[.string a0, .string a1, .string a2] rfl (by (try simp only [List.map_toArray, List.map_cons, List.map_nil]); first | done | rfl | (simp only [List.length_drop, List.length_take]; rfl)) ?_; (with_reducible refine (crossbarlaw06_short.calls a0 a1 a2 true _ A6.out).mono ?_); rintro e w' ⟨rfl, ⟨nd, rfl⟩⟩; refine ⟨_, rfl, ?_⟩) | ((with_reducible refine gate_callee (f := 16) rfl ?_); refine goesL_ (some 22) rfl rfl Try.func16 (by kernel_rfl) rfl #[.string a0, .string a1, .string a2] rfl (by (try simp only [List.map_toArray, List.map_cons, List.map_nil]); first | done | rfl | (simp only [List.length_drop, List.length_take]; rfl)) ?_; (with_reducible refine (digits_Shorten.calls a0 a1 a2 t248 t249 _ A8.out).mono ?_); rintro e w13 ⟨rfl, hb⟩; refine ⟨_, rfl, ?_⟩; have n0_ := Aside0.mk (below_step (by repeat (first | (with_reducible first | exact HB.out | apply below_alloc | apply pw_below_drewN | apply below_drew1) | exact HB.out)) hb); clear HB; have HB := n0_; clear n0_; (try clear hb); (try clear hb2); (try clear hk); (try clear hi)) | ((with_reducible refine gate_callee (f := 14) rfl ?_); refine goesL_ (some 48) rfl rfl Try.func14 (by kernel_rfl) rfl #[.string t248, .string a1, .string a2] rfl (by (try simp only [List.map_toArray, List.map_cons, List.map_nil]); first | done | rfl | (simp only [List.length_drop, List.length_take]; rfl)) ?_; (with_reducible refine (digits_Normalize.calls t248 a1 a2 t250 t251 _ A10.out).mono ?_); rintro e w14 ⟨rfl, hb⟩; refine ⟨_, rfl, ?_⟩; have n0_ := Aside0.mk (below_step (by repeat (first | (with_reducible first | exact HB.out | apply below_alloc | apply pw_below_drewN | apply below_drew1) | exact HB.out)) hb); clear HB; have HB := n0_; clear n0_; (try clear hb); (try clear hb2); (try clear hk); (try clear hi)))
          go_ret
          exact ⟨by first | rfl | (simp [errW_none, errW_some] <;> rfl) | (simp [*, errW_none, errW_some] <;> rfl), by repeat (first | (with_reducible first | exact HB.out | apply below_alloc | apply pw_below_drewN | apply below_drew1) | exact HB.out)⟩
        · rw [if_neg c11] at H
          have c11b0 : (t251 == 0) = false := beq_eq_false_iff_ne.mpr c11
          have c11b1 : (t251 != 0) = true := bne_iff_ne.mpr c11
          obtain rfl := Option.some.inj H
          go_enter Try.func5, Try.ntmps5
          go_wp2_with (first | ((with_reducible refine gate_callee (f := 12) rfl ?_); refine goesL_ (some 11) rfl rfl Try.func12 (by kernel_rfl) rfl #[] rfl (by (try simp only [List.map_toArray, List.map_cons, List.map_nil]); first | done | rfl | (simp only [List.length_drop, List.length_take]; rfl)) ?_; (with_reducible refine (crossbarlaw06_sane.calls k  true _ A4.out).mono ?_); rintro e w15 ⟨rfl, hb⟩; refine ⟨_, rfl, ?_⟩; have n0_ := Aside0.mk (below_step (by repeat (first | (with_reducible first | exact HB.out | apply below_alloc | apply pw_below_drewN | apply below_drew1) | exact HB.out)) hb); clear HB; have HB := n0_; clear n0_; (try clear hb); (try clear hb2); (try clear hk); (try clear hi)) | ((with_reducible refine gate_callee (f := 13) rfl ?_); refine goesL_ (some 16) rfl rfl Try.func13 (by kernel_rfl) rfl #[.string a0, .string a1, .string a2] rfl (by (try simp only [List.map_toArray, List.map_cons, List.map_nil]); first | done | rfl | (simp only [List.length_drop, List.length_take]; rfl)) ?_; (with_reducible refine (crossbarlaw06_short.calls a0 a1 a2 true _ A6.out).mono ?_); rintro e w' ⟨rfl, ⟨nd, rfl⟩⟩; refine ⟨_, rfl, ?_⟩) | ((with_reducible refine gate_callee (f := 16) rfl ?_); refine goesL_ (some 22) rfl rfl Try.func16 (by kernel_rfl) rfl #[.string a0, .string a1, .string a2] rfl (by (try simp only [List.map_toArray, List.map_cons, List.map_nil]); first | done | rfl | (simp only [List.length_drop, List.length_take]; rfl)) ?_; (with_reducible refine (digits_Shorten.calls a0 a1 a2 t248 t249 _ A8.out).mono ?_); rintro e w16 ⟨rfl, hb⟩; refine ⟨_, rfl, ?_⟩; have n0_ := Aside0.mk (below_step (by repeat (first | (with_reducible first | exact HB.out | apply below_alloc | apply pw_below_drewN | apply below_drew1) | exact HB.out)) hb); clear HB; have HB := n0_; clear n0_; (try clear hb); (try clear hb2); (try clear hk); (try clear hi)) | ((with_reducible refine gate_callee (f := 14) rfl ?_); refine goesL_ (some 48) rfl rfl Try.func14 (by kernel_rfl) rfl #[.string t248, .string a1, .string a2] rfl (by (try simp only [List.map_toArray, List.map_cons, List.map_nil]); first | done | rfl | (simp only [List.length_drop, List.length_take]; rfl)) ?_; (with_reducible refine (digits_Normalize.calls t248 a1 a2 t250 t251 _ A10.out).mono ?_); rintro e w17 ⟨rfl, hb⟩; refine ⟨_, rfl, ?_⟩; have n0_ := Aside0.mk (below_step (by repeat (first | (with_reducible first | exact HB.out | apply below_alloc | apply pw_below_drewN | apply below_drew1) | exact HB.out)) hb); clear HB; have HB := n0_; clear n0_; (try clear hb); (try clear hb2); (try clear hk); (try clear hi)))
          go_ret
          exact ⟨by first | rfl | (simp [errW_none, errW_some] <;> rfl) | (simp [*, errW_none, errW_some] <;> rfl), by repeat (first | (with_reducible first | exact HB.out | apply below_alloc | apply pw_below_drewN | apply below_drew1) | exact HB.out)⟩
      · rw [if_neg c9] at H
        have c9b0 : (t249 == 0) = false := beq_eq_false_iff_ne.mpr c9
        have c9b1 : (t249 != 0) = true := bne_iff_ne.mpr c9
        by_cases c18 : t248.toList = ([] : List UInt8)
        · rw [if_pos c18] at H
          have c18b0 : (t248.toList == ([] : List UInt8)) = true := beq_iff_eq.mpr c18
          have c18b1 : (t248.toList != ([] : List UInt8)) = false := bne_eq_false_iff_eq.mpr c18
          clear c18
          replace H := Option.bind_eq_some_iff.mp H
          obtain ⟨t252, A190, H⟩ := H
          replace H : (if t252 = true then ((digits_Valid.f a1).bind fun t253 => (if t253 = true then ((digits_Valid.f a2).bind fun t254 => (some (!t254))) else (some true))) else (some true)) = some r := H
          have A19 := Aside0.mk A190
          clear A190
          by_cases c20 : t252 = true
          · subst c20
            have H1 : ((digits_Valid.f a1).bind fun t253 => (if t253 = true then ((digits_Valid.f a2).bind fun t254 => (some (!t254))) else (some true))) = some r := by rw [if_pos rfl] at H; exact H
            clear H
            have H := H1
            clear H1
            replace H := Option.bind_eq_some_iff.mp H
            obtain ⟨t253, A210, H⟩ := H
            replace H : (if t253 = true then ((digits_Valid.f a2).bind fun t254 => (some (!t254))) else (some true)) = some r := H
            have A21 := Aside0.mk A210
            clear A210
            by_cases c22 : t253 = true
            · subst c22
              have H1 : ((digits_Valid.f a2).bind fun t254 => (some (!t254))) = some r := by rw [if_pos rfl] at H; exact H
              clear H
              have H := H1
              clear H1
              replace H := Option.bind_eq_some_iff.mp H
              obtain ⟨t254, A230, H⟩ := H
              replace H : (some (!t254)) = some r := H
              have A23 := Aside0.mk A230
              clear A230
              obtain rfl := Option.some.inj H
              go_enter Try.func5, Try.ntmps5
              go_wp2_with (first | ((with_reducible refine gate_callee (f := 12) rfl ?_); refine goesL_ (some 11) rfl rfl Try.func12 (by kernel_rfl) rfl #[] rfl (by (try simp only [List.map_toArray, List.map_cons, List.map_nil]); first | done | rfl | (simp only [List.length_drop, List.length_take]; rfl)) ?_; (with_reducible refine (crossbarlaw06_sane.calls k  true _ A4.out).mono ?_); rintro e w24 ⟨rfl, hb⟩; refine ⟨_, rfl, ?_⟩; have n0_ := Aside0.mk (below_step (by repeat (first | (with_reducible first | exact HB.out | apply below_alloc | apply pw_below_drewN | apply below_drew1) | exact HB.out)) hb); clear HB; have HB := n0_; clear n0_; (try clear hb); (try clear hb2); (try clear hk); (try clear hi)) | ((with_reducible refine gate_callee (f := 13) rfl ?_); refine goesL_ (some 16) rfl rfl Try.func13 (by kernel_rfl) rfl #[.string a0, .string a1, .string a2] rfl (by (try simp only [List.map_toArray, List.map_cons, List.map_nil]); first | done | rfl | (simp only [List.length_drop, List.length_take]; rfl)) ?_; (with_reducible refine (crossbarlaw06_short.calls a0 a1 a2 true _ A6.out).mono ?_); rintro e w' ⟨rfl, ⟨nd, rfl⟩⟩; refine ⟨_, rfl, ?_⟩) | ((with_reducible refine gate_callee (f := 16) rfl ?_); refine goesL_ (some 22) rfl rfl Try.func16 (by kernel_rfl) rfl #[.string a0, .string a1, .string a2] rfl (by (try simp only [List.map_toArray, List.map_cons, List.map_nil]); first | done | rfl | (simp only [List.length_drop, List.length_take]; rfl)) ?_; (with_reducible refine (digits_Shorten.calls a0 a1 a2 t248 t249 _ A8.out).mono ?_); rintro e w25 ⟨rfl, hb⟩; refine ⟨_, rfl, ?_⟩; have n0_ := Aside0.mk (below_step (by repeat (first | (with_reducible first | exact HB.out | apply below_alloc | apply pw_below_drewN | apply below_drew1) | exact HB.out)) hb); clear HB; have HB := n0_; clear n0_; (try clear hb); (try clear hb2); (try clear hk); (try clear hi)) | (go_at_call 18; (with_reducible refine (digits_Valid.calls a0 true _ A19.out).mono ?_); rintro e w26 ⟨rfl, hb⟩; have n0_ := Aside0.mk (below_step (by repeat (first | (with_reducible first | exact HB.out | apply below_alloc | apply pw_below_drewN | apply below_drew1) | exact HB.out)) hb); clear HB; have HB := n0_; clear n0_; (try clear hb); (try clear hb2); (try clear hk); (try clear hi)) | (go_at_call 18; (with_reducible refine (digits_Valid.calls a1 true _ A21.out).mono ?_); rintro e w27 ⟨rfl, hb⟩; have n0_ := Aside0.mk (below_step (by repeat (first | (with_reducible first | exact HB.out | apply below_alloc | apply pw_below_drewN | apply below_drew1) | exact HB.out)) hb); clear HB; have HB := n0_; clear n0_; (try clear hb); (try clear hb2); (try clear hk); (try clear hi)) | (go_at_call 18; (with_reducible refine (digits_Valid.calls a2 t254 _ A23.out).mono ?_); rintro e w28 ⟨rfl, hb⟩; have n0_ := Aside0.mk (below_step (by repeat (first | (with_reducible first | exact HB.out | apply below_alloc | apply pw_below_drewN | apply below_drew1) | exact HB.out)) hb); clear HB; have HB := n0_; clear n0_; (try clear hb); (try clear hb2); (try clear hk); (try clear hi)))
              go_ret
              exact ⟨by first | rfl | (simp [errW_none, errW_some] <;> rfl) | (simp [*, errW_none, errW_some] <;> rfl), by repeat (first | (with_reducible first | exact HB.out | apply below_alloc | apply pw_below_drewN | apply below_drew1) | exact HB.out)⟩
            · replace c22 := Bool.eq_false_iff.mpr c22
              subst c22
              have H1 : (some true) = some r := by rw [if_neg (show ¬ (false = true) by decide)] at H; exact H
              clear H
              have H := H1
              clear H1
              obtain rfl := Option.some.inj H
              go_enter Try.func5, Try.ntmps5
              go_wp2_with (first | ((with_reducible refine gate_callee (f := 12) rfl ?_); refine goesL_ (some 11) rfl rfl Try.func12 (by kernel_rfl) rfl #[] rfl (by (try simp only [List.map_toArray, List.map_cons, List.map_nil]); first | done | rfl | (simp only [List.length_drop, List.length_take]; rfl)) ?_; (with_reducible refine (crossbarlaw06_sane.calls k  true _ A4.out).mono ?_); rintro e w29 ⟨rfl, hb⟩; refine ⟨_, rfl, ?_⟩; have n0_ := Aside0.mk (below_step (by repeat (first | (with_reducible first | exact HB.out | apply below_alloc | apply pw_below_drewN | apply below_drew1) | exact HB.out)) hb); clear HB; have HB := n0_; clear n0_; (try clear hb); (try clear hb2); (try clear hk); (try clear hi)) | ((with_reducible refine gate_callee (f := 13) rfl ?_); refine goesL_ (some 16) rfl rfl Try.func13 (by kernel_rfl) rfl #[.string a0, .string a1, .string a2] rfl (by (try simp only [List.map_toArray, List.map_cons, List.map_nil]); first | done | rfl | (simp only [List.length_drop, List.length_take]; rfl)) ?_; (with_reducible refine (crossbarlaw06_short.calls a0 a1 a2 true _ A6.out).mono ?_); rintro e w' ⟨rfl, ⟨nd, rfl⟩⟩; refine ⟨_, rfl, ?_⟩) | ((with_reducible refine gate_callee (f := 16) rfl ?_); refine goesL_ (some 22) rfl rfl Try.func16 (by kernel_rfl) rfl #[.string a0, .string a1, .string a2] rfl (by (try simp only [List.map_toArray, List.map_cons, List.map_nil]); first | done | rfl | (simp only [List.length_drop, List.length_take]; rfl)) ?_; (with_reducible refine (digits_Shorten.calls a0 a1 a2 t248 t249 _ A8.out).mono ?_); rintro e w30 ⟨rfl, hb⟩; refine ⟨_, rfl, ?_⟩; have n0_ := Aside0.mk (below_step (by repeat (first | (with_reducible first | exact HB.out | apply below_alloc | apply pw_below_drewN | apply below_drew1) | exact HB.out)) hb); clear HB; have HB := n0_; clear n0_; (try clear hb); (try clear hb2); (try clear hk); (try clear hi)) | (go_at_call 18; (with_reducible refine (digits_Valid.calls a0 true _ A19.out).mono ?_); rintro e w31 ⟨rfl, hb⟩; have n0_ := Aside0.mk (below_step (by repeat (first | (with_reducible first | exact HB.out | apply below_alloc | apply pw_below_drewN | apply below_drew1) | exact HB.out)) hb); clear HB; have HB := n0_; clear n0_; (try clear hb); (try clear hb2); (try clear hk); (try clear hi)) | (go_at_call 18; (with_reducible refine (digits_Valid.calls a1 false _ A21.out).mono ?_); rintro e w32 ⟨rfl, hb⟩; have n0_ := Aside0.mk (below_step (by repeat (first | (with_reducible first | exact HB.out | apply below_alloc | apply pw_below_drewN | apply below_drew1) | exact HB.out)) hb); clear HB; have HB := n0_; clear n0_; (try clear hb); (try clear hb2); (try clear hk); (try clear hi)))
              go_ret
              exact ⟨by first | rfl | (simp [errW_none, errW_some] <;> rfl) | (simp [*, errW_none, errW_some] <;> rfl), by repeat (first | (with_reducible first | exact HB.out | apply below_alloc | apply pw_below_drewN | apply below_drew1) | exact HB.out)⟩
          · replace c20 := Bool.eq_false_iff.mpr c20
            subst c20
            have H1 : (some true) = some r := by rw [if_neg (show ¬ (false = true) by decide)] at H; exact H
            clear H
            have H := H1
            clear H1
            obtain rfl := Option.some.inj H
            go_enter Try.func5, Try.ntmps5
            go_wp2_with (first | ((with_reducible refine gate_callee (f := 12) rfl ?_); refine goesL_ (some 11) rfl rfl Try.func12 (by kernel_rfl) rfl #[] rfl (by (try simp only [List.map_toArray, List.map_cons, List.map_nil]); first | done | rfl | (simp only [List.length_drop, List.length_take]; rfl)) ?_; (with_reducible refine (crossbarlaw06_sane.calls k  true _ A4.out).mono ?_); rintro e w33 ⟨rfl, hb⟩; refine ⟨_, rfl, ?_⟩; have n0_ := Aside0.mk (below_step (by repeat (first | (with_reducible first | exact HB.out | apply below_alloc | apply pw_below_drewN | apply below_drew1) | exact HB.out)) hb); clear HB; have HB := n0_; clear n0_; (try clear hb); (try clear hb2); (try clear hk); (try clear hi)) | ((with_reducible refine gate_callee (f := 13) rfl ?_); refine goesL_ (some 16) rfl rfl Try.func13 (by kernel_rfl) rfl #[.string a0, .string a1, .string a2] rfl (by (try simp only [List.map_toArray, List.map_cons, List.map_nil]); first | done | rfl | (simp only [List.length_drop, List.length_take]; rfl)) ?_; (with_reducible refine (crossbarlaw06_short.calls a0 a1 a2 true _ A6.out).mono ?_); rintro e w' ⟨rfl, ⟨nd, rfl⟩⟩; refine ⟨_, rfl, ?_⟩) | ((with_reducible refine gate_callee (f := 16) rfl ?_); refine goesL_ (some 22) rfl rfl Try.func16 (by kernel_rfl) rfl #[.string a0, .string a1, .string a2] rfl (by (try simp only [List.map_toArray, List.map_cons, List.map_nil]); first | done | rfl | (simp only [List.length_drop, List.length_take]; rfl)) ?_; (with_reducible refine (digits_Shorten.calls a0 a1 a2 t248 t249 _ A8.out).mono ?_); rintro e w34 ⟨rfl, hb⟩; refine ⟨_, rfl, ?_⟩; have n0_ := Aside0.mk (below_step (by repeat (first | (with_reducible first | exact HB.out | apply below_alloc | apply pw_below_drewN | apply below_drew1) | exact HB.out)) hb); clear HB; have HB := n0_; clear n0_; (try clear hb); (try clear hb2); (try clear hk); (try clear hi)) | (go_at_call 18; (with_reducible refine (digits_Valid.calls a0 false _ A19.out).mono ?_); rintro e w35 ⟨rfl, hb⟩; have n0_ := Aside0.mk (below_step (by repeat (first | (with_reducible first | exact HB.out | apply below_alloc | apply pw_below_drewN | apply below_drew1) | exact HB.out)) hb); clear HB; have HB := n0_; clear n0_; (try clear hb); (try clear hb2); (try clear hk); (try clear hi)))
            go_ret
            exact ⟨by first | rfl | (simp [errW_none, errW_some] <;> rfl) | (simp [*, errW_none, errW_some] <;> rfl), by repeat (first | (with_reducible first | exact HB.out | apply below_alloc | apply pw_below_drewN | apply below_drew1) | exact HB.out)⟩
        · rw [if_neg c18] at H
          have c18b0 : (t248.toList == ([] : List UInt8)) = false := beq_eq_false_iff_ne.mpr c18
          have c18b1 : (t248.toList != ([] : List UInt8)) = true := bne_iff_ne.mpr c18
          obtain rfl := Option.some.inj H
          go_enter Try.func5, Try.ntmps5
          go_wp2_with (first | ((with_reducible refine gate_callee (f := 12) rfl ?_); refine goesL_ (some 11) rfl rfl Try.func12 (by kernel_rfl) rfl #[] rfl (by (try simp only [List.map_toArray, List.map_cons, List.map_nil]); first | done | rfl | (simp only [List.length_drop, List.length_take]; rfl)) ?_; (with_reducible refine (crossbarlaw06_sane.calls k  true _ A4.out).mono ?_); rintro e w36 ⟨rfl, hb⟩; refine ⟨_, rfl, ?_⟩; have n0_ := Aside0.mk (below_step (by repeat (first | (with_reducible first | exact HB.out | apply below_alloc | apply pw_below_drewN | apply below_drew1) | exact HB.out)) hb); clear HB; have HB := n0_; clear n0_; (try clear hb); (try clear hb2); (try clear hk); (try clear hi)) | ((with_reducible refine gate_callee (f := 13) rfl ?_); refine goesL_ (some 16) rfl rfl Try.func13 (by kernel_rfl) rfl #[.string a0, .string a1, .string a2] rfl (by (try simp only [List.map_toArray, List.map_cons, List.map_nil]); first | done | rfl | (simp only [List.length_drop, List.length_take]; rfl)) ?_; (with_reducible refine (crossbarlaw06_short.calls a0 a1 a2 true _ A6.out).mono ?_); rintro e w' ⟨rfl, ⟨nd, rfl⟩⟩; refine ⟨_, rfl, ?_⟩) | ((with_reducible refine gate_callee (f := 16) rfl ?_); refine goesL_ (some 22) rfl rfl Try.func16 (by kernel_rfl) rfl #[.string a0, .string a1, .string a2] rfl (by (try simp only [List.map_toArray, List.map_cons, List.map_nil]); first | done | rfl | (simp only [List.length_drop, List.length_take]; rfl)) ?_; (with_reducible refine (digits_Shorten.calls a0 a1 a2 t248 t249 _ A8.out).mono ?_); rintro e w37 ⟨rfl, hb⟩; refine ⟨_, rfl, ?_⟩; have n0_ := Aside0.mk (below_step (by repeat (first | (with_reducible first | exact HB.out | apply below_alloc | apply pw_below_drewN | apply below_drew1) | exact HB.out)) hb); clear HB; have HB := n0_; clear n0_; (try clear hb); (try clear hb2); (try clear hk); (try clear hi)))
          go_ret
          exact ⟨by first | rfl | (simp [errW_none, errW_some] <;> rfl) | (simp [*, errW_none, errW_some] <;> rfl), by repeat (first | (with_reducible first | exact HB.out | apply below_alloc | apply pw_below_drewN | apply below_drew1) | exact HB.out)⟩
    · replace c7 := Bool.eq_false_iff.mpr c7
      subst c7
      have H1 : (some true) = some r := by rw [if_neg (show ¬ (false = true) by decide)] at H; exact H
      clear H
      have H := H1
      clear H1
      obtain rfl := Option.some.inj H
      go_enter Try.func5, Try.ntmps5
      go_wp2_with (first | ((with_reducible refine gate_callee (f := 12) rfl ?_); refine goesL_ (some 11) rfl rfl Try.func12 (by kernel_rfl) rfl #[] rfl (by (try simp only [List.map_toArray, List.map_cons, List.map_nil]); first | done | rfl | (simp only [List.length_drop, List.length_take]; rfl)) ?_; (with_reducible refine (crossbarlaw06_sane.calls k  true _ A4.out).mono ?_); rintro e w38 ⟨rfl, hb⟩; refine ⟨_, rfl, ?_⟩; have n0_ := Aside0.mk (below_step (by repeat (first | (with_reducible first | exact HB.out | apply below_alloc | apply pw_below_drewN | apply below_drew1) | exact HB.out)) hb); clear HB; have HB := n0_; clear n0_; (try clear hb); (try clear hb2); (try clear hk); (try clear hi)) | ((with_reducible refine gate_callee (f := 13) rfl ?_); refine goesL_ (some 16) rfl rfl Try.func13 (by kernel_rfl) rfl #[.string a0, .string a1, .string a2] rfl (by (try simp only [List.map_toArray, List.map_cons, List.map_nil]); first | done | rfl | (simp only [List.length_drop, List.length_take]; rfl)) ?_; (with_reducible refine (crossbarlaw06_short.calls a0 a1 a2 false _ A6.out).mono ?_); rintro e w' ⟨rfl, ⟨nd, rfl⟩⟩; refine ⟨_, rfl, ?_⟩))
      go_ret
      exact ⟨by first | rfl | (simp [errW_none, errW_some] <;> rfl) | (simp [*, errW_none, errW_some] <;> rfl), by repeat (first | (with_reducible first | exact HB.out | apply below_alloc | apply pw_below_drewN | apply below_drew1) | exact HB.out)⟩
  · replace c5 := Bool.eq_false_iff.mpr c5
    subst c5
    have H1 : (some false) = some r := by rw [if_neg (show ¬ (false = true) by decide)] at H; exact H
    clear H
    have H := H1
    clear H1
    obtain rfl := Option.some.inj H
    go_enter Try.func5, Try.ntmps5
    go_wp2_with (first | ((with_reducible refine gate_callee (f := 12) rfl ?_); refine goesL_ (some 11) rfl rfl Try.func12 (by kernel_rfl) rfl #[] rfl (by (try simp only [List.map_toArray, List.map_cons, List.map_nil]); first | done | rfl | (simp only [List.length_drop, List.length_take]; rfl)) ?_; (with_reducible refine (crossbarlaw06_sane.calls k  false _ A4.out).mono ?_); rintro e w39 ⟨rfl, hb⟩; refine ⟨_, rfl, ?_⟩; have n0_ := Aside0.mk (below_step (by repeat (first | (with_reducible first | exact HB.out | apply below_alloc | apply pw_below_drewN | apply below_drew1) | exact HB.out)) hb); clear HB; have HB := n0_; clear n0_; (try clear hb); (try clear hb2); (try clear hk); (try clear hi)))
    go_ret
    exact ⟨by first | rfl | (simp [errW_none, errW_some] <;> rfl) | (simp [*, errW_none, errW_some] <;> rfl), by repeat (first | (with_reducible first | exact HB.out | apply below_alloc | apply pw_below_drewN | apply below_drew1) | exact HB.out)⟩

/-- THE ONE PURE STATEMENT of crossbarlaw06_DigitsShortenRoundTrip: yours. -/
def crossbarlaw06_DigitsShortenRoundTrip.Pure : Prop := ∀ (a0 : ByteArray) (a1 : ByteArray) (a2 : ByteArray), a0.size ≤ 140737488351232 → a1.size ≤ 140737488351232 → a2.size ≤ 140737488351232 → ∃ k, crossbarlaw06_DigitsShortenRoundTrip.f k a0 a1 a2 = some true
theorem crossbarlaw06_DigitsShortenRoundTrip.walk (P : crossbarlaw06_DigitsShortenRoundTrip.Pure) (a0 : ByteArray) (a1 : ByteArray) (a2 : ByteArray) (w : World) (w0 : a0.size ≤ 140737488351232) (w1 : a1.size ≤ 140737488351232) (w2 : a2.size ≤ 140737488351232) :
    Calls Try.prog 5 #[.string a0, .string a1, .string a2] w fun e w' => e = .returned (.bool true) ∧ Below w.heap.size w w' := by
  obtain ⟨k, h⟩ := P a0 a1 a2 w0 w1 w2
  refine (crossbarlaw06_DigitsShortenRoundTrip.calls k a0 a1 a2 true w h).mono ?_
  rintro e w' ⟨rfl, hd⟩
  exact ⟨rfl, hd⟩

/-! ### crossbarlaw06_DigitsShortenIsShortest: function 6 -/
def crossbarlaw06_DigitsShortenIsShortest.f (k : Nat) (a0 : ByteArray) (a1 : ByteArray) (a2 : ByteArray) : Option (Bool) := (crossbarlaw06_sane.f k).bind fun t255 => (if t255 = true then ((crossbarlaw06_short.f a0 a1 a2).bind fun t256 => (if t256 = true then ((digits_Normalize.f a0 a1 a2).bind fun bt257 => (if bt257.2 = 0 then ((digits_Shorten.f bt257.1 a1 a2).bind fun bt259 => (if bt259.2 = 0 then ((digits_Valid.f bt257.1).bind fun t261 => (if t261 = true then (if (bt259.1.size : Int) ≤ (a0.size : Int) then (if (bt259.1.size : Int) < (a0.size : Int) then (some true) else (some (bt259.1.toList == a0.toList))) else (some false)) else (some false))) else (some false))) else (some (bt257.1.toList == ([] : List UInt8))))) else (some true))) else (some false))
theorem crossbarlaw06_DigitsShortenIsShortest.mono : ∀ a0 a1 a2 k, LeO (crossbarlaw06_DigitsShortenIsShortest.f k a0 a1 a2) (crossbarlaw06_DigitsShortenIsShortest.f (k + 1) a0 a1 a2) := by
  intro a0 a1 a2 k
  unfold crossbarlaw06_DigitsShortenIsShortest.f
  repeat' first
      | (with_reducible exact crossbarlaw06_sane.mono _)
      | (with_reducible exact LeO.refl _)
      | (with_reducible exact LeO.none _)
      | (with_reducible refine LeO.ite ?_ ?_)
      | (with_reducible refine LeO.bind ?_ (fun _ => ?_))
      | exact crossbarlaw06_sane.mono _
      | exact LeO.none _
      | refine LeO.ite ?_ ?_
      | refine LeO.bind ?_ (fun _ => ?_)
set_option maxHeartbeats 8000000 in
set_option maxRecDepth 100000 in
theorem crossbarlaw06_DigitsShortenIsShortest.calls (k : Nat) (a0 : ByteArray) (a1 : ByteArray) (a2 : ByteArray) (r : Bool) (w : World) (h : crossbarlaw06_DigitsShortenIsShortest.f k a0 a1 a2 = some r) :
    Calls Try.prog 6 #[.string a0, .string a1, .string a2] w fun e w' => e = .returned (.bool r) ∧ Below w.heap.size w w' := by
  have HB := Aside0.mk (Below.refl w.heap.size w)
  have H : ((crossbarlaw06_sane.f k).bind fun t255 => (if t255 = true then ((crossbarlaw06_short.f a0 a1 a2).bind fun t256 => (if t256 = true then ((digits_Normalize.f a0 a1 a2).bind fun bt257 => (if bt257.2 = 0 then ((digits_Shorten.f bt257.1 a1 a2).bind fun bt259 => (if bt259.2 = 0 then ((digits_Valid.f bt257.1).bind fun t261 => (if t261 = true then (if (bt259.1.size : Int) ≤ (a0.size : Int) then (if (bt259.1.size : Int) < (a0.size : Int) then (some true) else (some (bt259.1.toList == a0.toList))) else (some false)) else (some false))) else (some false))) else (some (bt257.1.toList == ([] : List UInt8))))) else (some true))) else (some false))) = some r := h
  clear h
  replace H := Option.bind_eq_some_iff.mp H
  obtain ⟨t255, A40, H⟩ := H
  replace H : (if t255 = true then ((crossbarlaw06_short.f a0 a1 a2).bind fun t256 => (if t256 = true then ((digits_Normalize.f a0 a1 a2).bind fun bt257 => (if bt257.2 = 0 then ((digits_Shorten.f bt257.1 a1 a2).bind fun bt259 => (if bt259.2 = 0 then ((digits_Valid.f bt257.1).bind fun t261 => (if t261 = true then (if (bt259.1.size : Int) ≤ (a0.size : Int) then (if (bt259.1.size : Int) < (a0.size : Int) then (some true) else (some (bt259.1.toList == a0.toList))) else (some false)) else (some false))) else (some false))) else (some (bt257.1.toList == ([] : List UInt8))))) else (some true))) else (some false)) = some r := H
  have A4 := Aside0.mk A40
  clear A40
  by_cases c5 : t255 = true
  · subst c5
    have H1 : ((crossbarlaw06_short.f a0 a1 a2).bind fun t256 => (if t256 = true then ((digits_Normalize.f a0 a1 a2).bind fun bt257 => (if bt257.2 = 0 then ((digits_Shorten.f bt257.1 a1 a2).bind fun bt259 => (if bt259.2 = 0 then ((digits_Valid.f bt257.1).bind fun t261 => (if t261 = true then (if (bt259.1.size : Int) ≤ (a0.size : Int) then (if (bt259.1.size : Int) < (a0.size : Int) then (some true) else (some (bt259.1.toList == a0.toList))) else (some false)) else (some false))) else (some false))) else (some (bt257.1.toList == ([] : List UInt8))))) else (some true))) = some r := by rw [if_pos rfl] at H; exact H
    clear H
    have H := H1
    clear H1
    replace H := Option.bind_eq_some_iff.mp H
    obtain ⟨t256, A60, H⟩ := H
    replace H : (if t256 = true then ((digits_Normalize.f a0 a1 a2).bind fun bt257 => (if bt257.2 = 0 then ((digits_Shorten.f bt257.1 a1 a2).bind fun bt259 => (if bt259.2 = 0 then ((digits_Valid.f bt257.1).bind fun t261 => (if t261 = true then (if (bt259.1.size : Int) ≤ (a0.size : Int) then (if (bt259.1.size : Int) < (a0.size : Int) then (some true) else (some (bt259.1.toList == a0.toList))) else (some false)) else (some false))) else (some false))) else (some (bt257.1.toList == ([] : List UInt8))))) else (some true)) = some r := H
    have A6 := Aside0.mk A60
    clear A60
    by_cases c7 : t256 = true
    · subst c7
      have H1 : ((digits_Normalize.f a0 a1 a2).bind fun bt257 => (if bt257.2 = 0 then ((digits_Shorten.f bt257.1 a1 a2).bind fun bt259 => (if bt259.2 = 0 then ((digits_Valid.f bt257.1).bind fun t261 => (if t261 = true then (if (bt259.1.size : Int) ≤ (a0.size : Int) then (if (bt259.1.size : Int) < (a0.size : Int) then (some true) else (some (bt259.1.toList == a0.toList))) else (some false)) else (some false))) else (some false))) else (some (bt257.1.toList == ([] : List UInt8))))) = some r := by rw [if_pos rfl] at H; exact H
      clear H
      have H := H1
      clear H1
      replace H := Option.bind_eq_some_iff.mp H
      obtain ⟨⟨t257, t258⟩, A80, H⟩ := H
      replace H : (if t258 = 0 then ((digits_Shorten.f t257 a1 a2).bind fun bt259 => (if bt259.2 = 0 then ((digits_Valid.f t257).bind fun t261 => (if t261 = true then (if (bt259.1.size : Int) ≤ (a0.size : Int) then (if (bt259.1.size : Int) < (a0.size : Int) then (some true) else (some (bt259.1.toList == a0.toList))) else (some false)) else (some false))) else (some false))) else (some (t257.toList == ([] : List UInt8)))) = some r := H
      have A8 := Aside0.mk A80
      clear A80
      by_cases c9 : t258 = 0
      · rw [if_pos c9] at H
        have c9b0 : (t258 == 0) = true := beq_iff_eq.mpr c9
        have c9b1 : (t258 != 0) = false := bne_eq_false_iff_eq.mpr c9
        clear c9
        replace H := Option.bind_eq_some_iff.mp H
        obtain ⟨⟨t259, t260⟩, A100, H⟩ := H
        replace H : (if t260 = 0 then ((digits_Valid.f t257).bind fun t261 => (if t261 = true then (if (t259.size : Int) ≤ (a0.size : Int) then (if (t259.size : Int) < (a0.size : Int) then (some true) else (some (t259.toList == a0.toList))) else (some false)) else (some false))) else (some false)) = some r := H
        have A10 := Aside0.mk A100
        clear A100
        by_cases c11 : t260 = 0
        · rw [if_pos c11] at H
          have c11b0 : (t260 == 0) = true := beq_iff_eq.mpr c11
          have c11b1 : (t260 != 0) = false := bne_eq_false_iff_eq.mpr c11
          clear c11
          replace H := Option.bind_eq_some_iff.mp H
          obtain ⟨t261, A120, H⟩ := H
          replace H : (if t261 = true then (if (t259.size : Int) ≤ (a0.size : Int) then (if (t259.size : Int) < (a0.size : Int) then (some true) else (some (t259.toList == a0.toList))) else (some false)) else (some false)) = some r := H
          have A12 := Aside0.mk A120
          clear A120
          by_cases c13 : t261 = true
          · subst c13
            have H1 : (if (t259.size : Int) ≤ (a0.size : Int) then (if (t259.size : Int) < (a0.size : Int) then (some true) else (some (t259.toList == a0.toList))) else (some false)) = some r := by rw [if_pos rfl] at H; exact H
            clear H
            have H := H1
            clear H1
            by_cases c14 : (t259.size : Int) ≤ (a0.size : Int)
            · rw [if_pos c14] at H
              have c14b0 : decide ((t259.size : Int) ≤ (a0.size : Int)) = true := decide_eq_true c14
              have c14b1 : decide (t259.size ≤ a0.size) = true := decide_eq_true (Int.ofNat_le.mp c14)
              clear c14
              by_cases c15 : (t259.size : Int) < (a0.size : Int)
              · rw [if_pos c15] at H
                have c15b0 : decide ((t259.size : Int) < (a0.size : Int)) = true := decide_eq_true c15
                have c15b1 : decide (t259.size < a0.size) = true := decide_eq_true (Int.ofNat_lt.mp c15)
                clear c15
                obtain rfl := Option.some.inj H
                go_enter Try.func6, Try.ntmps6
                go_wp2_with (first | ((with_reducible refine gate_callee (f := 12) rfl ?_); refine goesL_ (some 11) rfl rfl Try.func12 (by kernel_rfl) rfl #[] rfl (by (try simp only [List.map_toArray, List.map_cons, List.map_nil]); first | done | rfl | (simp only [List.length_drop, List.length_take]; rfl)) ?_; (with_reducible refine (crossbarlaw06_sane.calls k  true _ A4.out).mono ?_); rintro e w16 ⟨rfl, hb⟩; refine ⟨_, rfl, ?_⟩; have n0_ := Aside0.mk (below_step (by repeat (first | (with_reducible first | exact HB.out | apply below_alloc | apply pw_below_drewN | apply below_drew1) | exact HB.out)) hb); clear HB; have HB := n0_; clear n0_; (try clear hb); (try clear hb2); (try clear hk); (try clear hi)) | ((with_reducible refine gate_callee (f := 13) rfl ?_); refine goesL_ (some 16) rfl rfl Try.func13 (by kernel_rfl) rfl #[.string a0, .string a1, .string a2] rfl (by (try simp only [List.map_toArray, List.map_cons, List.map_nil]); first | done | rfl | (simp only [List.length_drop, List.length_take]; rfl)) ?_; (with_reducible refine (crossbarlaw06_short.calls a0 a1 a2 true _ A6.out).mono ?_); rintro e w' ⟨rfl, ⟨nd, rfl⟩⟩; refine ⟨_, rfl, ?_⟩) | ((with_reducible refine gate_callee (f := 14) rfl ?_); refine goesL_ (some 22) rfl rfl Try.func14 (by kernel_rfl) rfl #[.string a0, .string a1, .string a2] rfl (by (try simp only [List.map_toArray, List.map_cons, List.map_nil]); first | done | rfl | (simp only [List.length_drop, List.length_take]; rfl)) ?_; (with_reducible refine (digits_Normalize.calls a0 a1 a2 t257 t258 _ A8.out).mono ?_); rintro e w17 ⟨rfl, hb⟩; refine ⟨_, rfl, ?_⟩; have n0_ := Aside0.mk (below_step (by repeat (first | (with_reducible first | exact HB.out | apply below_alloc | apply pw_below_drewN | apply below_drew1) | exact HB.out)) hb); clear HB; have HB := n0_; clear n0_; (try clear hb); (try clear hb2); (try clear hk); (try clear hi)) | ((with_reducible refine gate_callee (f := 16) rfl ?_); refine goesL_ (some 33) rfl rfl Try.func16 (by kernel_rfl) rfl #[.string t257, .string a1, .string a2] rfl (by (try simp only [List.map_toArray, List.map_cons, List.map_nil]); first | done | rfl | (simp only [List.length_drop, List.length_take]; rfl)) ?_; (with_reducible refine (digits_Shorten.calls t257 a1 a2 t259 t260 _ A10.out).mono ?_); rintro e w18 ⟨rfl, hb⟩; refine ⟨_, rfl, ?_⟩; have n0_ := Aside0.mk (below_step (by repeat (first | (with_reducible first | exact HB.out | apply below_alloc | apply pw_below_drewN | apply below_drew1) | exact HB.out)) hb); clear HB; have HB := n0_; clear n0_; (try clear hb); (try clear hb2); (try clear hk); (try clear hi)) | (go_at_call 18; (with_reducible refine (digits_Valid.calls t257 true _ A12.out).mono ?_); rintro e w19 ⟨rfl, hb⟩; have n0_ := Aside0.mk (below_step (by repeat (first | (with_reducible first | exact HB.out | apply below_alloc | apply pw_below_drewN | apply below_drew1) | exact HB.out)) hb); clear HB; have HB := n0_; clear n0_; (try clear hb); (try clear hb2); (try clear hk); (try clear hi)))
                go_ret
                exact ⟨by first | rfl | (simp [errW_none, errW_some] <;> rfl) | (simp [*, errW_none, errW_some] <;> rfl), by repeat (first | (with_reducible first | exact HB.out | apply below_alloc | apply pw_below_drewN | apply below_drew1) | exact HB.out)⟩
              · rw [if_neg c15] at H
                have c15b0 : decide ((t259.size : Int) < (a0.size : Int)) = false := decide_eq_false c15
                have c15b1 : decide (t259.size < a0.size) = false := decide_eq_false (fun h => c15 (Int.ofNat_lt.mpr h))
                clear c15
                obtain rfl := Option.some.inj H
                go_enter Try.func6, Try.ntmps6
                go_wp2_with (first | ((with_reducible refine gate_callee (f := 12) rfl ?_); refine goesL_ (some 11) rfl rfl Try.func12 (by kernel_rfl) rfl #[] rfl (by (try simp only [List.map_toArray, List.map_cons, List.map_nil]); first | done | rfl | (simp only [List.length_drop, List.length_take]; rfl)) ?_; (with_reducible refine (crossbarlaw06_sane.calls k  true _ A4.out).mono ?_); rintro e w20 ⟨rfl, hb⟩; refine ⟨_, rfl, ?_⟩; have n0_ := Aside0.mk (below_step (by repeat (first | (with_reducible first | exact HB.out | apply below_alloc | apply pw_below_drewN | apply below_drew1) | exact HB.out)) hb); clear HB; have HB := n0_; clear n0_; (try clear hb); (try clear hb2); (try clear hk); (try clear hi)) | ((with_reducible refine gate_callee (f := 13) rfl ?_); refine goesL_ (some 16) rfl rfl Try.func13 (by kernel_rfl) rfl #[.string a0, .string a1, .string a2] rfl (by (try simp only [List.map_toArray, List.map_cons, List.map_nil]); first | done | rfl | (simp only [List.length_drop, List.length_take]; rfl)) ?_; (with_reducible refine (crossbarlaw06_short.calls a0 a1 a2 true _ A6.out).mono ?_); rintro e w' ⟨rfl, ⟨nd, rfl⟩⟩; refine ⟨_, rfl, ?_⟩) | ((with_reducible refine gate_callee (f := 14) rfl ?_); refine goesL_ (some 22) rfl rfl Try.func14 (by kernel_rfl) rfl #[.string a0, .string a1, .string a2] rfl (by (try simp only [List.map_toArray, List.map_cons, List.map_nil]); first | done | rfl | (simp only [List.length_drop, List.length_take]; rfl)) ?_; (with_reducible refine (digits_Normalize.calls a0 a1 a2 t257 t258 _ A8.out).mono ?_); rintro e w21 ⟨rfl, hb⟩; refine ⟨_, rfl, ?_⟩; have n0_ := Aside0.mk (below_step (by repeat (first | (with_reducible first | exact HB.out | apply below_alloc | apply pw_below_drewN | apply below_drew1) | exact HB.out)) hb); clear HB; have HB := n0_; clear n0_; (try clear hb); (try clear hb2); (try clear hk); (try clear hi)) | ((with_reducible refine gate_callee (f := 16) rfl ?_); refine goesL_ (some 33) rfl rfl Try.func16 (by kernel_rfl) rfl #[.string t257, .string a1, .string a2] rfl (by (try simp only [List.map_toArray, List.map_cons, List.map_nil]); first | done | rfl | (simp only [List.length_drop, List.length_take]; rfl)) ?_; (with_reducible refine (digits_Shorten.calls t257 a1 a2 t259 t260 _ A10.out).mono ?_); rintro e w22 ⟨rfl, hb⟩; refine ⟨_, rfl, ?_⟩; have n0_ := Aside0.mk (below_step (by repeat (first | (with_reducible first | exact HB.out | apply below_alloc | apply pw_below_drewN | apply below_drew1) | exact HB.out)) hb); clear HB; have HB := n0_; clear n0_; (try clear hb); (try clear hb2); (try clear hk); (try clear hi)) | (go_at_call 18; (with_reducible refine (digits_Valid.calls t257 true _ A12.out).mono ?_); rintro e w23 ⟨rfl, hb⟩; have n0_ := Aside0.mk (below_step (by repeat (first | (with_reducible first | exact HB.out | apply below_alloc | apply pw_below_drewN | apply below_drew1) | exact HB.out)) hb); clear HB; have HB := n0_; clear n0_; (try clear hb); (try clear hb2); (try clear hk); (try clear hi)))
                go_ret
                exact ⟨by first | rfl | (simp [errW_none, errW_some] <;> rfl) | (simp [*, errW_none, errW_some] <;> rfl), by repeat (first | (with_reducible first | exact HB.out | apply below_alloc | apply pw_below_drewN | apply below_drew1) | exact HB.out)⟩
            · rw [if_neg c14] at H
              have c14b0 : decide ((t259.size : Int) ≤ (a0.size : Int)) = false := decide_eq_false c14
              have c14b1 : decide (t259.size ≤ a0.size) = false := decide_eq_false (fun h => c14 (Int.ofNat_le.mpr h))
              clear c14
              obtain rfl := Option.some.inj H
              go_enter Try.func6, Try.ntmps6
              go_wp2_with (first | ((with_reducible refine gate_callee (f := 12) rfl ?_); refine goesL_ (some 11) rfl rfl Try.func12 (by kernel_rfl) rfl #[] rfl (by (try simp only [List.map_toArray, List.map_cons, List.map_nil]); first | done | rfl | (simp only [List.length_drop, List.length_take]; rfl)) ?_; (with_reducible refine (crossbarlaw06_sane.calls k  true _ A4.out).mono ?_); rintro e w24 ⟨rfl, hb⟩; refine ⟨_, rfl, ?_⟩; have n0_ := Aside0.mk (below_step (by repeat (first | (with_reducible first | exact HB.out | apply below_alloc | apply pw_below_drewN | apply below_drew1) | exact HB.out)) hb); clear HB; have HB := n0_; clear n0_; (try clear hb); (try clear hb2); (try clear hk); (try clear hi)) | ((with_reducible refine gate_callee (f := 13) rfl ?_); refine goesL_ (some 16) rfl rfl Try.func13 (by kernel_rfl) rfl #[.string a0, .string a1, .string a2] rfl (by (try simp only [List.map_toArray, List.map_cons, List.map_nil]); first | done | rfl | (simp only [List.length_drop, List.length_take]; rfl)) ?_; (with_reducible refine (crossbarlaw06_short.calls a0 a1 a2 true _ A6.out).mono ?_); rintro e w' ⟨rfl, ⟨nd, rfl⟩⟩; refine ⟨_, rfl, ?_⟩) | ((with_reducible refine gate_callee (f := 14) rfl ?_); refine goesL_ (some 22) rfl rfl Try.func14 (by kernel_rfl) rfl #[.string a0, .string a1, .string a2] rfl (by (try simp only [List.map_toArray, List.map_cons, List.map_nil]); first | done | rfl | (simp only [List.length_drop, List.length_take]; rfl)) ?_; (with_reducible refine (digits_Normalize.calls a0 a1 a2 t257 t258 _ A8.out).mono ?_); rintro e w25 ⟨rfl, hb⟩; refine ⟨_, rfl, ?_⟩; have n0_ := Aside0.mk (below_step (by repeat (first | (with_reducible first | exact HB.out | apply below_alloc | apply pw_below_drewN | apply below_drew1) | exact HB.out)) hb); clear HB; have HB := n0_; clear n0_; (try clear hb); (try clear hb2); (try clear hk); (try clear hi)) | ((with_reducible refine gate_callee (f := 16) rfl ?_); refine goesL_ (some 33) rfl rfl Try.func16 (by kernel_rfl) rfl #[.string t257, .string a1, .string a2] rfl (by (try simp only [List.map_toArray, List.map_cons, List.map_nil]); first | done | rfl | (simp only [List.length_drop, List.length_take]; rfl)) ?_; (with_reducible refine (digits_Shorten.calls t257 a1 a2 t259 t260 _ A10.out).mono ?_); rintro e w26 ⟨rfl, hb⟩; refine ⟨_, rfl, ?_⟩; have n0_ := Aside0.mk (below_step (by repeat (first | (with_reducible first | exact HB.out | apply below_alloc | apply pw_below_drewN | apply below_drew1) | exact HB.out)) hb); clear HB; have HB := n0_; clear n0_; (try clear hb); (try clear hb2); (try clear hk); (try clear hi)) | (go_at_call 18; (with_reducible refine (digits_Valid.calls t257 true _ A12.out).mono ?_); rintro e w27 ⟨rfl, hb⟩; have n0_ := Aside0.mk (below_step (by repeat (first | (with_reducible first | exact HB.out | apply below_alloc | apply pw_below_drewN | apply below_drew1) | exact HB.out)) hb); clear HB; have HB := n0_; clear n0_; (try clear hb); (try clear hb2); (try clear hk); (try clear hi)))
              go_ret
              exact ⟨by first | rfl | (simp [errW_none, errW_some] <;> rfl) | (simp [*, errW_none, errW_some] <;> rfl), by repeat (first | (with_reducible first | exact HB.out | apply below_alloc | apply pw_below_drewN | apply below_drew1) | exact HB.out)⟩
          · replace c13 := Bool.eq_false_iff.mpr c13
            subst c13
            have H1 : (some false) = some r := by rw [if_neg (show ¬ (false = true) by decide)] at H; exact H
            clear H
            have H := H1
            clear H1
            obtain rfl := Option.some.inj H
            go_enter Try.func6, Try.ntmps6
            go_wp2_with (first | ((with_reducible refine gate_callee (f := 12) rfl ?_); refine goesL_ (some 11) rfl rfl Try.func12 (by kernel_rfl) rfl #[] rfl (by (try simp only [List.map_toArray, List.map_cons, List.map_nil]); first | done | rfl | (simp only [List.length_drop, List.length_take]; rfl)) ?_; (with_reducible refine (crossbarlaw06_sane.calls k  true _ A4.out).mono ?_); rintro e w28 ⟨rfl, hb⟩; refine ⟨_, rfl, ?_⟩; have n0_ := Aside0.mk (below_step (by repeat (first | (with_reducible first | exact HB.out | apply below_alloc | apply pw_below_drewN | apply below_drew1) | exact HB.out)) hb); clear HB; have HB := n0_; clear n0_; (try clear hb); (try clear hb2); (try clear hk); (try clear hi)) | ((with_reducible refine gate_callee (f := 13) rfl ?_); refine goesL_ (some 16) rfl rfl Try.func13 (by kernel_rfl) rfl #[.string a0, .string a1, .string a2] rfl (by (try simp only [List.map_toArray, List.map_cons, List.map_nil]); first | done | rfl | (simp only [List.length_drop, List.length_take]; rfl)) ?_; (with_reducible refine (crossbarlaw06_short.calls a0 a1 a2 true _ A6.out).mono ?_); rintro e w' ⟨rfl, ⟨nd, rfl⟩⟩; refine ⟨_, rfl, ?_⟩) | ((with_reducible refine gate_callee (f := 14) rfl ?_); refine goesL_ (some 22) rfl rfl Try.func14 (by kernel_rfl) rfl #[.string a0, .string a1, .string a2] rfl (by (try simp only [List.map_toArray, List.map_cons, List.map_nil]); first | done | rfl | (simp only [List.length_drop, List.length_take]; rfl)) ?_; (with_reducible refine (digits_Normalize.calls a0 a1 a2 t257 t258 _ A8.out).mono ?_); rintro e w29 ⟨rfl, hb⟩; refine ⟨_, rfl, ?_⟩; have n0_ := Aside0.mk (below_step (by repeat (first | (with_reducible first | exact HB.out | apply below_alloc | apply pw_below_drewN | apply below_drew1) | exact HB.out)) hb); clear HB; have HB := n0_; clear n0_; (try clear hb); (try clear hb2); (try clear hk); (try clear hi)) | ((with_reducible refine gate_callee (f := 16) rfl ?_); refine goesL_ (some 33) rfl rfl Try.func16 (by kernel_rfl) rfl #[.string t257, .string a1, .string a2] rfl (by (try simp only [List.map_toArray, List.map_cons, List.map_nil]); first | done | rfl | (simp only [List.length_drop, List.length_take]; rfl)) ?_; (with_reducible refine (digits_Shorten.calls t257 a1 a2 t259 t260 _ A10.out).mono ?_); rintro e w30 ⟨rfl, hb⟩; refine ⟨_, rfl, ?_⟩; have n0_ := Aside0.mk (below_step (by repeat (first | (with_reducible first | exact HB.out | apply below_alloc | apply pw_below_drewN | apply below_drew1) | exact HB.out)) hb); clear HB; have HB := n0_; clear n0_; (try clear hb); (try clear hb2); (try clear hk); (try clear hi)) | (go_at_call 18; (with_reducible refine (digits_Valid.calls t257 false _ A12.out).mono ?_); rintro e w31 ⟨rfl, hb⟩; have n0_ := Aside0.mk (below_step (by repeat (first | (with_reducible first | exact HB.out | apply below_alloc | apply pw_below_drewN | apply below_drew1) | exact HB.out)) hb); clear HB; have HB := n0_; clear n0_; (try clear hb); (try clear hb2); (try clear hk); (try clear hi)))
            go_ret
            exact ⟨by first | rfl | (simp [errW_none, errW_some] <;> rfl) | (simp [*, errW_none, errW_some] <;> rfl), by repeat (first | (with_reducible first | exact HB.out | apply below_alloc | apply pw_below_drewN | apply below_drew1) | exact HB.out)⟩
        · rw [if_neg c11] at H
          have c11b0 : (t260 == 0) = false := beq_eq_false_iff_ne.mpr c11
          have c11b1 : (t260 != 0) = true := bne_iff_ne.mpr c11
          obtain rfl := Option.some.inj H
          go_enter Try.func6, Try.ntmps6
          go_wp2_with (first | ((with_reducible refine gate_callee (f := 12) rfl ?_); refine goesL_ (some 11) rfl rfl Try.func12 (by kernel_rfl) rfl #[] rfl (by (try simp only [List.map_toArray, List.map_cons, List.map_nil]); first | done | rfl | (simp only [List.length_drop, List.length_take]; rfl)) ?_; (with_reducible refine (crossbarlaw06_sane.calls k  true _ A4.out).mono ?_); rintro e w32 ⟨rfl, hb⟩; refine ⟨_, rfl, ?_⟩; have n0_ := Aside0.mk (below_step (by repeat (first | (with_reducible first | exact HB.out | apply below_alloc | apply pw_below_drewN | apply below_drew1) | exact HB.out)) hb); clear HB; have HB := n0_; clear n0_; (try clear hb); (try clear hb2); (try clear hk); (try clear hi)) | ((with_reducible refine gate_callee (f := 13) rfl ?_); refine goesL_ (some 16) rfl rfl Try.func13 (by kernel_rfl) rfl #[.string a0, .string a1, .string a2] rfl (by (try simp only [List.map_toArray, List.map_cons, List.map_nil]); first | done | rfl | (simp only [List.length_drop, List.length_take]; rfl)) ?_; (with_reducible refine (crossbarlaw06_short.calls a0 a1 a2 true _ A6.out).mono ?_); rintro e w' ⟨rfl, ⟨nd, rfl⟩⟩; refine ⟨_, rfl, ?_⟩) | ((with_reducible refine gate_callee (f := 14) rfl ?_); refine goesL_ (some 22) rfl rfl Try.func14 (by kernel_rfl) rfl #[.string a0, .string a1, .string a2] rfl (by (try simp only [List.map_toArray, List.map_cons, List.map_nil]); first | done | rfl | (simp only [List.length_drop, List.length_take]; rfl)) ?_; (with_reducible refine (digits_Normalize.calls a0 a1 a2 t257 t258 _ A8.out).mono ?_); rintro e w33 ⟨rfl, hb⟩; refine ⟨_, rfl, ?_⟩; have n0_ := Aside0.mk (below_step (by repeat (first | (with_reducible first | exact HB.out | apply below_alloc | apply pw_below_drewN | apply below_drew1) | exact HB.out)) hb); clear HB; have HB := n0_; clear n0_; (try clear hb); (try clear hb2); (try clear hk); (try clear hi)) | ((with_reducible refine gate_callee (f := 16) rfl ?_); refine goesL_ (some 33) rfl rfl Try.func16 (by kernel_rfl) rfl #[.string t257, .string a1, .string a2] rfl (by (try simp only [List.map_toArray, List.map_cons, List.map_nil]); first | done | rfl | (simp only [List.length_drop, List.length_take]; rfl)) ?_; (with_reducible refine (digits_Shorten.calls t257 a1 a2 t259 t260 _ A10.out).mono ?_); rintro e w34 ⟨rfl, hb⟩; refine ⟨_, rfl, ?_⟩; have n0_ := Aside0.mk (below_step (by repeat (first | (with_reducible first | exact HB.out | apply below_alloc | apply pw_below_drewN | apply below_drew1) | exact HB.out)) hb); clear HB; have HB := n0_; clear n0_; (try clear hb); (try clear hb2); (try clear hk); (try clear hi)))
          go_ret
          exact ⟨by first | rfl | (simp [errW_none, errW_some] <;> rfl) | (simp [*, errW_none, errW_some] <;> rfl), by repeat (first | (with_reducible first | exact HB.out | apply below_alloc | apply pw_below_drewN | apply below_drew1) | exact HB.out)⟩
      · rw [if_neg c9] at H
        have c9b0 : (t258 == 0) = false := beq_eq_false_iff_ne.mpr c9
        have c9b1 : (t258 != 0) = true := bne_iff_ne.mpr c9
        obtain rfl := Option.some.inj H
        go_enter Try.func6, Try.ntmps6
        go_wp2_with (first | ((with_reducible refine gate_callee (f := 12) rfl ?_); refine goesL_ (some 11) rfl rfl Try.func12 (by kernel_rfl) rfl #[] rfl (by (try simp only [List.map_toArray, List.map_cons, List.map_nil]); first | done | rfl | (simp only [List.length_drop, List.length_take]; rfl)) ?_; (with_reducible refine (crossbarlaw06_sane.calls k  true _ A4.out).mono ?_); rintro e w35 ⟨rfl, hb⟩; refine ⟨_, rfl, ?_⟩; have n0_ := Aside0.mk (below_step (by repeat (first | (with_reducible first | exact HB.out | apply below_alloc | apply pw_below_drewN | apply below_drew1) | exact HB.out)) hb); clear HB; have HB := n0_; clear n0_; (try clear hb); (try clear hb2); (try clear hk); (try clear hi)) | ((with_reducible refine gate_callee (f := 13) rfl ?_); refine goesL_ (some 16) rfl rfl Try.func13 (by kernel_rfl) rfl #[.string a0, .string a1, .string a2] rfl (by (try simp only [List.map_toArray, List.map_cons, List.map_nil]); first | done | rfl | (simp only [List.length_drop, List.length_take]; rfl)) ?_; (with_reducible refine (crossbarlaw06_short.calls a0 a1 a2 true _ A6.out).mono ?_); rintro e w' ⟨rfl, ⟨nd, rfl⟩⟩; refine ⟨_, rfl, ?_⟩) | ((with_reducible refine gate_callee (f := 14) rfl ?_); refine goesL_ (some 22) rfl rfl Try.func14 (by kernel_rfl) rfl #[.string a0, .string a1, .string a2] rfl (by (try simp only [List.map_toArray, List.map_cons, List.map_nil]); first | done | rfl | (simp only [List.length_drop, List.length_take]; rfl)) ?_; (with_reducible refine (digits_Normalize.calls a0 a1 a2 t257 t258 _ A8.out).mono ?_); rintro e w36 ⟨rfl, hb⟩; refine ⟨_, rfl, ?_⟩; have n0_ := Aside0.mk (below_step (by repeat (first | (with_reducible first | exact HB.out | apply below_alloc | apply pw_below_drewN | apply below_drew1) | exact HB.out)) hb); clear HB; have HB := n0_; clear n0_; (try clear hb); (try clear hb2); (try clear hk); (try clear hi)))
        go_ret
        exact ⟨by first | rfl | (simp [errW_none, errW_some] <;> rfl) | (simp [*, errW_none, errW_some] <;> rfl), by repeat (first | (with_reducible first | exact HB.out | apply below_alloc | apply pw_below_drewN | apply below_drew1) | exact HB.out)⟩
    · replace c7 := Bool.eq_false_iff.mpr c7
      subst c7
      have H1 : (some true) = some r := by rw [if_neg (show ¬ (false = true) by decide)] at H; exact H
      clear H
      have H := H1
      clear H1
      obtain rfl := Option.some.inj H
      go_enter Try.func6, Try.ntmps6
      go_wp2_with (first | ((with_reducible refine gate_callee (f := 12) rfl ?_); refine goesL_ (some 11) rfl rfl Try.func12 (by kernel_rfl) rfl #[] rfl (by (try simp only [List.map_toArray, List.map_cons, List.map_nil]); first | done | rfl | (simp only [List.length_drop, List.length_take]; rfl)) ?_; (with_reducible refine (crossbarlaw06_sane.calls k  true _ A4.out).mono ?_); rintro e w37 ⟨rfl, hb⟩; refine ⟨_, rfl, ?_⟩; have n0_ := Aside0.mk (below_step (by repeat (first | (with_reducible first | exact HB.out | apply below_alloc | apply pw_below_drewN | apply below_drew1) | exact HB.out)) hb); clear HB; have HB := n0_; clear n0_; (try clear hb); (try clear hb2); (try clear hk); (try clear hi)) | ((with_reducible refine gate_callee (f := 13) rfl ?_); refine goesL_ (some 16) rfl rfl Try.func13 (by kernel_rfl) rfl #[.string a0, .string a1, .string a2] rfl (by (try simp only [List.map_toArray, List.map_cons, List.map_nil]); first | done | rfl | (simp only [List.length_drop, List.length_take]; rfl)) ?_; (with_reducible refine (crossbarlaw06_short.calls a0 a1 a2 false _ A6.out).mono ?_); rintro e w' ⟨rfl, ⟨nd, rfl⟩⟩; refine ⟨_, rfl, ?_⟩))
      go_ret
      exact ⟨by first | rfl | (simp [errW_none, errW_some] <;> rfl) | (simp [*, errW_none, errW_some] <;> rfl), by repeat (first | (with_reducible first | exact HB.out | apply below_alloc | apply pw_below_drewN | apply below_drew1) | exact HB.out)⟩
  · replace c5 := Bool.eq_false_iff.mpr c5
    subst c5
    have H1 : (some false) = some r := by rw [if_neg (show ¬ (false = true) by decide)] at H; exact H
    clear H
    have H := H1
    clear H1
    obtain rfl := Option.some.inj H
    go_enter Try.func6, Try.ntmps6
    go_wp2_with (first | ((with_reducible refine gate_callee (f := 12) rfl ?_); refine goesL_ (some 11) rfl rfl Try.func12 (by kernel_rfl) rfl #[] rfl (by (try simp only [List.map_toArray, List.map_cons, List.map_nil]); first | done | rfl | (simp only [List.length_drop, List.length_take]; rfl)) ?_; (with_reducible refine (crossbarlaw06_sane.calls k  false _ A4.out).mono ?_); rintro e w38 ⟨rfl, hb⟩; refine ⟨_, rfl, ?_⟩; have n0_ := Aside0.mk (below_step (by repeat (first | (with_reducible first | exact HB.out | apply below_alloc | apply pw_below_drewN | apply below_drew1) | exact HB.out)) hb); clear HB; have HB := n0_; clear n0_; (try clear hb); (try clear hb2); (try clear hk); (try clear hi)))
    go_ret
    exact ⟨by first | rfl | (simp [errW_none, errW_some] <;> rfl) | (simp [*, errW_none, errW_some] <;> rfl), by repeat (first | (with_reducible first | exact HB.out | apply below_alloc | apply pw_below_drewN | apply below_drew1) | exact HB.out)⟩

/-- THE ONE PURE STATEMENT of crossbarlaw06_DigitsShortenIsShortest: yours. -/
def crossbarlaw06_DigitsShortenIsShortest.Pure : Prop := ∀ (a0 : ByteArray) (a1 : ByteArray) (a2 : ByteArray), a0.size ≤ 140737488351232 → a1.size ≤ 140737488351232 → a2.size ≤ 140737488351232 → ∃ k, crossbarlaw06_DigitsShortenIsShortest.f k a0 a1 a2 = some true
theorem crossbarlaw06_DigitsShortenIsShortest.walk (P : crossbarlaw06_DigitsShortenIsShortest.Pure) (a0 : ByteArray) (a1 : ByteArray) (a2 : ByteArray) (w : World) (w0 : a0.size ≤ 140737488351232) (w1 : a1.size ≤ 140737488351232) (w2 : a2.size ≤ 140737488351232) :
    Calls Try.prog 6 #[.string a0, .string a1, .string a2] w fun e w' => e = .returned (.bool true) ∧ Below w.heap.size w w' := by
  obtain ⟨k, h⟩ := P a0 a1 a2 w0 w1 w2
  refine (crossbarlaw06_DigitsShortenIsShortest.calls k a0 a1 a2 true w h).mono ?_
  rintro e w' ⟨rfl, hd⟩
  exact ⟨rfl, hd⟩

/-! ### crossbarlaw06_DigitsFormsAgree: function 7 -/
def crossbarlaw06_DigitsFormsAgree.j0 : Nat → ByteArray → ByteArray → ByteArray → ByteArray → Int → Bool → Option (Bool)
  | 0, _, _, _, _, _, _ => none
  | k + 1, x0, x1, x2, x7, x8, x39 => if x39 = true then (if x8 = 0 then (if (x0.size : Int) > 0 then (some (decide ((x7.size : Int) > 0))) else (some false)) else (some true)) else (if 2 + x1.size ≤ 9223372036854775807 then (if ((⟨#[48, 48]⟩ : ByteArray) ++ x1).size + x2.size ≤ 9223372036854775807 then (if (((⟨#[48, 48]⟩ : ByteArray) ++ x1) ++ x2).size + x0.size ≤ 9223372036854775807 then ((digits_Normalize.f ((((⟨#[48, 48]⟩ : ByteArray) ++ x1) ++ x2) ++ x0) x1 x2).bind fun bt266 => (if 1 + x2.size ≤ 9223372036854775807 then (if ((⟨#[48]⟩ : ByteArray) ++ x2).size + x0.size ≤ 9223372036854775807 then ((digits_Normalize.f (((⟨#[48]⟩ : ByteArray) ++ x2) ++ x0) x1 x2).bind fun bt268 => (if x2.toList = ([] : List UInt8) then (if bt266.2 = 0 then (if bt266.1.toList = x7.toList then (if x1.size + x2.size ≤ 9223372036854775807 then (if (x1 ++ x2).size + x0.size ≤ 9223372036854775807 then (if x7.toList = ((x1 ++ x2) ++ x0).toList then (some true) else (some false)) else (none)) else (none)) else (some false)) else (some false)) else (if 0 < (x2.size : Int) then (if (bt x2 0) = 48 then (if bt266.2 = 0 then (if bt266.1.toList = x7.toList then (if x1.size + x2.size ≤ 9223372036854775807 then (if (x1 ++ x2).size + x0.size ≤ 9223372036854775807 then (if x7.toList = ((x1 ++ x2) ++ x0).toList then (some true) else (some false)) else (none)) else (none)) else (some false)) else (some false)) else (if bt268.2 = 0 then (if bt266.2 = 0 then (if bt266.1.toList = x7.toList then (if x1.size + x2.size ≤ 9223372036854775807 then (if (x1 ++ x2).size + x0.size ≤ 9223372036854775807 then (if x7.toList = ((x1 ++ x2) ++ x0).toList then (some (bt268.1.toList == x7.toList)) else (some false)) else (none)) else (none)) else (some false)) else (some false)) else (if bt266.2 = 0 then (if bt266.1.toList = x7.toList then (if x1.size + x2.size ≤ 9223372036854775807 then (if (x1 ++ x2).size + x0.size ≤ 9223372036854775807 then (if x7.toList = ((x1 ++ x2) ++ x0).toList then (some false) else (some false)) else (none)) else (none)) else (some false)) else (some false)))) else (none)))) else (none)) else (none))) else (none)) else (none)) else (none))
def crossbarlaw06_DigitsFormsAgree.f (k : Nat) (a0 : ByteArray) (a1 : ByteArray) (a2 : ByteArray) : Option (Bool) := (crossbarlaw06_sane.f k).bind fun t262 => (if t262 = true then ((crossbarlaw06_short.f a0 a1 a2).bind fun t263 => (if t263 = true then ((digits_Normalize.f a0 a1 a2).bind fun bt264 => (if bt264.2 = 0 then (if (a0.size : Int) = 0 then (crossbarlaw06_DigitsFormsAgree.j0 k a0 a1 a2 bt264.1 bt264.2 true) else (if 0 < (a0.size : Int) then (crossbarlaw06_DigitsFormsAgree.j0 k a0 a1 a2 bt264.1 bt264.2 ((bt a0 0) == 48)) else (none))) else (crossbarlaw06_DigitsFormsAgree.j0 k a0 a1 a2 bt264.1 bt264.2 true))) else (some true))) else (some false))
theorem crossbarlaw06_DigitsFormsAgree.mono_l : ∀ k, (∀ y0 y1 y2 y3 y4 y5, LeO (crossbarlaw06_DigitsFormsAgree.j0 k y0 y1 y2 y3 y4 y5) (crossbarlaw06_DigitsFormsAgree.j0 (k + 1) y0 y1 y2 y3 y4 y5))
  | 0 => fun _ _ _ _ _ _ r h => by simp [crossbarlaw06_DigitsFormsAgree.j0] at h
  | k + 1 => by
    have ih0 := crossbarlaw06_DigitsFormsAgree.mono_l k
    · intro y0 y1 y2 y3 y4 y5
      unfold crossbarlaw06_DigitsFormsAgree.j0
      repeat' first
      | (with_reducible exact ih0 _ _ _ _ _ _)
      | (with_reducible exact crossbarlaw06_sane.mono _)
      | (with_reducible exact LeO.refl _)
      | (with_reducible exact LeO.none _)
      | (with_reducible refine LeO.ite ?_ ?_)
      | (with_reducible refine LeO.bind ?_ (fun _ => ?_))
      | exact ih0 _ _ _ _ _ _
      | exact crossbarlaw06_sane.mono _
      | exact LeO.none _
      | refine LeO.ite ?_ ?_
      | refine LeO.bind ?_ (fun _ => ?_)
theorem crossbarlaw06_DigitsFormsAgree.mono : ∀ a0 a1 a2 k, LeO (crossbarlaw06_DigitsFormsAgree.f k a0 a1 a2) (crossbarlaw06_DigitsFormsAgree.f (k + 1) a0 a1 a2) := by
  intro a0 a1 a2 k
  have ih0 := crossbarlaw06_DigitsFormsAgree.mono_l k
  unfold crossbarlaw06_DigitsFormsAgree.f
  repeat' first
      | (with_reducible exact ih0 _ _ _ _ _ _)
      | (with_reducible exact crossbarlaw06_sane.mono _)
      | (with_reducible exact LeO.refl _)
      | (with_reducible exact LeO.none _)
      | (with_reducible refine LeO.ite ?_ ?_)
      | (with_reducible refine LeO.bind ?_ (fun _ => ?_))
      | exact ih0 _ _ _ _ _ _
      | exact crossbarlaw06_sane.mono _
      | exact LeO.none _
      | refine LeO.ite ?_ ?_
      | refine LeO.bind ?_ (fun _ => ?_)
set_option maxHeartbeats 8000000 in
set_option maxRecDepth 100000 in
theorem crossbarlaw06_DigitsFormsAgree.calls (k : Nat) (a0 : ByteArray) (a1 : ByteArray) (a2 : ByteArray) (r : Bool) (w : World) (h : crossbarlaw06_DigitsFormsAgree.f k a0 a1 a2 = some r) :
    Calls Try.prog 7 #[.string a0, .string a1, .string a2] w fun e w' => e = .returned (.bool r) ∧ Below w.heap.size w w' := by
  have HB := Aside0.mk (Below.refl w.heap.size w)
  have H : ((crossbarlaw06_sane.f k).bind fun t262 => (if t262 = true then ((crossbarlaw06_short.f a0 a1 a2).bind fun t263 => (if t263 = true then ((digits_Normalize.f a0 a1 a2).bind fun bt264 => (if bt264.2 = 0 then (if (a0.size : Int) = 0 then (crossbarlaw06_DigitsFormsAgree.j0 k a0 a1 a2 bt264.1 bt264.2 true) else (if 0 < (a0.size : Int) then (crossbarlaw06_DigitsFormsAgree.j0 k a0 a1 a2 bt264.1 bt264.2 ((bt a0 0) == 48)) else (none))) else (crossbarlaw06_DigitsFormsAgree.j0 k a0 a1 a2 bt264.1 bt264.2 true))) else (some true))) else (some false))) = some r := h
  clear h
  replace H := Option.bind_eq_some_iff.mp H
  obtain ⟨t262, A40, H⟩ := H
  replace H : (if t262 = true then ((crossbarlaw06_short.f a0 a1 a2).bind fun t263 => (if t263 = true then ((digits_Normalize.f a0 a1 a2).bind fun bt264 => (if bt264.2 = 0 then (if (a0.size : Int) = 0 then (crossbarlaw06_DigitsFormsAgree.j0 k a0 a1 a2 bt264.1 bt264.2 true) else (if 0 < (a0.size : Int) then (crossbarlaw06_DigitsFormsAgree.j0 k a0 a1 a2 bt264.1 bt264.2 ((bt a0 0) == 48)) else (none))) else (crossbarlaw06_DigitsFormsAgree.j0 k a0 a1 a2 bt264.1 bt264.2 true))) else (some true))) else (some false)) = some r := H
  have A4 := Aside0.mk A40
  clear A40
  by_cases c5 : t262 = true
  · subst c5
    have H1 : ((crossbarlaw06_short.f a0 a1 a2).bind fun t263 => (if t263 = true then ((digits_Normalize.f a0 a1 a2).bind fun bt264 => (if bt264.2 = 0 then (if (a0.size : Int) = 0 then (crossbarlaw06_DigitsFormsAgree.j0 k a0 a1 a2 bt264.1 bt264.2 true) else (if 0 < (a0.size : Int) then (crossbarlaw06_DigitsFormsAgree.j0 k a0 a1 a2 bt264.1 bt264.2 ((bt a0 0) == 48)) else (none))) else (crossbarlaw06_DigitsFormsAgree.j0 k a0 a1 a2 bt264.1 bt264.2 true))) else (some true))) = some r := by rw [if_pos rfl] at H; exact H
    clear H
    have H := H1
    clear H1
    replace H := Option.bind_eq_some_iff.mp H
    obtain ⟨t263, A60, H⟩ := H
    replace H : (if t263 = true then ((digits_Normalize.f a0 a1 a2).bind fun bt264 => (if bt264.2 = 0 then (if (a0.size : Int) = 0 then (crossbarlaw06_DigitsFormsAgree.j0 k a0 a1 a2 bt264.1 bt264.2 true) else (if 0 < (a0.size : Int) then (crossbarlaw06_DigitsFormsAgree.j0 k a0 a1 a2 bt264.1 bt264.2 ((bt a0 0) == 48)) else (none))) else (crossbarlaw06_DigitsFormsAgree.j0 k a0 a1 a2 bt264.1 bt264.2 true))) else (some true)) = some r := H
    have A6 := Aside0.mk A60
    clear A60
    by_cases c7 : t263 = true
    · subst c7
      have H1 : ((digits_Normalize.f a0 a1 a2).bind fun bt264 => (if bt264.2 = 0 then (if (a0.size : Int) = 0 then (crossbarlaw06_DigitsFormsAgree.j0 k a0 a1 a2 bt264.1 bt264.2 true) else (if 0 < (a0.size : Int) then (crossbarlaw06_DigitsFormsAgree.j0 k a0 a1 a2 bt264.1 bt264.2 ((bt a0 0) == 48)) else (none))) else (crossbarlaw06_DigitsFormsAgree.j0 k a0 a1 a2 bt264.1 bt264.2 true))) = some r := by rw [if_pos rfl] at H; exact H
      clear H
      have H := H1
      clear H1
      replace H := Option.bind_eq_some_iff.mp H
      obtain ⟨⟨t264, t265⟩, A80, H⟩ := H
      replace H : (if t265 = 0 then (if (a0.size : Int) = 0 then (crossbarlaw06_DigitsFormsAgree.j0 k a0 a1 a2 t264 t265 true) else (if 0 < (a0.size : Int) then (crossbarlaw06_DigitsFormsAgree.j0 k a0 a1 a2 t264 t265 ((bt a0 0) == 48)) else (none))) else (crossbarlaw06_DigitsFormsAgree.j0 k a0 a1 a2 t264 t265 true)) = some r := H
      have A8 := Aside0.mk A80
      clear A80
      have HC9 := Aside0.mk H
      clear H
      go_enter Try.func7, Try.ntmps7
      go_upto_region 6 with (first | ((with_reducible refine gate_callee (f := 12) rfl ?_); refine goesL_ (some 14) rfl rfl Try.func12 (by kernel_rfl) rfl #[] rfl (by (try simp only [List.map_toArray, List.map_cons, List.map_nil]); first | done | rfl | (simp only [List.length_drop, List.length_take]; rfl)) ?_; (with_reducible refine (crossbarlaw06_sane.calls k  true _ A4.out).mono ?_); rintro e w10 ⟨rfl, hb⟩; refine ⟨_, rfl, ?_⟩; have n0_ := Aside0.mk (below_step (by repeat (first | (with_reducible first | exact HB.out | apply below_alloc | apply pw_below_drewN | apply below_drew1) | exact HB.out)) hb); clear HB; have HB := n0_; clear n0_; (try clear hb); (try clear hb2); (try clear hk); (try clear hi)) | ((with_reducible refine gate_callee (f := 13) rfl ?_); refine goesL_ (some 19) rfl rfl Try.func13 (by kernel_rfl) rfl #[.string a0, .string a1, .string a2] rfl (by (try simp only [List.map_toArray, List.map_cons, List.map_nil]); first | done | rfl | (simp only [List.length_drop, List.length_take]; rfl)) ?_; (with_reducible refine (crossbarlaw06_short.calls a0 a1 a2 true _ A6.out).mono ?_); rintro e w' ⟨rfl, ⟨nd, rfl⟩⟩; refine ⟨_, rfl, ?_⟩) | ((with_reducible refine gate_callee (f := 14) rfl ?_); refine goesL_ (some 25) rfl rfl Try.func14 (by kernel_rfl) rfl #[.string a0, .string a1, .string a2] rfl (by (try simp only [List.map_toArray, List.map_cons, List.map_nil]); first | done | rfl | (simp only [List.length_drop, List.length_take]; rfl)) ?_; (with_reducible refine (digits_Normalize.calls a0 a1 a2 t264 t265 _ A8.out).mono ?_); rintro e w11 ⟨rfl, hb⟩; refine ⟨_, rfl, ?_⟩; have n0_ := Aside0.mk (below_step (by repeat (first | (with_reducible first | exact HB.out | apply below_alloc | apply pw_below_drewN | apply below_drew1) | exact HB.out)) hb); clear HB; have HB := n0_; clear n0_; (try clear hb); (try clear hb2); (try clear hk); (try clear hi)))
      (try simp only [Act.put, List.setIfInBounds_toArray, List.set_cons_zero, List.set_cons_succ])
      go_cut [39] (fun v39 wc => ∃ (kq : Nat) (x39_8 : Bool), v39 = .bool x39_8 ∧ Aside0 (crossbarlaw06_DigitsFormsAgree.j0 kq a0 a1 a2 t264 t265 x39_8 = some r) ∧ Aside0 (kq ≤ k) ∧ Aside0 (Below w.heap.size w wc))
      case first =>
        have H := HC9.out
        clear HC9
        by_cases c12 : t265 = 0
        · rw [if_pos c12] at H
          have c12b0 : (t265 == 0) = true := beq_iff_eq.mpr c12
          have c12b1 : (t265 != 0) = false := bne_eq_false_iff_eq.mpr c12
          clear c12
          (first | rw [c12b0] | (simp only [i64_w, i32_w]; rw [c12b0]) | skip)
          by_cases c13 : (a0.size : Int) = 0
          · rw [if_pos c13] at H
            have c13b0 : ((a0.size : Int) == 0) = true := beq_iff_eq.mpr c13
            have c13b1 : ((a0.size : Int) != 0) = false := bne_eq_false_iff_eq.mpr c13
            clear c13
            have H' := Aside0.mk H
            clear H
            go_wp2
            go_meet
            case rel => exact ⟨_, (true), (by first | rfl | (simp; done) | (simp [*]; done)), H', ⟨by first | omega | exact Nat.le_refl _⟩, ⟨by repeat (first | (with_reducible first | exact HB.out | apply below_alloc | apply pw_below_drewN | apply below_drew1) | exact HB.out)⟩⟩
          · rw [if_neg c13] at H
            have c13b0 : ((a0.size : Int) == 0) = false := beq_eq_false_iff_ne.mpr c13
            have c13b1 : ((a0.size : Int) != 0) = true := bne_iff_ne.mpr c13
            by_cases c14 : 0 < (a0.size : Int)
            · rw [if_pos c14] at H
              have c14b0 : decide (0 < (a0.size : Int)) = true := decide_eq_true c14
              have c14b1 : decide (0 < a0.size) = true := decide_eq_true (by omega)
              clear c14
              have H' := Aside0.mk H
              clear H
              have p15 : 0 ≤ (0 : Int) := (by omega)
              have q15 : 0 < a0.size := (by have : (0 : Int) < (a0.size : Int) := of_decide_eq_true (by first | (with_reducible assumption) | assumption); omega)
              have hx15 : ∀ h : 0 < a0.size, ((a0[0]'h).toNat : Int) = bt a0 0 := bt_at a0 0
              clear p15
              have qi15 : (0 < (a0.size : Int)) = True := eq_true (of_decide_eq_true (by first | (with_reducible assumption) | assumption))
              replace q15 := eq_true q15
              go_wp2
              go_meet
              case rel => exact ⟨_, (((bt a0 0) == 48)), (by first | rfl | (simp; done) | (simp [*]; done)), H', ⟨by first | omega | exact Nat.le_refl _⟩, ⟨by repeat (first | (with_reducible first | exact HB.out | apply below_alloc | apply pw_below_drewN | apply below_drew1) | exact HB.out)⟩⟩
            · rw [if_neg c14] at H
              exact absurd H (by simp)
        · rw [if_neg c12] at H
          have c12b0 : (t265 == 0) = false := beq_eq_false_iff_ne.mpr c12
          have c12b1 : (t265 != 0) = true := bne_iff_ne.mpr c12
          (first | rw [c12b0] | (simp only [i64_w, i32_w]; rw [c12b0]) | skip)
          have H' := Aside0.mk H
          clear H
          go_wp2
          go_meet
          case rel => exact ⟨_, (true), (by first | rfl | (simp; done) | (simp [*]; done)), H', ⟨by first | omega | exact Nat.le_refl _⟩, ⟨by repeat (first | (with_reducible first | exact HB.out | apply below_alloc | apply pw_below_drewN | apply below_drew1) | exact HB.out)⟩⟩
      case rest =>
        clear HC9
        try clear c1
        try clear p1
        try clear q1
        try clear hx1
        try clear qi1
        try clear p2
        try clear c5
        try clear c7
        try clear c12
        try clear c12b0
        try clear c12b1
        try clear c13
        try clear c13b0
        try clear c13b1
        try clear c14
        try clear c14b0
        try clear c14b1
        try clear p15
        try clear q15
        try clear hx15
        try clear qi15
        try clear p15
        try clear q15
        obtain ⟨kq, x39_8, rfl, HA, HJ8, HB⟩ := hcut
        cases kq with
        | zero => exact absurd HA.out (by simp [crossbarlaw06_DigitsFormsAgree.j0])
        | succ kj8 =>
          have H := HA.out
          clear HA
          simp only [crossbarlaw06_DigitsFormsAgree.j0] at H
          by_cases c16 : x39_8 = true
          · subst c16
            have H1 : (if t265 = 0 then (if (a0.size : Int) > 0 then (some (decide ((t264.size : Int) > 0))) else (some false)) else (some true)) = some r := by rw [if_pos rfl] at H; exact H
            clear H
            have H := H1
            clear H1
            by_cases c17 : t265 = 0
            · rw [if_pos c17] at H
              have c17b0 : (t265 == 0) = true := beq_iff_eq.mpr c17
              have c17b1 : (t265 != 0) = false := bne_eq_false_iff_eq.mpr c17
              clear c17
              by_cases c18 : (a0.size : Int) > 0
              · rw [if_pos c18] at H
                have c18b0 : decide (0 < (a0.size : Int)) = true := decide_eq_true c18
                have c18b1 : decide (0 < a0.size) = true := decide_eq_true (by omega)
                clear c18
                obtain rfl := Option.some.inj H
                go_wp2
                go_ret
                exact ⟨by first | rfl | (simp [errW_none, errW_some] <;> rfl) | (simp [*, errW_none, errW_some] <;> rfl), by repeat (first | (with_reducible first | exact HB.out | apply below_alloc | apply pw_below_drewN | apply below_drew1) | exact HB.out)⟩
              · rw [if_neg c18] at H
                have c18b0 : decide (0 < (a0.size : Int)) = false := decide_eq_false c18
                have c18b1 : decide (0 < a0.size) = false := decide_eq_false (by omega)
                clear c18
                obtain rfl := Option.some.inj H
                go_wp2
                go_ret
                exact ⟨by first | rfl | (simp [errW_none, errW_some] <;> rfl) | (simp [*, errW_none, errW_some] <;> rfl), by repeat (first | (with_reducible first | exact HB.out | apply below_alloc | apply pw_below_drewN | apply below_drew1) | exact HB.out)⟩
            · rw [if_neg c17] at H
              have c17b0 : (t265 == 0) = false := beq_eq_false_iff_ne.mpr c17
              have c17b1 : (t265 != 0) = true := bne_iff_ne.mpr c17
              obtain rfl := Option.some.inj H
              go_wp2
              go_ret
              exact ⟨by first | rfl | (simp [errW_none, errW_some] <;> rfl) | (simp [*, errW_none, errW_some] <;> rfl), by repeat (first | (with_reducible first | exact HB.out | apply below_alloc | apply pw_below_drewN | apply below_drew1) | exact HB.out)⟩
          · replace c16 := Bool.eq_false_iff.mpr c16
            subst c16
            have H1 : (if 2 + a1.size ≤ 9223372036854775807 then (if ((⟨#[48, 48]⟩ : ByteArray) ++ a1).size + a2.size ≤ 9223372036854775807 then (if (((⟨#[48, 48]⟩ : ByteArray) ++ a1) ++ a2).size + a0.size ≤ 9223372036854775807 then ((digits_Normalize.f ((((⟨#[48, 48]⟩ : ByteArray) ++ a1) ++ a2) ++ a0) a1 a2).bind fun bt266 => (if 1 + a2.size ≤ 9223372036854775807 then (if ((⟨#[48]⟩ : ByteArray) ++ a2).size + a0.size ≤ 9223372036854775807 then ((digits_Normalize.f (((⟨#[48]⟩ : ByteArray) ++ a2) ++ a0) a1 a2).bind fun bt268 => (if a2.toList = ([] : List UInt8) then (if bt266.2 = 0 then (if bt266.1.toList = t264.toList then (if a1.size + a2.size ≤ 9223372036854775807 then (if (a1 ++ a2).size + a0.size ≤ 9223372036854775807 then (if t264.toList = ((a1 ++ a2) ++ a0).toList then (some true) else (some false)) else (none)) else (none)) else (some false)) else (some false)) else (if 0 < (a2.size : Int) then (if (bt a2 0) = 48 then (if bt266.2 = 0 then (if bt266.1.toList = t264.toList then (if a1.size + a2.size ≤ 9223372036854775807 then (if (a1 ++ a2).size + a0.size ≤ 9223372036854775807 then (if t264.toList = ((a1 ++ a2) ++ a0).toList then (some true) else (some false)) else (none)) else (none)) else (some false)) else (some false)) else (if bt268.2 = 0 then (if bt266.2 = 0 then (if bt266.1.toList = t264.toList then (if a1.size + a2.size ≤ 9223372036854775807 then (if (a1 ++ a2).size + a0.size ≤ 9223372036854775807 then (if t264.toList = ((a1 ++ a2) ++ a0).toList then (some (bt268.1.toList == t264.toList)) else (some false)) else (none)) else (none)) else (some false)) else (some false)) else (if bt266.2 = 0 then (if bt266.1.toList = t264.toList then (if a1.size + a2.size ≤ 9223372036854775807 then (if (a1 ++ a2).size + a0.size ≤ 9223372036854775807 then (if t264.toList = ((a1 ++ a2) ++ a0).toList then (some false) else (some false)) else (none)) else (none)) else (some false)) else (some false)))) else (none)))) else (none)) else (none))) else (none)) else (none)) else (none)) = some r := by rw [if_neg (show ¬ (false = true) by decide)] at H; exact H
            clear H
            have H := H1
            clear H1
            by_cases c19 : 2 + a1.size ≤ 9223372036854775807
            · rw [if_pos c19] at H
              have c19b0 := eq_true c19
              have c19b1 : decide (2 + a1.size ≤ 9223372036854775807) = true := decide_eq_true c19
              try have c19b2 : (9223372036854775807 < 2 + a1.size) = False := eq_false (Nat.not_lt.2 c19)
              by_cases c20 : ((⟨#[48, 48]⟩ : ByteArray) ++ a1).size + a2.size ≤ 9223372036854775807
              · rw [if_pos c20] at H
                have c20b0 := eq_true c20
                have c20b1 : decide (((⟨#[48, 48]⟩ : ByteArray) ++ a1).size + a2.size ≤ 9223372036854775807) = true := decide_eq_true c20
                try have c20b2 : (9223372036854775807 < ((⟨#[48, 48]⟩ : ByteArray) ++ a1).size + a2.size) = False := eq_false (Nat.not_lt.2 c20)
                by_cases c21 : (((⟨#[48, 48]⟩ : ByteArray) ++ a1) ++ a2).size + a0.size ≤ 9223372036854775807
                · rw [if_pos c21] at H
                  have c21b0 := eq_true c21
                  have c21b1 : decide ((((⟨#[48, 48]⟩ : ByteArray) ++ a1) ++ a2).size + a0.size ≤ 9223372036854775807) = true := decide_eq_true c21
                  try have c21b2 : (9223372036854775807 < (((⟨#[48, 48]⟩ : ByteArray) ++ a1) ++ a2).size + a0.size) = False := eq_false (Nat.not_lt.2 c21)
                  replace H := Option.bind_eq_some_iff.mp H
                  obtain ⟨⟨t266, t267⟩, A220, H⟩ := H
                  replace H : (if 1 + a2.size ≤ 9223372036854775807 then (if ((⟨#[48]⟩ : ByteArray) ++ a2).size + a0.size ≤ 9223372036854775807 then ((digits_Normalize.f (((⟨#[48]⟩ : ByteArray) ++ a2) ++ a0) a1 a2).bind fun bt268 => (if a2.toList = ([] : List UInt8) then (if t267 = 0 then (if t266.toList = t264.toList then (if a1.size + a2.size ≤ 9223372036854775807 then (if (a1 ++ a2).size + a0.size ≤ 9223372036854775807 then (if t264.toList = ((a1 ++ a2) ++ a0).toList then (some true) else (some false)) else (none)) else (none)) else (some false)) else (some false)) else (if 0 < (a2.size : Int) then (if (bt a2 0) = 48 then (if t267 = 0 then (if t266.toList = t264.toList then (if a1.size + a2.size ≤ 9223372036854775807 then (if (a1 ++ a2).size + a0.size ≤ 9223372036854775807 then (if t264.toList = ((a1 ++ a2) ++ a0).toList then (some true) else (some false)) else (none)) else (none)) else (some false)) else (some false)) else (if bt268.2 = 0 then (if t267 = 0 then (if t266.toList = t264.toList then (if a1.size + a2.size ≤ 9223372036854775807 then (if (a1 ++ a2).size + a0.size ≤ 9223372036854775807 then (if t264.toList = ((a1 ++ a2) ++ a0).toList then (some (bt268.1.toList == t264.toList)) else (some false)) else (none)) else (none)) else (some false)) else (some false)) else (if t267 = 0 then (if t266.toList = t264.toList then (if a1.size + a2.size ≤ 9223372036854775807 then (if (a1 ++ a2).size + a0.size ≤ 9223372036854775807 then (if t264.toList = ((a1 ++ a2) ++ a0).toList then (some false) else (some false)) else (none)) else (none)) else (some false)) else (some false)))) else (none)))) else (none)) else (none)) = some r := H
                  have A22 := Aside0.mk A220
                  clear A220
                  by_cases c23 : 1 + a2.size ≤ 9223372036854775807
                  · rw [if_pos c23] at H
                    have c23b0 := eq_true c23
                    have c23b1 : decide (1 + a2.size ≤ 9223372036854775807) = true := decide_eq_true c23
                    try have c23b2 : (9223372036854775807 < 1 + a2.size) = False := eq_false (Nat.not_lt.2 c23)
                    by_cases c24 : ((⟨#[48]⟩ : ByteArray) ++ a2).size + a0.size ≤ 9223372036854775807
                    · rw [if_pos c24] at H
                      have c24b0 := eq_true c24
                      have c24b1 : decide (((⟨#[48]⟩ : ByteArray) ++ a2).size + a0.size ≤ 9223372036854775807) = true := decide_eq_true c24
                      try have c24b2 : (9223372036854775807 < ((⟨#[48]⟩ : ByteArray) ++ a2).size + a0.size) = False := eq_false (Nat.not_lt.2 c24)
                      replace H := Option.bind_eq_some_iff.mp H
                      obtain ⟨⟨t268, t269⟩, A250, H⟩ := H
                      replace H : (if a2.toList = ([] : List UInt8) then (if t267 = 0 then (if t266.toList = t264.toList then (if a1.size + a2.size ≤ 9223372036854775807 then (if (a1 ++ a2).size + a0.size ≤ 9223372036854775807 then (if t264.toList = ((a1 ++ a2) ++ a0).toList then (some true) else (some false)) else (none)) else (none)) else (some false)) else (some false)) else (if 0 < (a2.size : Int) then (if (bt a2 0) = 48 then (if t267 = 0 then (if t266.toList = t264.toList then (if a1.size + a2.size ≤ 9223372036854775807 then (if (a1 ++ a2).size + a0.size ≤ 9223372036854775807 then (if t264.toList = ((a1 ++ a2) ++ a0).toList then (some true) else (some false)) else (none)) else (none)) else (some false)) else (some false)) else (if t269 = 0 then (if t267 = 0 then (if t266.toList = t264.toList then (if a1.size + a2.size ≤ 9223372036854775807 then (if (a1 ++ a2).size + a0.size ≤ 9223372036854775807 then (if t264.toList = ((a1 ++ a2) ++ a0).toList then (some (t268.toList == t264.toList)) else (some false)) else (none)) else (none)) else (some false)) else (some false)) else (if t267 = 0 then (if t266.toList = t264.toList then (if a1.size + a2.size ≤ 9223372036854775807 then (if (a1 ++ a2).size + a0.size ≤ 9223372036854775807 then (if t264.toList = ((a1 ++ a2) ++ a0).toList then (some false) else (some false)) else (none)) else (none)) else (some false)) else (some false)))) else (none))) = some r := H
                      have A25 := Aside0.mk A250
                      clear A250
                      by_cases c26 : a2.toList = ([] : List UInt8)
                      · rw [if_pos c26] at H
                        have c26b0 : (a2.toList == ([] : List UInt8)) = true := beq_iff_eq.mpr c26
                        have c26b1 : (a2.toList != ([] : List UInt8)) = false := bne_eq_false_iff_eq.mpr c26
                        clear c26
                        by_cases c27 : t267 = 0
                        · rw [if_pos c27] at H
                          have c27b0 : (t267 == 0) = true := beq_iff_eq.mpr c27
                          have c27b1 : (t267 != 0) = false := bne_eq_false_iff_eq.mpr c27
                          clear c27
                          by_cases c28 : t266.toList = t264.toList
                          · rw [if_pos c28] at H
                            have c28b0 : (t266.toList == t264.toList) = true := beq_iff_eq.mpr c28
                            have c28b1 : (t266.toList != t264.toList) = false := bne_eq_false_iff_eq.mpr c28
                            clear c28
                            by_cases c29 : a1.size + a2.size ≤ 9223372036854775807
                            · rw [if_pos c29] at H
                              have c29b0 := eq_true c29
                              have c29b1 : decide (a1.size + a2.size ≤ 9223372036854775807) = true := decide_eq_true c29
                              try have c29b2 : (9223372036854775807 < a1.size + a2.size) = False := eq_false (Nat.not_lt.2 c29)
                              by_cases c30 : (a1 ++ a2).size + a0.size ≤ 9223372036854775807
                              · rw [if_pos c30] at H
                                have c30b0 := eq_true c30
                                have c30b1 : decide ((a1 ++ a2).size + a0.size ≤ 9223372036854775807) = true := decide_eq_true c30
                                try have c30b2 : (9223372036854775807 < (a1 ++ a2).size + a0.size) = False := eq_false (Nat.not_lt.2 c30)
                                by_cases c31 : t264.toList = ((a1 ++ a2) ++ a0).toList
                                · rw [if_pos c31] at H
                                  have c31b0 : (t264.toList == ((a1 ++ a2) ++ a0).toList) = true := beq_iff_eq.mpr c31
                                  have c31b1 : (t264.toList != ((a1 ++ a2) ++ a0).toList) = false := bne_eq_false_iff_eq.mpr c31
                                  clear c31
                                  obtain rfl := Option.some.inj H
                                  go_wp2_with (first | ((with_reducible refine gate_callee (f := 14) rfl ?_); refine goesL_ (some 61) rfl rfl Try.func14 (by kernel_rfl) rfl #[.string ((((⟨#[48, 48]⟩ : ByteArray) ++ a1) ++ a2) ++ a0), .string a1, .string a2] rfl (by (try simp only [List.map_toArray, List.map_cons, List.map_nil]); first | done | rfl | (simp only [List.length_drop, List.length_take]; rfl)) ?_; (with_reducible refine (digits_Normalize.calls ((((⟨#[48, 48]⟩ : ByteArray) ++ a1) ++ a2) ++ a0) a1 a2 t266 t267 _ A22.out).mono ?_); rintro e w32 ⟨rfl, hb⟩; refine ⟨_, rfl, ?_⟩; have n0_ := Aside0.mk (below_step (by repeat (first | (with_reducible first | exact HB.out | apply below_alloc | apply pw_below_drewN | apply below_drew1) | exact HB.out)) hb); clear HB; have HB := n0_; clear n0_; (try clear hb); (try clear hb2); (try clear hk); (try clear hi)) | ((with_reducible refine gate_callee (f := 14) rfl ?_); refine goesL_ (some 71) rfl rfl Try.func14 (by kernel_rfl) rfl #[.string (((⟨#[48]⟩ : ByteArray) ++ a2) ++ a0), .string a1, .string a2] rfl (by (try simp only [List.map_toArray, List.map_cons, List.map_nil]); first | done | rfl | (simp only [List.length_drop, List.length_take]; rfl)) ?_; (with_reducible refine (digits_Normalize.calls (((⟨#[48]⟩ : ByteArray) ++ a2) ++ a0) a1 a2 t268 t269 _ A25.out).mono ?_); rintro e w33 ⟨rfl, hb⟩; refine ⟨_, rfl, ?_⟩; have n0_ := Aside0.mk (below_step (by repeat (first | (with_reducible first | exact HB.out | apply below_alloc | apply pw_below_drewN | apply below_drew1) | exact HB.out)) hb); clear HB; have HB := n0_; clear n0_; (try clear hb); (try clear hb2); (try clear hk); (try clear hi)))
                                  go_ret
                                  exact ⟨by first | rfl | (simp [errW_none, errW_some] <;> rfl) | (simp [*, errW_none, errW_some] <;> rfl), by repeat (first | (with_reducible first | exact HB.out | apply below_alloc | apply pw_below_drewN | apply below_drew1) | exact HB.out)⟩
                                · rw [if_neg c31] at H
                                  have c31b0 : (t264.toList == ((a1 ++ a2) ++ a0).toList) = false := beq_eq_false_iff_ne.mpr c31
                                  have c31b1 : (t264.toList != ((a1 ++ a2) ++ a0).toList) = true := bne_iff_ne.mpr c31
                                  obtain rfl := Option.some.inj H
                                  go_wp2_with (first | ((with_reducible refine gate_callee (f := 14) rfl ?_); refine goesL_ (some 61) rfl rfl Try.func14 (by kernel_rfl) rfl #[.string ((((⟨#[48, 48]⟩ : ByteArray) ++ a1) ++ a2) ++ a0), .string a1, .string a2] rfl (by (try simp only [List.map_toArray, List.map_cons, List.map_nil]); first | done | rfl | (simp only [List.length_drop, List.length_take]; rfl)) ?_; (with_reducible refine (digits_Normalize.calls ((((⟨#[48, 48]⟩ : ByteArray) ++ a1) ++ a2) ++ a0) a1 a2 t266 t267 _ A22.out).mono ?_); rintro e w34 ⟨rfl, hb⟩; refine ⟨_, rfl, ?_⟩; have n0_ := Aside0.mk (below_step (by repeat (first | (with_reducible first | exact HB.out | apply below_alloc | apply pw_below_drewN | apply below_drew1) | exact HB.out)) hb); clear HB; have HB := n0_; clear n0_; (try clear hb); (try clear hb2); (try clear hk); (try clear hi)) | ((with_reducible refine gate_callee (f := 14) rfl ?_); refine goesL_ (some 71) rfl rfl Try.func14 (by kernel_rfl) rfl #[.string (((⟨#[48]⟩ : ByteArray) ++ a2) ++ a0), .string a1, .string a2] rfl (by (try simp only [List.map_toArray, List.map_cons, List.map_nil]); first | done | rfl | (simp only [List.length_drop, List.length_take]; rfl)) ?_; (with_reducible refine (digits_Normalize.calls (((⟨#[48]⟩ : ByteArray) ++ a2) ++ a0) a1 a2 t268 t269 _ A25.out).mono ?_); rintro e w35 ⟨rfl, hb⟩; refine ⟨_, rfl, ?_⟩; have n0_ := Aside0.mk (below_step (by repeat (first | (with_reducible first | exact HB.out | apply below_alloc | apply pw_below_drewN | apply below_drew1) | exact HB.out)) hb); clear HB; have HB := n0_; clear n0_; (try clear hb); (try clear hb2); (try clear hk); (try clear hi)))
                                  go_ret
                                  exact ⟨by first | rfl | (simp [errW_none, errW_some] <;> rfl) | (simp [*, errW_none, errW_some] <;> rfl), by repeat (first | (with_reducible first | exact HB.out | apply below_alloc | apply pw_below_drewN | apply below_drew1) | exact HB.out)⟩
                              · rw [if_neg c30] at H
                                exact absurd H (by simp)
                            · rw [if_neg c29] at H
                              exact absurd H (by simp)
                          · rw [if_neg c28] at H
                            have c28b0 : (t266.toList == t264.toList) = false := beq_eq_false_iff_ne.mpr c28
                            have c28b1 : (t266.toList != t264.toList) = true := bne_iff_ne.mpr c28
                            obtain rfl := Option.some.inj H
                            go_wp2_with (first | ((with_reducible refine gate_callee (f := 14) rfl ?_); refine goesL_ (some 61) rfl rfl Try.func14 (by kernel_rfl) rfl #[.string ((((⟨#[48, 48]⟩ : ByteArray) ++ a1) ++ a2) ++ a0), .string a1, .string a2] rfl (by (try simp only [List.map_toArray, List.map_cons, List.map_nil]); first | done | rfl | (simp only [List.length_drop, List.length_take]; rfl)) ?_; (with_reducible refine (digits_Normalize.calls ((((⟨#[48, 48]⟩ : ByteArray) ++ a1) ++ a2) ++ a0) a1 a2 t266 t267 _ A22.out).mono ?_); rintro e w36 ⟨rfl, hb⟩; refine ⟨_, rfl, ?_⟩; have n0_ := Aside0.mk (below_step (by repeat (first | (with_reducible first | exact HB.out | apply below_alloc | apply pw_below_drewN | apply below_drew1) | exact HB.out)) hb); clear HB; have HB := n0_; clear n0_; (try clear hb); (try clear hb2); (try clear hk); (try clear hi)) | ((with_reducible refine gate_callee (f := 14) rfl ?_); refine goesL_ (some 71) rfl rfl Try.func14 (by kernel_rfl) rfl #[.string (((⟨#[48]⟩ : ByteArray) ++ a2) ++ a0), .string a1, .string a2] rfl (by (try simp only [List.map_toArray, List.map_cons, List.map_nil]); first | done | rfl | (simp only [List.length_drop, List.length_take]; rfl)) ?_; (with_reducible refine (digits_Normalize.calls (((⟨#[48]⟩ : ByteArray) ++ a2) ++ a0) a1 a2 t268 t269 _ A25.out).mono ?_); rintro e w37 ⟨rfl, hb⟩; refine ⟨_, rfl, ?_⟩; have n0_ := Aside0.mk (below_step (by repeat (first | (with_reducible first | exact HB.out | apply below_alloc | apply pw_below_drewN | apply below_drew1) | exact HB.out)) hb); clear HB; have HB := n0_; clear n0_; (try clear hb); (try clear hb2); (try clear hk); (try clear hi)))
                            go_ret
                            exact ⟨by first | rfl | (simp [errW_none, errW_some] <;> rfl) | (simp [*, errW_none, errW_some] <;> rfl), by repeat (first | (with_reducible first | exact HB.out | apply below_alloc | apply pw_below_drewN | apply below_drew1) | exact HB.out)⟩
                        · rw [if_neg c27] at H
                          have c27b0 : (t267 == 0) = false := beq_eq_false_iff_ne.mpr c27
                          have c27b1 : (t267 != 0) = true := bne_iff_ne.mpr c27
                          obtain rfl := Option.some.inj H
                          go_wp2_with (first | ((with_reducible refine gate_callee (f := 14) rfl ?_); refine goesL_ (some 61) rfl rfl Try.func14 (by kernel_rfl) rfl #[.string ((((⟨#[48, 48]⟩ : ByteArray) ++ a1) ++ a2) ++ a0), .string a1, .string a2] rfl (by (try simp only [List.map_toArray, List.map_cons, List.map_nil]); first | done | rfl | (simp only [List.length_drop, List.length_take]; rfl)) ?_; (with_reducible refine (digits_Normalize.calls ((((⟨#[48, 48]⟩ : ByteArray) ++ a1) ++ a2) ++ a0) a1 a2 t266 t267 _ A22.out).mono ?_); rintro e w38 ⟨rfl, hb⟩; refine ⟨_, rfl, ?_⟩; have n0_ := Aside0.mk (below_step (by repeat (first | (with_reducible first | exact HB.out | apply below_alloc | apply pw_below_drewN | apply below_drew1) | exact HB.out)) hb); clear HB; have HB := n0_; clear n0_; (try clear hb); (try clear hb2); (try clear hk); (try clear hi)) | ((with_reducible refine gate_callee (f := 14) rfl ?_); refine goesL_ (some 71) rfl rfl Try.func14 (by kernel_rfl) rfl #[.string (((⟨#[48]⟩ : ByteArray) ++ a2) ++ a0), .string a1, .string a2] rfl (by (try simp only [List.map_toArray, List.map_cons, List.map_nil]); first | done | rfl | (simp only [List.length_drop, List.length_take]; rfl)) ?_; (with_reducible refine (digits_Normalize.calls (((⟨#[48]⟩ : ByteArray) ++ a2) ++ a0) a1 a2 t268 t269 _ A25.out).mono ?_); rintro e w39 ⟨rfl, hb⟩; refine ⟨_, rfl, ?_⟩; have n0_ := Aside0.mk (below_step (by repeat (first | (with_reducible first | exact HB.out | apply below_alloc | apply pw_below_drewN | apply below_drew1) | exact HB.out)) hb); clear HB; have HB := n0_; clear n0_; (try clear hb); (try clear hb2); (try clear hk); (try clear hi)))
                          go_ret
                          exact ⟨by first | rfl | (simp [errW_none, errW_some] <;> rfl) | (simp [*, errW_none, errW_some] <;> rfl), by repeat (first | (with_reducible first | exact HB.out | apply below_alloc | apply pw_below_drewN | apply below_drew1) | exact HB.out)⟩
                      · rw [if_neg c26] at H
                        have c26b0 : (a2.toList == ([] : List UInt8)) = false := beq_eq_false_iff_ne.mpr c26
                        have c26b1 : (a2.toList != ([] : List UInt8)) = true := bne_iff_ne.mpr c26
                        by_cases c40 : 0 < (a2.size : Int)
                        · rw [if_pos c40] at H
                          have c40b0 : decide (0 < (a2.size : Int)) = true := decide_eq_true c40
                          have c40b1 : decide (0 < a2.size) = true := decide_eq_true (by omega)
                          clear c40
                          by_cases c42 : (bt a2 0) = 48
                          · rw [if_pos c42] at H
                            have c42b0 : ((bt a2 0) == 48) = true := beq_iff_eq.mpr c42
                            have c42b1 : ((bt a2 0) != 48) = false := bne_eq_false_iff_eq.mpr c42
                            clear c42
                            by_cases c43 : t267 = 0
                            · rw [if_pos c43] at H
                              have c43b0 : (t267 == 0) = true := beq_iff_eq.mpr c43
                              have c43b1 : (t267 != 0) = false := bne_eq_false_iff_eq.mpr c43
                              clear c43
                              by_cases c44 : t266.toList = t264.toList
                              · rw [if_pos c44] at H
                                have c44b0 : (t266.toList == t264.toList) = true := beq_iff_eq.mpr c44
                                have c44b1 : (t266.toList != t264.toList) = false := bne_eq_false_iff_eq.mpr c44
                                clear c44
                                by_cases c45 : a1.size + a2.size ≤ 9223372036854775807
                                · rw [if_pos c45] at H
                                  have c45b0 := eq_true c45
                                  have c45b1 : decide (a1.size + a2.size ≤ 9223372036854775807) = true := decide_eq_true c45
                                  try have c45b2 : (9223372036854775807 < a1.size + a2.size) = False := eq_false (Nat.not_lt.2 c45)
                                  by_cases c46 : (a1 ++ a2).size + a0.size ≤ 9223372036854775807
                                  · rw [if_pos c46] at H
                                    have c46b0 := eq_true c46
                                    have c46b1 : decide ((a1 ++ a2).size + a0.size ≤ 9223372036854775807) = true := decide_eq_true c46
                                    try have c46b2 : (9223372036854775807 < (a1 ++ a2).size + a0.size) = False := eq_false (Nat.not_lt.2 c46)
                                    by_cases c47 : t264.toList = ((a1 ++ a2) ++ a0).toList
                                    · rw [if_pos c47] at H
                                      have c47b0 : (t264.toList == ((a1 ++ a2) ++ a0).toList) = true := beq_iff_eq.mpr c47
                                      have c47b1 : (t264.toList != ((a1 ++ a2) ++ a0).toList) = false := bne_eq_false_iff_eq.mpr c47
                                      clear c47
                                      obtain rfl := Option.some.inj H
                                      go_wp2_with (first | ((with_reducible refine gate_callee (f := 14) rfl ?_); refine goesL_ (some 61) rfl rfl Try.func14 (by kernel_rfl) rfl #[.string ((((⟨#[48, 48]⟩ : ByteArray) ++ a1) ++ a2) ++ a0), .string a1, .string a2] rfl (by (try simp only [List.map_toArray, List.map_cons, List.map_nil]); first | done | rfl | (simp only [List.length_drop, List.length_take]; rfl)) ?_; (with_reducible refine (digits_Normalize.calls ((((⟨#[48, 48]⟩ : ByteArray) ++ a1) ++ a2) ++ a0) a1 a2 t266 t267 _ A22.out).mono ?_); rintro e w48 ⟨rfl, hb⟩; refine ⟨_, rfl, ?_⟩; have n0_ := Aside0.mk (below_step (by repeat (first | (with_reducible first | exact HB.out | apply below_alloc | apply pw_below_drewN | apply below_drew1) | exact HB.out)) hb); clear HB; have HB := n0_; clear n0_; (try clear hb); (try clear hb2); (try clear hk); (try clear hi)) | ((with_reducible refine gate_callee (f := 14) rfl ?_); refine goesL_ (some 71) rfl rfl Try.func14 (by kernel_rfl) rfl #[.string (((⟨#[48]⟩ : ByteArray) ++ a2) ++ a0), .string a1, .string a2] rfl (by (try simp only [List.map_toArray, List.map_cons, List.map_nil]); first | done | rfl | (simp only [List.length_drop, List.length_take]; rfl)) ?_; (with_reducible refine (digits_Normalize.calls (((⟨#[48]⟩ : ByteArray) ++ a2) ++ a0) a1 a2 t268 t269 _ A25.out).mono ?_); rintro e w49 ⟨rfl, hb⟩; refine ⟨_, rfl, ?_⟩; have n0_ := Aside0.mk (below_step (by repeat (first | (with_reducible first | exact HB.out | apply below_alloc | apply pw_below_drewN | apply below_drew1) | exact HB.out)) hb); clear HB; have HB := n0_; clear n0_; (try clear hb); (try clear hb2); (try clear hk); (try clear hi); have p41 : 0 ≤ (0 : Int) := (by omega); have q41 : 0 < a2.size := (by have : (0 : Int) < (a2.size : Int) := of_decide_eq_true (by first | (with_reducible assumption) | assumption); omega); have hx41 : ∀ h : 0 < a2.size, ((a2[0]'h).toNat : Int) = bt a2 0 := bt_at a2 0; clear p41; have qi41 : (0 < (a2.size : Int)) = True := eq_true (of_decide_eq_true (by first | (with_reducible assumption) | assumption)); replace q41 := eq_true q41))
                                      go_ret
                                      exact ⟨by first | rfl | (simp [errW_none, errW_some] <;> rfl) | (simp [*, errW_none, errW_some] <;> rfl), by repeat (first | (with_reducible first | exact HB.out | apply below_alloc | apply pw_below_drewN | apply below_drew1) | exact HB.out)⟩
                                    · rw [if_neg c47] at H
                                      have c47b0 : (t264.toList == ((a1 ++ a2) ++ a0).toList) = false := beq_eq_false_iff_ne.mpr c47
                                      have c47b1 : (t264.toList != ((a1 ++ a2) ++ a0).toList) = true := bne_iff_ne.mpr c47
                                      obtain rfl := Option.some.inj H
                                      go_wp2_with (first | ((with_reducible refine gate_callee (f := 14) rfl ?_); refine goesL_ (some 61) rfl rfl Try.func14 (by kernel_rfl) rfl #[.string ((((⟨#[48, 48]⟩ : ByteArray) ++ a1) ++ a2) ++ a0), .string a1, .string a2] rfl (by (try simp only [List.map_toArray, List.map_cons, List.map_nil]); first | done | rfl | (simp only [List.length_drop, List.length_take]; rfl)) ?_; (with_reducible refine (digits_Normalize.calls ((((⟨#[48, 48]⟩ : ByteArray) ++ a1) ++ a2) ++ a0) a1 a2 t266 t267 _ A22.out).mono ?_); rintro e w50 ⟨rfl, hb⟩; refine ⟨_, rfl, ?_⟩; have n0_ := Aside0.mk (below_step (by repeat (first | (with_reducible first | exact HB.out | apply below_alloc | apply pw_below_drewN | apply below_drew1) | exact HB.out)) hb); clear HB; have HB := n0_; clear n0_; (try clear hb); (try clear hb2); (try clear hk); (try clear hi)) | ((with_reducible refine gate_callee (f := 14) rfl ?_); refine goesL_ (some 71) rfl rfl Try.func14 (by kernel_rfl) rfl #[.string (((⟨#[48]⟩ : ByteArray) ++ a2) ++ a0), .string a1, .string a2] rfl (by (try simp only [List.map_toArray, List.map_cons, List.map_nil]); first | done | rfl | (simp only [List.length_drop, List.length_take]; rfl)) ?_; (with_reducible refine (digits_Normalize.calls (((⟨#[48]⟩ : ByteArray) ++ a2) ++ a0) a1 a2 t268 t269 _ A25.out).mono ?_); rintro e w51 ⟨rfl, hb⟩; refine ⟨_, rfl, ?_⟩; have n0_ := Aside0.mk (below_step (by repeat (first | (with_reducible first | exact HB.out | apply below_alloc | apply pw_below_drewN | apply below_drew1) | exact HB.out)) hb); clear HB; have HB := n0_; clear n0_; (try clear hb); (try clear hb2); (try clear hk); (try clear hi); have p41 : 0 ≤ (0 : Int) := (by omega); have q41 : 0 < a2.size := (by have : (0 : Int) < (a2.size : Int) := of_decide_eq_true (by first | (with_reducible assumption) | assumption); omega); have hx41 : ∀ h : 0 < a2.size, ((a2[0]'h).toNat : Int) = bt a2 0 := bt_at a2 0; clear p41; have qi41 : (0 < (a2.size : Int)) = True := eq_true (of_decide_eq_true (by first | (with_reducible assumption) | assumption)); replace q41 := eq_true q41))
                                      go_ret
                                      exact ⟨by first | rfl | (simp [errW_none, errW_some] <;> rfl) | (simp [*, errW_none, errW_some] <;> rfl), by repeat (first | (with_reducible first | exact HB.out | apply below_alloc | apply pw_below_drewN | apply below_drew1) | exact HB.out)⟩
                                  · rw [if_neg c46] at H
                                    exact absurd H (by simp)
                                · rw [if_neg c45] at H
                                  exact absurd H (by simp)
                              · rw [if_neg c44] at H
                                have c44b0 : (t266.toList == t264.toList) = false := beq_eq_false_iff_ne.mpr c44
                                have c44b1 : (t266.toList != t264.toList) = true := bne_iff_ne.mpr c44
                                obtain rfl := Option.some.inj H
                                go_wp2_with (first | ((with_reducible refine gate_callee (f := 14) rfl ?_); refine goesL_ (some 61) rfl rfl Try.func14 (by kernel_rfl) rfl #[.string ((((⟨#[48, 48]⟩ : ByteArray) ++ a1) ++ a2) ++ a0), .string a1, .string a2] rfl (by (try simp only [List.map_toArray, List.map_cons, List.map_nil]); first | done | rfl | (simp only [List.length_drop, List.length_take]; rfl)) ?_; (with_reducible refine (digits_Normalize.calls ((((⟨#[48, 48]⟩ : ByteArray) ++ a1) ++ a2) ++ a0) a1 a2 t266 t267 _ A22.out).mono ?_); rintro e w52 ⟨rfl, hb⟩; refine ⟨_, rfl, ?_⟩; have n0_ := Aside0.mk (below_step (by repeat (first | (with_reducible first | exact HB.out | apply below_alloc | apply pw_below_drewN | apply below_drew1) | exact HB.out)) hb); clear HB; have HB := n0_; clear n0_; (try clear hb); (try clear hb2); (try clear hk); (try clear hi)) | ((with_reducible refine gate_callee (f := 14) rfl ?_); refine goesL_ (some 71) rfl rfl Try.func14 (by kernel_rfl) rfl #[.string (((⟨#[48]⟩ : ByteArray) ++ a2) ++ a0), .string a1, .string a2] rfl (by (try simp only [List.map_toArray, List.map_cons, List.map_nil]); first | done | rfl | (simp only [List.length_drop, List.length_take]; rfl)) ?_; (with_reducible refine (digits_Normalize.calls (((⟨#[48]⟩ : ByteArray) ++ a2) ++ a0) a1 a2 t268 t269 _ A25.out).mono ?_); rintro e w53 ⟨rfl, hb⟩; refine ⟨_, rfl, ?_⟩; have n0_ := Aside0.mk (below_step (by repeat (first | (with_reducible first | exact HB.out | apply below_alloc | apply pw_below_drewN | apply below_drew1) | exact HB.out)) hb); clear HB; have HB := n0_; clear n0_; (try clear hb); (try clear hb2); (try clear hk); (try clear hi); have p41 : 0 ≤ (0 : Int) := (by omega); have q41 : 0 < a2.size := (by have : (0 : Int) < (a2.size : Int) := of_decide_eq_true (by first | (with_reducible assumption) | assumption); omega); have hx41 : ∀ h : 0 < a2.size, ((a2[0]'h).toNat : Int) = bt a2 0 := bt_at a2 0; clear p41; have qi41 : (0 < (a2.size : Int)) = True := eq_true (of_decide_eq_true (by first | (with_reducible assumption) | assumption)); replace q41 := eq_true q41))
                                go_ret
                                exact ⟨by first | rfl | (simp [errW_none, errW_some] <;> rfl) | (simp [*, errW_none, errW_some] <;> rfl), by repeat (first | (with_reducible first | exact HB.out | apply below_alloc | apply pw_below_drewN | apply below_drew1) | exact HB.out)⟩
                            · rw [if_neg c43] at H
                              have c43b0 : (t267 == 0) = false := beq_eq_false_iff_ne.mpr c43
                              have c43b1 : (t267 != 0) = true := bne_iff_ne.mpr c43
                              obtain rfl := Option.some.inj H
                              go_wp2_with (first | ((with_reducible refine gate_callee (f := 14) rfl ?_); refine goesL_ (some 61) rfl rfl Try.func14 (by kernel_rfl) rfl #[.string ((((⟨#[48, 48]⟩ : ByteArray) ++ a1) ++ a2) ++ a0), .string a1, .string a2] rfl (by (try simp only [List.map_toArray, List.map_cons, List.map_nil]); first | done | rfl | (simp only [List.length_drop, List.length_take]; rfl)) ?_; (with_reducible refine (digits_Normalize.calls ((((⟨#[48, 48]⟩ : ByteArray) ++ a1) ++ a2) ++ a0) a1 a2 t266 t267 _ A22.out).mono ?_); rintro e w54 ⟨rfl, hb⟩; refine ⟨_, rfl, ?_⟩; have n0_ := Aside0.mk (below_step (by repeat (first | (with_reducible first | exact HB.out | apply below_alloc | apply pw_below_drewN | apply below_drew1) | exact HB.out)) hb); clear HB; have HB := n0_; clear n0_; (try clear hb); (try clear hb2); (try clear hk); (try clear hi)) | ((with_reducible refine gate_callee (f := 14) rfl ?_); refine goesL_ (some 71) rfl rfl Try.func14 (by kernel_rfl) rfl #[.string (((⟨#[48]⟩ : ByteArray) ++ a2) ++ a0), .string a1, .string a2] rfl (by (try simp only [List.map_toArray, List.map_cons, List.map_nil]); first | done | rfl | (simp only [List.length_drop, List.length_take]; rfl)) ?_; (with_reducible refine (digits_Normalize.calls (((⟨#[48]⟩ : ByteArray) ++ a2) ++ a0) a1 a2 t268 t269 _ A25.out).mono ?_); rintro e w55 ⟨rfl, hb⟩; refine ⟨_, rfl, ?_⟩; have n0_ := Aside0.mk (below_step (by repeat (first | (with_reducible first | exact HB.out | apply below_alloc | apply pw_below_drewN | apply below_drew1) | exact HB.out)) hb); clear HB; have HB := n0_; clear n0_; (try clear hb); (try clear hb2); (try clear hk); (try clear hi); have p41 : 0 ≤ (0 : Int) := (by omega); have q41 : 0 < a2.size := (by have : (0 : Int) < (a2.size : Int) := of_decide_eq_true (by first | (with_reducible assumption) | assumption); omega); have hx41 : ∀ h : 0 < a2.size, ((a2[0]'h).toNat : Int) = bt a2 0 := bt_at a2 0; clear p41; have qi41 : (0 < (a2.size : Int)) = True := eq_true (of_decide_eq_true (by first | (with_reducible assumption) | assumption)); replace q41 := eq_true q41))
                              go_ret
                              exact ⟨by first | rfl | (simp [errW_none, errW_some] <;> rfl) | (simp [*, errW_none, errW_some] <;> rfl), by repeat (first | (with_reducible first | exact HB.out | apply below_alloc | apply pw_below_drewN | apply below_drew1) | exact HB.out)⟩
                          · rw [if_neg c42] at H
                            have c42b0 : ((bt a2 0) == 48) = false := beq_eq_false_iff_ne.mpr c42
                            have c42b1 : ((bt a2 0) != 48) = true := bne_iff_ne.mpr c42
                            by_cases c56 : t269 = 0
                            · rw [if_pos c56] at H
                              have c56b0 : (t269 == 0) = true := beq_iff_eq.mpr c56
                              have c56b1 : (t269 != 0) = false := bne_eq_false_iff_eq.mpr c56
                              clear c56
                              by_cases c57 : t267 = 0
                              · rw [if_pos c57] at H
                                have c57b0 : (t267 == 0) = true := beq_iff_eq.mpr c57
                                have c57b1 : (t267 != 0) = false := bne_eq_false_iff_eq.mpr c57
                                clear c57
                                by_cases c58 : t266.toList = t264.toList
                                · rw [if_pos c58] at H
                                  have c58b0 : (t266.toList == t264.toList) = true := beq_iff_eq.mpr c58
                                  have c58b1 : (t266.toList != t264.toList) = false := bne_eq_false_iff_eq.mpr c58
                                  clear c58
                                  by_cases c59 : a1.size + a2.size ≤ 9223372036854775807
                                  · rw [if_pos c59] at H
                                    have c59b0 := eq_true c59
                                    have c59b1 : decide (a1.size + a2.size ≤ 9223372036854775807) = true := decide_eq_true c59
                                    try have c59b2 : (9223372036854775807 < a1.size + a2.size) = False := eq_false (Nat.not_lt.2 c59)
                                    by_cases c60 : (a1 ++ a2).size + a0.size ≤ 9223372036854775807
                                    · rw [if_pos c60] at H
                                      have c60b0 := eq_true c60
                                      have c60b1 : decide ((a1 ++ a2).size + a0.size ≤ 9223372036854775807) = true := decide_eq_true c60
                                      try have c60b2 : (9223372036854775807 < (a1 ++ a2).size + a0.size) = False := eq_false (Nat.not_lt.2 c60)
                                      by_cases c61 : t264.toList = ((a1 ++ a2) ++ a0).toList
                                      · rw [if_pos c61] at H
                                        have c61b0 : (t264.toList == ((a1 ++ a2) ++ a0).toList) = true := beq_iff_eq.mpr c61
                                        have c61b1 : (t264.toList != ((a1 ++ a2) ++ a0).toList) = false := bne_eq_false_iff_eq.mpr c61
                                        clear c61
                                        obtain rfl := Option.some.inj H
                                        go_wp2_with (first | ((with_reducible refine gate_callee (f := 14) rfl ?_); refine goesL_ (some 61) rfl rfl Try.func14 (by kernel_rfl) rfl #[.string ((((⟨#[48, 48]⟩ : ByteArray) ++ a1) ++ a2) ++ a0), .string a1, .string a2] rfl (by (try simp only [List.map_toArray, List.map_cons, List.map_nil]); first | done | rfl | (simp only [List.length_drop, List.length_take]; rfl)) ?_; (with_reducible refine (digits_Normalize.calls ((((⟨#[48, 48]⟩ : ByteArray) ++ a1) ++ a2) ++ a0) a1 a2 t266 t267 _ A22.out).mono ?_); rintro e w62 ⟨rfl, hb⟩; refine ⟨_, rfl, ?_⟩; have n0_ := Aside0.mk (below_step (by repeat (first | (with_reducible first | exact HB.out | apply below_alloc | apply pw_below_drewN | apply below_drew1) | exact HB.out)) hb); clear HB; have HB := n0_; clear n0_; (try clear hb); (try clear hb2); (try clear hk); (try clear hi)) | ((with_reducible refine gate_callee (f := 14) rfl ?_); refine goesL_ (some 71) rfl rfl Try.func14 (by kernel_rfl) rfl #[.string (((⟨#[48]⟩ : ByteArray) ++ a2) ++ a0), .string a1, .string a2] rfl (by (try simp only [List.map_toArray, List.map_cons, List.map_nil]); first | done | rfl | (simp only [List.length_drop, List.length_take]; rfl)) ?_; (with_reducible refine (digits_Normalize.calls (((⟨#[48]⟩ : ByteArray) ++ a2) ++ a0) a1 a2 t268 t269 _ A25.out).mono ?_); rintro e w63 ⟨rfl, hb⟩; refine ⟨_, rfl, ?_⟩; have n0_ := Aside0.mk (below_step (by repeat (first | (with_reducible first | exact HB.out | apply below_alloc | apply pw_below_drewN | apply below_drew1) | exact HB.out)) hb); clear HB; have HB := n0_; clear n0_; (try clear hb); (try clear hb2); (try clear hk); (try clear hi); have p41 : 0 ≤ (0 : Int) := (by omega); have q41 : 0 < a2.size := (by have : (0 : Int) < (a2.size : Int) := of_decide_eq_true (by first | (with_reducible assumption) | assumption); omega); have hx41 : ∀ h : 0 < a2.size, ((a2[0]'h).toNat : Int) = bt a2 0 := bt_at a2 0; clear p41; have qi41 : (0 < (a2.size : Int)) = True := eq_true (of_decide_eq_true (by first | (with_reducible assumption) | assumption)); replace q41 := eq_true q41))
                                        go_ret
                                        exact ⟨by first | rfl | (simp [errW_none, errW_some] <;> rfl) | (simp [*, errW_none, errW_some] <;> rfl), by repeat (first | (with_reducible first | exact HB.out | apply below_alloc | apply pw_below_drewN | apply below_drew1) | exact HB.out)⟩
                                      · rw [if_neg c61] at H
                                        have c61b0 : (t264.toList == ((a1 ++ a2) ++ a0).toList) = false := beq_eq_false_iff_ne.mpr c61
                                        have c61b1 : (t264.toList != ((a1 ++ a2) ++ a0).toList) = true := bne_iff_ne.mpr c61
                                        obtain rfl := Option.some.inj H
                                        go_wp2_with (first | ((with_reducible refine gate_callee (f := 14) rfl ?_); refine goesL_ (some 61) rfl rfl Try.func14 (by kernel_rfl) rfl #[.string ((((⟨#[48, 48]⟩ : ByteArray) ++ a1) ++ a2) ++ a0), .string a1, .string a2] rfl (by (try simp only [List.map_toArray, List.map_cons, List.map_nil]); first | done | rfl | (simp only [List.length_drop, List.length_take]; rfl)) ?_; (with_reducible refine (digits_Normalize.calls ((((⟨#[48, 48]⟩ : ByteArray) ++ a1) ++ a2) ++ a0) a1 a2 t266 t267 _ A22.out).mono ?_); rintro e w64 ⟨rfl, hb⟩; refine ⟨_, rfl, ?_⟩; have n0_ := Aside0.mk (below_step (by repeat (first | (with_reducible first | exact HB.out | apply below_alloc | apply pw_below_drewN | apply below_drew1) | exact HB.out)) hb); clear HB; have HB := n0_; clear n0_; (try clear hb); (try clear hb2); (try clear hk); (try clear hi)) | ((with_reducible refine gate_callee (f := 14) rfl ?_); refine goesL_ (some 71) rfl rfl Try.func14 (by kernel_rfl) rfl #[.string (((⟨#[48]⟩ : ByteArray) ++ a2) ++ a0), .string a1, .string a2] rfl (by (try simp only [List.map_toArray, List.map_cons, List.map_nil]); first | done | rfl | (simp only [List.length_drop, List.length_take]; rfl)) ?_; (with_reducible refine (digits_Normalize.calls (((⟨#[48]⟩ : ByteArray) ++ a2) ++ a0) a1 a2 t268 t269 _ A25.out).mono ?_); rintro e w65 ⟨rfl, hb⟩; refine ⟨_, rfl, ?_⟩; have n0_ := Aside0.mk (below_step (by repeat (first | (with_reducible first | exact HB.out | apply below_alloc | apply pw_below_drewN | apply below_drew1) | exact HB.out)) hb); clear HB; have HB := n0_; clear n0_; (try clear hb); (try clear hb2); (try clear hk); (try clear hi); have p41 : 0 ≤ (0 : Int) := (by omega); have q41 : 0 < a2.size := (by have : (0 : Int) < (a2.size : Int) := of_decide_eq_true (by first | (with_reducible assumption) | assumption); omega); have hx41 : ∀ h : 0 < a2.size, ((a2[0]'h).toNat : Int) = bt a2 0 := bt_at a2 0; clear p41; have qi41 : (0 < (a2.size : Int)) = True := eq_true (of_decide_eq_true (by first | (with_reducible assumption) | assumption)); replace q41 := eq_true q41))
                                        go_ret
                                        exact ⟨by first | rfl | (simp [errW_none, errW_some] <;> rfl) | (simp [*, errW_none, errW_some] <;> rfl), by repeat (first | (with_reducible first | exact HB.out | apply below_alloc | apply pw_below_drewN | apply below_drew1) | exact HB.out)⟩
                                    · rw [if_neg c60] at H
                                      exact absurd H (by simp)
                                  · rw [if_neg c59] at H
                                    exact absurd H (by simp)
                                · rw [if_neg c58] at H
                                  have c58b0 : (t266.toList == t264.toList) = false := beq_eq_false_iff_ne.mpr c58
                                  have c58b1 : (t266.toList != t264.toList) = true := bne_iff_ne.mpr c58
                                  obtain rfl := Option.some.inj H
                                  go_wp2_with (first | ((with_reducible refine gate_callee (f := 14) rfl ?_); refine goesL_ (some 61) rfl rfl Try.func14 (by kernel_rfl) rfl #[.string ((((⟨#[48, 48]⟩ : ByteArray) ++ a1) ++ a2) ++ a0), .string a1, .string a2] rfl (by (try simp only [List.map_toArray, List.map_cons, List.map_nil]); first | done | rfl | (simp only [List.length_drop, List.length_take]; rfl)) ?_; (with_reducible refine (digits_Normalize.calls ((((⟨#[48, 48]⟩ : ByteArray) ++ a1) ++ a2) ++ a0) a1 a2 t266 t267 _ A22.out).mono ?_); rintro e w66 ⟨rfl, hb⟩; refine ⟨_, rfl, ?_⟩; have n0_ := Aside0.mk (below_step (by repeat (first | (with_reducible first | exact HB.out | apply below_alloc | apply pw_below_drewN | apply below_drew1) | exact HB.out)) hb); clear HB; have HB := n0_; clear n0_; (try clear hb); (try clear hb2); (try clear hk); (try clear hi)) | ((with_reducible refine gate_callee (f := 14) rfl ?_); refine goesL_ (some 71) rfl rfl Try.func14 (by kernel_rfl) rfl #[.string (((⟨#[48]⟩ : ByteArray) ++ a2) ++ a0), .string a1, .string a2] rfl (by (try simp only [List.map_toArray, List.map_cons, List.map_nil]); first | done | rfl | (simp only [List.length_drop, List.length_take]; rfl)) ?_; (with_reducible refine (digits_Normalize.calls (((⟨#[48]⟩ : ByteArray) ++ a2) ++ a0) a1 a2 t268 t269 _ A25.out).mono ?_); rintro e w67 ⟨rfl, hb⟩; refine ⟨_, rfl, ?_⟩; have n0_ := Aside0.mk (below_step (by repeat (first | (with_reducible first | exact HB.out | apply below_alloc | apply pw_below_drewN | apply below_drew1) | exact HB.out)) hb); clear HB; have HB := n0_; clear n0_; (try clear hb); (try clear hb2); (try clear hk); (try clear hi); have p41 : 0 ≤ (0 : Int) := (by omega); have q41 : 0 < a2.size := (by have : (0 : Int) < (a2.size : Int) := of_decide_eq_true (by first | (with_reducible assumption) | assumption); omega); have hx41 : ∀ h : 0 < a2.size, ((a2[0]'h).toNat : Int) = bt a2 0 := bt_at a2 0; clear p41; have qi41 : (0 < (a2.size : Int)) = True := eq_true (of_decide_eq_true (by first | (with_reducible assumption) | assumption)); replace q41 := eq_true q41))
                                  go_ret
                                  exact ⟨by first | rfl | (simp [errW_none, errW_some] <;> rfl) | (simp [*, errW_none, errW_some] <;> rfl), by repeat (first | (with_reducible first | exact HB.out | apply below_alloc | apply pw_below_drewN | apply below_drew1) | exact HB.out)⟩
                              · rw [if_neg c57] at H
                                have c57b0 : (t267 == 0) = false := beq_eq_false_iff_ne.mpr c57
                                have c57b1 : (t267 != 0) = true := bne_iff_ne.mpr c57
                                obtain rfl := Option.some.inj H
                                go_wp2_with (first | ((with_reducible refine gate_callee (f := 14) rfl ?_); refine goesL_ (some 61) rfl rfl Try.func14 (by kernel_rfl) rfl #[.string ((((⟨#[48, 48]⟩ : ByteArray) ++ a1) ++ a2) ++ a0), .string a1, .string a2] rfl (by (try simp only [List.map_toArray, List.map_cons, List.map_nil]); first | done | rfl | (simp only [List.length_drop, List.length_take]; rfl)) ?_; (with_reducible refine (digits_Normalize.calls ((((⟨#[48, 48]⟩ : ByteArray) ++ a1) ++ a2) ++ a0) a1 a2 t266 t267 _ A22.out).mono ?_); rintro e w68 ⟨rfl, hb⟩; refine ⟨_, rfl, ?_⟩; have n0_ := Aside0.mk (below_step (by repeat (first | (with_reducible first | exact HB.out | apply below_alloc | apply pw_below_drewN | apply below_drew1) | exact HB.out)) hb); clear HB; have HB := n0_; clear n0_; (try clear hb); (try clear hb2); (try clear hk); (try clear hi)) | ((with_reducible refine gate_callee (f := 14) rfl ?_); refine goesL_ (some 71) rfl rfl Try.func14 (by kernel_rfl) rfl #[.string (((⟨#[48]⟩ : ByteArray) ++ a2) ++ a0), .string a1, .string a2] rfl (by (try simp only [List.map_toArray, List.map_cons, List.map_nil]); first | done | rfl | (simp only [List.length_drop, List.length_take]; rfl)) ?_; (with_reducible refine (digits_Normalize.calls (((⟨#[48]⟩ : ByteArray) ++ a2) ++ a0) a1 a2 t268 t269 _ A25.out).mono ?_); rintro e w69 ⟨rfl, hb⟩; refine ⟨_, rfl, ?_⟩; have n0_ := Aside0.mk (below_step (by repeat (first | (with_reducible first | exact HB.out | apply below_alloc | apply pw_below_drewN | apply below_drew1) | exact HB.out)) hb); clear HB; have HB := n0_; clear n0_; (try clear hb); (try clear hb2); (try clear hk); (try clear hi); have p41 : 0 ≤ (0 : Int) := (by omega); have q41 : 0 < a2.size := (by have : (0 : Int) < (a2.size : Int) := of_decide_eq_true (by first | (with_reducible assumption) | assumption); omega); have hx41 : ∀ h : 0 < a2.size, ((a2[0]'h).toNat : Int) = bt a2 0 := bt_at a2 0; clear p41; have qi41 : (0 < (a2.size : Int)) = True := eq_true (of_decide_eq_true (by first | (with_reducible assumption) | assumption)); replace q41 := eq_true q41))
                                go_ret
                                exact ⟨by first | rfl | (simp [errW_none, errW_some] <;> rfl) | (simp [*, errW_none, errW_some] <;> rfl), by repeat (first | (with_reducible first | exact HB.out | apply below_alloc | apply pw_below_drewN | apply below_drew1) | exact HB.out)⟩
                            · rw [if_neg c56] at H
                              have c56b0 : (t269 == 0) = false := beq_eq_false_iff_ne.mpr c56
                              have c56b1 : (t269 != 0) = true := bne_iff_ne.mpr c56
                              by_cases c70 : t267 = 0
                              · rw [if_pos c70] at H
                                have c70b0 : (t267 == 0) = true := beq_iff_eq.mpr c70
                                have c70b1 : (t267 != 0) = false := bne_eq_false_iff_eq.mpr c70
                                clear c70
                                by_cases c71 : t266.toList = t264.toList
                                · rw [if_pos c71] at H
                                  have c71b0 : (t266.toList == t264.toList) = true := beq_iff_eq.mpr c71
                                  have c71b1 : (t266.toList != t264.toList) = false := bne_eq_false_iff_eq.mpr c71
                                  clear c71
                                  by_cases c72 : a1.size + a2.size ≤ 9223372036854775807
                                  · rw [if_pos c72] at H
                                    have c72b0 := eq_true c72
                                    have c72b1 : decide (a1.size + a2.size ≤ 9223372036854775807) = true := decide_eq_true c72
                                    try have c72b2 : (9223372036854775807 < a1.size + a2.size) = False := eq_false (Nat.not_lt.2 c72)
                                    by_cases c73 : (a1 ++ a2).size + a0.size ≤ 9223372036854775807
                                    · rw [if_pos c73] at H
                                      have c73b0 := eq_true c73
                                      have c73b1 : decide ((a1 ++ a2).size + a0.size ≤ 9223372036854775807) = true := decide_eq_true c73
                                      try have c73b2 : (9223372036854775807 < (a1 ++ a2).size + a0.size) = False := eq_false (Nat.not_lt.2 c73)
                                      by_cases c74 : t264.toList = ((a1 ++ a2) ++ a0).toList
                                      · rw [if_pos c74] at H
                                        have c74b0 : (t264.toList == ((a1 ++ a2) ++ a0).toList) = true := beq_iff_eq.mpr c74
                                        have c74b1 : (t264.toList != ((a1 ++ a2) ++ a0).toList) = false := bne_eq_false_iff_eq.mpr c74
                                        clear c74
                                        obtain rfl := Option.some.inj H
                                        go_wp2_with (first | ((with_reducible refine gate_callee (f := 14) rfl ?_); refine goesL_ (some 61) rfl rfl Try.func14 (by kernel_rfl) rfl #[.string ((((⟨#[48, 48]⟩ : ByteArray) ++ a1) ++ a2) ++ a0), .string a1, .string a2] rfl (by (try simp only [List.map_toArray, List.map_cons, List.map_nil]); first | done | rfl | (simp only [List.length_drop, List.length_take]; rfl)) ?_; (with_reducible refine (digits_Normalize.calls ((((⟨#[48, 48]⟩ : ByteArray) ++ a1) ++ a2) ++ a0) a1 a2 t266 t267 _ A22.out).mono ?_); rintro e w75 ⟨rfl, hb⟩; refine ⟨_, rfl, ?_⟩; have n0_ := Aside0.mk (below_step (by repeat (first | (with_reducible first | exact HB.out | apply below_alloc | apply pw_below_drewN | apply below_drew1) | exact HB.out)) hb); clear HB; have HB := n0_; clear n0_; (try clear hb); (try clear hb2); (try clear hk); (try clear hi)) | ((with_reducible refine gate_callee (f := 14) rfl ?_); refine goesL_ (some 71) rfl rfl Try.func14 (by kernel_rfl) rfl #[.string (((⟨#[48]⟩ : ByteArray) ++ a2) ++ a0), .string a1, .string a2] rfl (by (try simp only [List.map_toArray, List.map_cons, List.map_nil]); first | done | rfl | (simp only [List.length_drop, List.length_take]; rfl)) ?_; (with_reducible refine (digits_Normalize.calls (((⟨#[48]⟩ : ByteArray) ++ a2) ++ a0) a1 a2 t268 t269 _ A25.out).mono ?_); rintro e w76 ⟨rfl, hb⟩; refine ⟨_, rfl, ?_⟩; have n0_ := Aside0.mk (below_step (by repeat (first | (with_reducible first | exact HB.out | apply below_alloc | apply pw_below_drewN | apply below_drew1) | exact HB.out)) hb); clear HB; have HB := n0_; clear n0_; (try clear hb); (try clear hb2); (try clear hk); (try clear hi); have p41 : 0 ≤ (0 : Int) := (by omega); have q41 : 0 < a2.size := (by have : (0 : Int) < (a2.size : Int) := of_decide_eq_true (by first | (with_reducible assumption) | assumption); omega); have hx41 : ∀ h : 0 < a2.size, ((a2[0]'h).toNat : Int) = bt a2 0 := bt_at a2 0; clear p41; have qi41 : (0 < (a2.size : Int)) = True := eq_true (of_decide_eq_true (by first | (with_reducible assumption) | assumption)); replace q41 := eq_true q41))
                                        go_ret
                                        exact ⟨by first | rfl | (simp [errW_none, errW_some] <;> rfl) | (simp [*, errW_none, errW_some] <;> rfl), by repeat (first | (with_reducible first | exact HB.out | apply below_alloc | apply pw_below_drewN | apply below_drew1) | exact HB.out)⟩
                                      · rw [if_neg c74] at H
                                        have c74b0 : (t264.toList == ((a1 ++ a2) ++ a0).toList) = false := beq_eq_false_iff_ne.mpr c74
                                        have c74b1 : (t264.toList != ((a1 ++ a2) ++ a0).toList) = true := bne_iff_ne.mpr c74
                                        obtain rfl := Option.some.inj H
                                        go_wp2_with (first | ((with_reducible refine gate_callee (f := 14) rfl ?_); refine goesL_ (some 61) rfl rfl Try.func14 (by kernel_rfl) rfl #[.string ((((⟨#[48, 48]⟩ : ByteArray) ++ a1) ++ a2) ++ a0), .string a1, .string a2] rfl (by (try simp only [List.map_toArray, List.map_cons, List.map_nil]); first | done | rfl | (simp only [List.length_drop, List.length_take]; rfl)) ?_; (with_reducible refine (digits_Normalize.calls ((((⟨#[48, 48]⟩ : ByteArray) ++ a1) ++ a2) ++ a0) a1 a2 t266 t267 _ A22.out).mono ?_); rintro e w77 ⟨rfl, hb⟩; refine ⟨_, rfl, ?_⟩; have n0_ := Aside0.mk (below_step (by repeat (first | (with_reducible first | exact HB.out | apply below_alloc | apply pw_below_drewN | apply below_drew1) | exact HB.out)) hb); clear HB; have HB := n0_; clear n0_; (try clear hb); (try clear hb2); (try clear hk); (try clear hi)) | ((with_reducible refine gate_callee (f := 14) rfl ?_); refine goesL_ (some 71) rfl rfl Try.func14 (by kernel_rfl) rfl #[.string (((⟨#[48]⟩ : ByteArray) ++ a2) ++ a0), .string a1, .string a2] rfl (by (try simp only [List.map_toArray, List.map_cons, List.map_nil]); first | done | rfl | (simp only [List.length_drop, List.length_take]; rfl)) ?_; (with_reducible refine (digits_Normalize.calls (((⟨#[48]⟩ : ByteArray) ++ a2) ++ a0) a1 a2 t268 t269 _ A25.out).mono ?_); rintro e w78 ⟨rfl, hb⟩; refine ⟨_, rfl, ?_⟩; have n0_ := Aside0.mk (below_step (by repeat (first | (with_reducible first | exact HB.out | apply below_alloc | apply pw_below_drewN | apply below_drew1) | exact HB.out)) hb); clear HB; have HB := n0_; clear n0_; (try clear hb); (try clear hb2); (try clear hk); (try clear hi); have p41 : 0 ≤ (0 : Int) := (by omega); have q41 : 0 < a2.size := (by have : (0 : Int) < (a2.size : Int) := of_decide_eq_true (by first | (with_reducible assumption) | assumption); omega); have hx41 : ∀ h : 0 < a2.size, ((a2[0]'h).toNat : Int) = bt a2 0 := bt_at a2 0; clear p41; have qi41 : (0 < (a2.size : Int)) = True := eq_true (of_decide_eq_true (by first | (with_reducible assumption) | assumption)); replace q41 := eq_true q41))
                                        go_ret
                                        exact ⟨by first | rfl | (simp [errW_none, errW_some] <;> rfl) | (simp [*, errW_none, errW_some] <;> rfl), by repeat (first | (with_reducible first | exact HB.out | apply below_alloc | apply pw_below_drewN | apply below_drew1) | exact HB.out)⟩
                                    · rw [if_neg c73] at H
                                      exact absurd H (by simp)
                                  · rw [if_neg c72] at H
                                    exact absurd H (by simp)
                                · rw [if_neg c71] at H
                                  have c71b0 : (t266.toList == t264.toList) = false := beq_eq_false_iff_ne.mpr c71
                                  have c71b1 : (t266.toList != t264.toList) = true := bne_iff_ne.mpr c71
                                  obtain rfl := Option.some.inj H
                                  go_wp2_with (first | ((with_reducible refine gate_callee (f := 14) rfl ?_); refine goesL_ (some 61) rfl rfl Try.func14 (by kernel_rfl) rfl #[.string ((((⟨#[48, 48]⟩ : ByteArray) ++ a1) ++ a2) ++ a0), .string a1, .string a2] rfl (by (try simp only [List.map_toArray, List.map_cons, List.map_nil]); first | done | rfl | (simp only [List.length_drop, List.length_take]; rfl)) ?_; (with_reducible refine (digits_Normalize.calls ((((⟨#[48, 48]⟩ : ByteArray) ++ a1) ++ a2) ++ a0) a1 a2 t266 t267 _ A22.out).mono ?_); rintro e w79 ⟨rfl, hb⟩; refine ⟨_, rfl, ?_⟩; have n0_ := Aside0.mk (below_step (by repeat (first | (with_reducible first | exact HB.out | apply below_alloc | apply pw_below_drewN | apply below_drew1) | exact HB.out)) hb); clear HB; have HB := n0_; clear n0_; (try clear hb); (try clear hb2); (try clear hk); (try clear hi)) | ((with_reducible refine gate_callee (f := 14) rfl ?_); refine goesL_ (some 71) rfl rfl Try.func14 (by kernel_rfl) rfl #[.string (((⟨#[48]⟩ : ByteArray) ++ a2) ++ a0), .string a1, .string a2] rfl (by (try simp only [List.map_toArray, List.map_cons, List.map_nil]); first | done | rfl | (simp only [List.length_drop, List.length_take]; rfl)) ?_; (with_reducible refine (digits_Normalize.calls (((⟨#[48]⟩ : ByteArray) ++ a2) ++ a0) a1 a2 t268 t269 _ A25.out).mono ?_); rintro e w80 ⟨rfl, hb⟩; refine ⟨_, rfl, ?_⟩; have n0_ := Aside0.mk (below_step (by repeat (first | (with_reducible first | exact HB.out | apply below_alloc | apply pw_below_drewN | apply below_drew1) | exact HB.out)) hb); clear HB; have HB := n0_; clear n0_; (try clear hb); (try clear hb2); (try clear hk); (try clear hi); have p41 : 0 ≤ (0 : Int) := (by omega); have q41 : 0 < a2.size := (by have : (0 : Int) < (a2.size : Int) := of_decide_eq_true (by first | (with_reducible assumption) | assumption); omega); have hx41 : ∀ h : 0 < a2.size, ((a2[0]'h).toNat : Int) = bt a2 0 := bt_at a2 0; clear p41; have qi41 : (0 < (a2.size : Int)) = True := eq_true (of_decide_eq_true (by first | (with_reducible assumption) | assumption)); replace q41 := eq_true q41))
                                  go_ret
                                  exact ⟨by first | rfl | (simp [errW_none, errW_some] <;> rfl) | (simp [*, errW_none, errW_some] <;> rfl), by repeat (first | (with_reducible first | exact HB.out | apply below_alloc | apply pw_below_drewN | apply below_drew1) | exact HB.out)⟩
                              · rw [if_neg c70] at H
                                have c70b0 : (t267 == 0) = false := beq_eq_false_iff_ne.mpr c70
                                have c70b1 : (t267 != 0) = true := bne_iff_ne.mpr c70
                                obtain rfl := Option.some.inj H
                                go_wp2_with (first | ((with_reducible refine gate_callee (f := 14) rfl ?_); refine goesL_ (some 61) rfl rfl Try.func14 (by kernel_rfl) rfl #[.string ((((⟨#[48, 48]⟩ : ByteArray) ++ a1) ++ a2) ++ a0), .string a1, .string a2] rfl (by (try simp only [List.map_toArray, List.map_cons, List.map_nil]); first | done | rfl | (simp only [List.length_drop, List.length_take]; rfl)) ?_; (with_reducible refine (digits_Normalize.calls ((((⟨#[48, 48]⟩ : ByteArray) ++ a1) ++ a2) ++ a0) a1 a2 t266 t267 _ A22.out).mono ?_); rintro e w81 ⟨rfl, hb⟩; refine ⟨_, rfl, ?_⟩; have n0_ := Aside0.mk (below_step (by repeat (first | (with_reducible first | exact HB.out | apply below_alloc | apply pw_below_drewN | apply below_drew1) | exact HB.out)) hb); clear HB; have HB := n0_; clear n0_; (try clear hb); (try clear hb2); (try clear hk); (try clear hi)) | ((with_reducible refine gate_callee (f := 14) rfl ?_); refine goesL_ (some 71) rfl rfl Try.func14 (by kernel_rfl) rfl #[.string (((⟨#[48]⟩ : ByteArray) ++ a2) ++ a0), .string a1, .string a2] rfl (by (try simp only [List.map_toArray, List.map_cons, List.map_nil]); first | done | rfl | (simp only [List.length_drop, List.length_take]; rfl)) ?_; (with_reducible refine (digits_Normalize.calls (((⟨#[48]⟩ : ByteArray) ++ a2) ++ a0) a1 a2 t268 t269 _ A25.out).mono ?_); rintro e w82 ⟨rfl, hb⟩; refine ⟨_, rfl, ?_⟩; have n0_ := Aside0.mk (below_step (by repeat (first | (with_reducible first | exact HB.out | apply below_alloc | apply pw_below_drewN | apply below_drew1) | exact HB.out)) hb); clear HB; have HB := n0_; clear n0_; (try clear hb); (try clear hb2); (try clear hk); (try clear hi); have p41 : 0 ≤ (0 : Int) := (by omega); have q41 : 0 < a2.size := (by have : (0 : Int) < (a2.size : Int) := of_decide_eq_true (by first | (with_reducible assumption) | assumption); omega); have hx41 : ∀ h : 0 < a2.size, ((a2[0]'h).toNat : Int) = bt a2 0 := bt_at a2 0; clear p41; have qi41 : (0 < (a2.size : Int)) = True := eq_true (of_decide_eq_true (by first | (with_reducible assumption) | assumption)); replace q41 := eq_true q41))
                                go_ret
                                exact ⟨by first | rfl | (simp [errW_none, errW_some] <;> rfl) | (simp [*, errW_none, errW_some] <;> rfl), by repeat (first | (with_reducible first | exact HB.out | apply below_alloc | apply pw_below_drewN | apply below_drew1) | exact HB.out)⟩
                        · rw [if_neg c40] at H
                          exact absurd H (by simp)
                    · rw [if_neg c24] at H
                      exact absurd H (by simp)
                  · rw [if_neg c23] at H
                    exact absurd H (by simp)
                · rw [if_neg c21] at H
                  exact absurd H (by simp)
              · rw [if_neg c20] at H
                exact absurd H (by simp)
            · rw [if_neg c19] at H
              exact absurd H (by simp)
    · replace c7 := Bool.eq_false_iff.mpr c7
      subst c7
      have H1 : (some true) = some r := by rw [if_neg (show ¬ (false = true) by decide)] at H; exact H
      clear H
      have H := H1
      clear H1
      obtain rfl := Option.some.inj H
      go_enter Try.func7, Try.ntmps7
      go_wp2_with (first | ((with_reducible refine gate_callee (f := 12) rfl ?_); refine goesL_ (some 14) rfl rfl Try.func12 (by kernel_rfl) rfl #[] rfl (by (try simp only [List.map_toArray, List.map_cons, List.map_nil]); first | done | rfl | (simp only [List.length_drop, List.length_take]; rfl)) ?_; (with_reducible refine (crossbarlaw06_sane.calls k  true _ A4.out).mono ?_); rintro e w83 ⟨rfl, hb⟩; refine ⟨_, rfl, ?_⟩; have n0_ := Aside0.mk (below_step (by repeat (first | (with_reducible first | exact HB.out | apply below_alloc | apply pw_below_drewN | apply below_drew1) | exact HB.out)) hb); clear HB; have HB := n0_; clear n0_; (try clear hb); (try clear hb2); (try clear hk); (try clear hi)) | ((with_reducible refine gate_callee (f := 13) rfl ?_); refine goesL_ (some 19) rfl rfl Try.func13 (by kernel_rfl) rfl #[.string a0, .string a1, .string a2] rfl (by (try simp only [List.map_toArray, List.map_cons, List.map_nil]); first | done | rfl | (simp only [List.length_drop, List.length_take]; rfl)) ?_; (with_reducible refine (crossbarlaw06_short.calls a0 a1 a2 false _ A6.out).mono ?_); rintro e w' ⟨rfl, ⟨nd, rfl⟩⟩; refine ⟨_, rfl, ?_⟩))
      go_ret
      exact ⟨by first | rfl | (simp [errW_none, errW_some] <;> rfl) | (simp [*, errW_none, errW_some] <;> rfl), by repeat (first | (with_reducible first | exact HB.out | apply below_alloc | apply pw_below_drewN | apply below_drew1) | exact HB.out)⟩
  · replace c5 := Bool.eq_false_iff.mpr c5
    subst c5
    have H1 : (some false) = some r := by rw [if_neg (show ¬ (false = true) by decide)] at H; exact H
    clear H
    have H := H1
    clear H1
    obtain rfl := Option.some.inj H
    go_enter Try.func7, Try.ntmps7
    go_wp2_with (first | ((with_reducible refine gate_callee (f := 12) rfl ?_); refine goesL_ (some 14) rfl rfl Try.func12 (by kernel_rfl) rfl #[] rfl (by (try simp only [List.map_toArray, List.map_cons, List.map_nil]); first | done | rfl | (simp only [List.length_drop, List.length_take]; rfl)) ?_; (with_reducible refine (crossbarlaw06_sane.calls k  false _ A4.out).mono ?_); rintro e w84 ⟨rfl, hb⟩; refine ⟨_, rfl, ?_⟩; have n0_ := Aside0.mk (below_step (by repeat (first | (with_reducible first | exact HB.out | apply below_alloc | apply pw_below_drewN | apply below_drew1) | exact HB.out)) hb); clear HB; have HB := n0_; clear n0_; (try clear hb); (try clear hb2); (try clear hk); (try clear hi)))
    go_ret
    exact ⟨by first | rfl | (simp [errW_none, errW_some] <;> rfl) | (simp [*, errW_none, errW_some] <;> rfl), by repeat (first | (with_reducible first | exact HB.out | apply below_alloc | apply pw_below_drewN | apply below_drew1) | exact HB.out)⟩

/-- THE ONE PURE STATEMENT of crossbarlaw06_DigitsFormsAgree: yours. -/
def crossbarlaw06_DigitsFormsAgree.Pure : Prop := ∀ (a0 : ByteArray) (a1 : ByteArray) (a2 : ByteArray), a0.size ≤ 140737488351232 → a1.size ≤ 140737488351232 → a2.size ≤ 140737488351232 → ∃ k, crossbarlaw06_DigitsFormsAgree.f k a0 a1 a2 = some true
theorem crossbarlaw06_DigitsFormsAgree.walk (P : crossbarlaw06_DigitsFormsAgree.Pure) (a0 : ByteArray) (a1 : ByteArray) (a2 : ByteArray) (w : World) (w0 : a0.size ≤ 140737488351232) (w1 : a1.size ≤ 140737488351232) (w2 : a2.size ≤ 140737488351232) :
    Calls Try.prog 7 #[.string a0, .string a1, .string a2] w fun e w' => e = .returned (.bool true) ∧ Below w.heap.size w w' := by
  obtain ⟨k, h⟩ := P a0 a1 a2 w0 w1 w2
  refine (crossbarlaw06_DigitsFormsAgree.calls k a0 a1 a2 true w h).mono ?_
  rintro e w' ⟨rfl, hd⟩
  exact ⟨rfl, hd⟩

end Go.Proofs.Ytajddminbfiipaa.Q
