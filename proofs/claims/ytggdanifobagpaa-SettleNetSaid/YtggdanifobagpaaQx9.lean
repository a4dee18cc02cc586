-- Written by a program of this session (print2.py) over the kit's print: nothing here is trusted: Lean checks it.
import Derived.Test.YtggdanifobagpaaQx0
import Derived.Test.YtggdanifobagpaaEExt
import Derived.Test.YtggdanifobagpaaQx7
import Derived.Test.YtggdanifobagpaaQx8
namespace Go.Proofs.Ytggdanifobagpaa.Q
open Go.RowKit Go.Proofs.YtggdanifobagpaaW.PrintWords Go.Proofs.YtggdanifobagpaaW.PrintLast Go.Proofs.YtggdanifobagpaaW.PrintMore Go.Proofs.Ytggdanifobagpaa.Ext
attribute [local go_sem] max2_int min2_int max_two min_two max_three min_three max_four min_four   -- for this text's walks alone
set_option linter.unusedVariables false
set_option linter.unusedSimpArgs false

/-! ### crossbarlaw31_SettleNet: function 8 -/
mutual
def crossbarlaw31_SettleNet.j0 : Nat → List (List Int) → List (List Int) → Bool → Option (Bool)
  | 0, _, _, _ => none
  | k + 1, x0, x3, x55 => if x55 = true then (some false) else (crossbarlaw31_SettleNet.l0 k x0 x3 0)
def crossbarlaw31_SettleNet.l0 : Nat → List (List Int) → List (List Int) → Int → Option (Bool)
  | 0, _, _, _ => none
  | k + 1, x0, x3, x7 => if x7 < (x3.length : Int) then (crossbarlaw31_SettleNet.l1 k x0 x3 x7 0 0 0) else (some true)
def crossbarlaw31_SettleNet.l1 : Nat → List (List Int) → List (List Int) → Int → Int → Int → Int → Option (Bool)
  | 0, _, _, _, _, _, _ => none
  | k + 1, x0, x3, x7, x8, x9, x10 => if x10 < (x3.length : Int) then (if 0 ≤ x7 then (if x7 < (x3.length : Int) then (if 0 ≤ x10 then (if x10 < ((rd_L4 x3 x7).length : Int) then (if (rd (rd_L4 x3 x7) x10) > 0 then (if x7 < ((rd_L4 x3 x10).length : Int) then (if (rd (rd_L4 x3 x10) x7) > 0 then (some false) else (if x7 < (x0.length : Int) then (if x10 < ((rd_L4 x0 x7).length : Int) then (if x10 < (x0.length : Int) then (if x7 < ((rd_L4 x0 x10).length : Int) then (crossbarlaw31_SettleNet.l1 k x0 x3 x7 (wrap64 ((wrap64 (x8 + (rd (rd_L4 x0 x7) x10))) - (rd (rd_L4 x0 x10) x7))) (wrap64 ((wrap64 (x9 + (rd (rd_L4 x3 x7) x10))) - (rd (rd_L4 x3 x10) x7))) (wrap64 (x10 + 1))) else (none)) else (none)) else (none)) else (none))) else (none)) else (if x7 < (x0.length : Int) then (if x10 < ((rd_L4 x0 x7).length : Int) then (if x10 < (x0.length : Int) then (if x7 < ((rd_L4 x0 x10).length : Int) then (if x7 < ((rd_L4 x3 x10).length : Int) then (crossbarlaw31_SettleNet.l1 k x0 x3 x7 (wrap64 ((wrap64 (x8 + (rd (rd_L4 x0 x7) x10))) - (rd (rd_L4 x0 x10) x7))) (wrap64 ((wrap64 (x9 + (rd (rd_L4 x3 x7) x10))) - (rd (rd_L4 x3 x10) x7))) (wrap64 (x10 + 1))) else (none)) else (none)) else (none)) else (none)) else (none))) else (none)) else (none)) else (none)) else (none)) else (if x8 = x9 then (crossbarlaw31_SettleNet.l0 k x0 x3 (wrap64 (x7 + 1))) else (some false))
end
def crossbarlaw31_SettleNet.f (k : Nat) (l0 : List (List Int)) : Option (Bool) := (crossbarlaw31_sane.f).bind fun t320 => (if t320 = true then (if (l0.length : Int) > 70 then (some true) else ((settle_Net.f k l0).bind fun bt321 => (if bt321.2 = 0 then ((settle_Net.f k bt321.1).bind fun bt325 => (if bt325.2 = 0 then ((crossbarref31_Rows.f k bt321.1 bt325.1).bind fun t329 => (if t329 = true then (if (bt321.1.length : Int) = (l0.length : Int) then ((crossbarref31_Matrix.f k l0).bind fun t330 => (if t330 = true then ((crossbarref31_Matrix.f k bt321.1).bind fun t331 => (crossbarlaw31_SettleNet.j0 k l0 bt321.1 (!t331))) else (crossbarlaw31_SettleNet.j0 k l0 bt321.1 true))) else (crossbarlaw31_SettleNet.j0 k l0 bt321.1 true)) else (crossbarlaw31_SettleNet.j0 k l0 bt321.1 true))) else (crossbarlaw31_SettleNet.j0 k l0 bt321.1 true))) else (some ((bt321.1.length : Int) == 0))))) else (some false))
theorem crossbarlaw31_SettleNet.mono_l : ∀ k, (∀ y0 y1 y2, LeO (crossbarlaw31_SettleNet.j0 k y0 y1 y2) (crossbarlaw31_SettleNet.j0 (k + 1) y0 y1 y2)) ∧ (∀ y0 y1 y2, LeO (crossbarlaw31_SettleNet.l0 k y0 y1 y2) (crossbarlaw31_SettleNet.l0 (k + 1) y0 y1 y2)) ∧ (∀ y0 y1 y2 y3 y4 y5, LeO (crossbarlaw31_SettleNet.l1 k y0 y1 y2 y3 y4 y5) (crossbarlaw31_SettleNet.l1 (k + 1) y0 y1 y2 y3 y4 y5))
  | 0 => ⟨fun _ _ _ r h => by simp [crossbarlaw31_SettleNet.j0] at h, fun _ _ _ r h => by simp [crossbarlaw31_SettleNet.l0] at h, fun _ _ _ _ _ _ r h => by simp [crossbarlaw31_SettleNet.l1] at h⟩
  | k + 1 => by
    obtain ⟨ih0, ih1, ih2⟩ := crossbarlaw31_SettleNet.mono_l k
    refine ⟨?_, ?_, ?_⟩
    · intro y0 y1 y2
      unfold crossbarlaw31_SettleNet.j0
      repeat' first
      | (with_reducible exact ih0 _ _ _)
      | (with_reducible exact ih1 _ _ _)
      | (with_reducible exact ih2 _ _ _ _ _ _)
      | (with_reducible exact crossbarref31_Matrix.mono _ _)
      | (with_reducible exact crossbarref31_Rows.mono _ _ _)
      | (with_reducible exact settle_Net.mono _ _)
      | (with_reducible exact LeO.refl _)
      | (with_reducible exact LeO.none _)
      | (with_reducible refine LeO.ite ?_ ?_)
      | (with_reducible refine LeO.bind ?_ (fun _ => ?_))
      | exact ih0 _ _ _
      | exact ih1 _ _ _
      | exact ih2 _ _ _ _ _ _
      | exact crossbarref31_Matrix.mono _ _
      | exact crossbarref31_Rows.mono _ _ _
      | exact settle_Net.mono _ _
      | exact LeO.none _
      | refine LeO.ite ?_ ?_
      | refine LeO.bind ?_ (fun _ => ?_)
    · intro y0 y1 y2
      unfold crossbarlaw31_SettleNet.l0
      repeat' first
      | (with_reducible exact ih0 _ _ _)
      | (with_reducible exact ih1 _ _ _)
      | (with_reducible exact ih2 _ _ _ _ _ _)
      | (with_reducible exact crossbarref31_Matrix.mono _ _)
      | (with_reducible exact crossbarref31_Rows.mono _ _ _)
      | (with_reducible exact settle_Net.mono _ _)
      | (with_reducible exact LeO.refl _)
      | (with_reducible exact LeO.none _)
      | (with_reducible refine LeO.ite ?_ ?_)
      | (with_reducible refine LeO.bind ?_ (fun _ => ?_))
      | exact ih0 _ _ _
      | exact ih1 _ _ _
      | exact ih2 _ _ _ _ _ _
      | exact crossbarref31_Matrix.mono _ _
      | exact crossbarref31_Rows.mono _ _ _
      | exact settle_Net.mono _ _
      | exact LeO.none _
      | refine LeO.ite ?_ ?_
      | refine LeO.bind ?_ (fun _ => ?_)
    · intro y0 y1 y2 y3 y4 y5
      unfold crossbarlaw31_SettleNet.l1
      repeat' first
      | (with_reducible exact ih0 _ _ _)
      | (with_reducible exact ih1 _ _ _)
      | (with_reducible exact ih2 _ _ _ _ _ _)
      | (with_reducible exact crossbarref31_Matrix.mono _ _)
      | (with_reducible exact crossbarref31_Rows.mono _ _ _)
      | (with_reducible exact settle_Net.mono _ _)
      | (with_reducible exact LeO.refl _)
      | (with_reducible exact LeO.none _)
      | (with_reducible refine LeO.ite ?_ ?_)
      | (with_reducible refine LeO.bind ?_ (fun _ => ?_))
      | exact ih0 _ _ _
      | exact ih1 _ _ _
      | exact ih2 _ _ _ _ _ _
      | exact crossbarref31_Matrix.mono _ _
      | exact crossbarref31_Rows.mono _ _ _
      | exact settle_Net.mono _ _
      | exact LeO.none _
      | refine LeO.ite ?_ ?_
      | refine LeO.bind ?_ (fun _ => ?_)
theorem crossbarlaw31_SettleNet.mono : ∀ a0 k, LeO (crossbarlaw31_SettleNet.f k a0) (crossbarlaw31_SettleNet.f (k + 1) a0) := by
  intro a0 k
  obtain ⟨ih0, ih1, ih2⟩ := crossbarlaw31_SettleNet.mono_l k
  unfold crossbarlaw31_SettleNet.f
  repeat' first
      | (with_reducible exact ih0 _ _ _)
      | (with_reducible exact ih1 _ _ _)
      | (with_reducible exact ih2 _ _ _ _ _ _)
      | (with_reducible exact crossbarref31_Matrix.mono _ _)
      | (with_reducible exact crossbarref31_Rows.mono _ _ _)
      | (with_reducible exact settle_Net.mono _ _)
      | (with_reducible exact LeO.refl _)
      | (with_reducible exact LeO.none _)
      | (with_reducible refine LeO.ite ?_ ?_)
      | (with_reducible refine LeO.bind ?_ (fun _ => ?_))
      | exact ih0 _ _ _
      | exact ih1 _ _ _
      | exact ih2 _ _ _ _ _ _
      | exact crossbarref31_Matrix.mono _ _
      | exact crossbarref31_Rows.mono _ _ _
      | exact settle_Net.mono _ _
      | exact LeO.none _
      | refine LeO.ite ?_ ?_
      | refine LeO.bind ?_ (fun _ => ?_)
set_option maxHeartbeats 8000000 in
set_option maxRecDepth 100000 in
theorem crossbarlaw31_SettleNet.calls (k : Nat) (A0 : Option Addr) (c0 : Nat) (l0 : List (List Int)) (r : Bool) (w : World) (hr0 : Kd.C (Kd.slice 3 (Kd.int .i64)) w A0 l0.length l0) (hc0 : l0.length ≤ c0) (h : crossbarlaw31_SettleNet.f k l0 = some r) :
    Calls Try.prog 8 #[.slice A0 l0.length c0] w fun e w' => e = .returned (.bool r) ∧ Below w.heap.size w w' := by
  have HR0 := Aside0.mk hr0
  have HC0 := Aside0.mk hc0
  clear hr0 hc0
  have HB := Aside0.mk (Below.refl w.heap.size w)
  have H : ((crossbarlaw31_sane.f).bind fun t320 => (if t320 = true then (if (l0.length : Int) > 70 then (some true) else ((settle_Net.f k l0).bind fun bt321 => (if bt321.2 = 0 then ((settle_Net.f k bt321.1).bind fun bt325 => (if bt325.2 = 0 then ((crossbarref31_Rows.f k bt321.1 bt325.1).bind fun t329 => (if t329 = true then (if (bt321.1.length : Int) = (l0.length : Int) then ((crossbarref31_Matrix.f k l0).bind fun t330 => (if t330 = true then ((crossbarref31_Matrix.f k bt321.1).bind fun t331 => (crossbarlaw31_SettleNet.j0 k l0 bt321.1 (!t331))) else (crossbarlaw31_SettleNet.j0 k l0 bt321.1 true))) else (crossbarlaw31_SettleNet.j0 k l0 bt321.1 true)) else (crossbarlaw31_SettleNet.j0 k l0 bt321.1 true))) else (crossbarlaw31_SettleNet.j0 k l0 bt321.1 true))) else (some ((bt321.1.length : Int) == 0))))) else (some false))) = some r := h
  clear h
  replace H := Option.bind_eq_some_iff.mp H
  obtain ⟨t320, A20, H⟩ := H
  replace H : (if t320 = true then (if (l0.length : Int) > 70 then (some true) else ((settle_Net.f k l0).bind fun bt321 => (if bt321.2 = 0 then ((settle_Net.f k bt321.1).bind fun bt325 => (if bt325.2 = 0 then ((crossbarref31_Rows.f k bt321.1 bt325.1).bind fun t329 => (if t329 = true then (if (bt321.1.length : Int) = (l0.length : Int) then ((crossbarref31_Matrix.f k l0).bind fun t330 => (if t330 = true then ((crossbarref31_Matrix.f k bt321.1).bind fun t331 => (crossbarlaw31_SettleNet.j0 k l0 bt321.1 (!t331))) else (crossbarlaw31_SettleNet.j0 k l0 bt321.1 true))) else (crossbarlaw31_SettleNet.j0 k l0 bt321.1 true)) else (crossbarlaw31_SettleNet.j0 k l0 bt321.1 true))) else (crossbarlaw31_SettleNet.j0 k l0 bt321.1 true))) else (some ((bt321.1.length : Int) == 0))))) else (some false)) = some r := H
  have A2 := Aside0.mk A20
  clear A20
  by_cases c3 : t320 = true
  · subst c3
    have H1 : (if (l0.length : Int) > 70 then (some true) else ((settle_Net.f k l0).bind fun bt321 => (if bt321.2 = 0 then ((settle_Net.f k bt321.1).bind fun bt325 => (if bt325.2 = 0 then ((crossbarref31_Rows.f k bt321.1 bt325.1).bind fun t329 => (if t329 = true then (if (bt321.1.length : Int) = (l0.length : Int) then ((crossbarref31_Matrix.f k l0).bind fun t330 => (if t330 = true then ((crossbarref31_Matrix.f k bt321.1).bind fun t331 => (crossbarlaw31_SettleNet.j0 k l0 bt321.1 (!t331))) else (crossbarlaw31_SettleNet.j0 k l0 bt321.1 true))) else (crossbarlaw31_SettleNet.j0 k l0 bt321.1 true)) else (crossbarlaw31_SettleNet.j0 k l0 bt321.1 true))) else (crossbarlaw31_SettleNet.j0 k l0 bt321.1 true))) else (some ((bt321.1.length : Int) == 0))))) = some r := by rw [if_pos rfl] at H; exact H
    clear H
    have H := H1
    clear H1
    by_cases c4 : (l0.length : Int) > 70
    · rw [if_pos c4] at H
      have c4b0 : decide (70 < (l0.length : Int)) = true := decide_eq_true c4
      have c4b1 : decide (70 < l0.length) = true := decide_eq_true (by omega)
      clear c4
      obtain rfl := Option.some.inj H
      go_enter Try.func8, Try.ntmps8
      go_wp2_with (first | (go_at_call 10; (with_reducible refine (crossbarlaw31_sane.calls  true _ A2.out).mono ?_); rintro e w5 ⟨rfl, hb⟩; have n0_ := Aside0.mk (below_step (by repeat (first | (with_reducible first | exact HB.out | apply below_alloc | apply pw_below_drewN | apply below_drew1) | exact HB.out)) hb); clear HB; have HB := n0_; clear n0_; (try clear hb); (try clear hb2); (try clear hk); (try clear hi)))
      repeat (go_quiet (first | (go_at_call 10; (with_reducible refine (crossbarlaw31_sane.calls  true _ A2.out).mono ?_); rintro e w5 ⟨rfl, hb⟩; have n0_ := Aside0.mk (below_step (by repeat (first | (with_reducible first | exact HB.out | apply below_alloc | apply pw_below_drewN | apply below_drew1) | exact HB.out)) hb); clear HB; have HB := n0_; clear n0_; (try clear hb); (try clear hb2); (try clear hk); (try clear hi))); try go_wp2_with (first | (go_at_call 10; (with_reducible refine (crossbarlaw31_sane.calls  true _ A2.out).mono ?_); rintro e w5 ⟨rfl, hb⟩; have n0_ := Aside0.mk (below_step (by repeat (first | (with_reducible first | exact HB.out | apply below_alloc | apply pw_below_drewN | apply below_drew1) | exact HB.out)) hb); clear HB; have HB := n0_; clear n0_; (try clear hb); (try clear hb2); (try clear hk); (try clear hi))))
      go_ret
      exact ⟨by first | rfl | (simp [errW_none, errW_some] <;> rfl) | (simp [*, errW_none, errW_some] <;> rfl), by repeat (first | (with_reducible first | exact HB.out | apply below_alloc | apply pw_below_drewN | apply below_drew1) | exact HB.out)⟩
    · rw [if_neg c4] at H
      have c4b0 : decide (70 < (l0.length : Int)) = false := decide_eq_false c4
      have c4b1 : decide (70 < l0.length) = false := decide_eq_false (by omega)
      clear c4
      replace H := Option.bind_eq_some_iff.mp H
      obtain ⟨⟨t321, t322⟩, A60, H⟩ := H
      replace H : (if t322 = 0 then ((settle_Net.f k t321).bind fun bt325 => (if bt325.2 = 0 then ((crossbarref31_Rows.f k t321 bt325.1).bind fun t329 => (if t329 = true then (if (t321.length : Int) = (l0.length : Int) then ((crossbarref31_Matrix.f k l0).bind fun t330 => (if t330 = true then ((crossbarref31_Matrix.f k t321).bind fun t331 => (crossbarlaw31_SettleNet.j0 k l0 t321 (!t331))) else (crossbarlaw31_SettleNet.j0 k l0 t321 true))) else (crossbarlaw31_SettleNet.j0 k l0 t321 true)) else (crossbarlaw31_SettleNet.j0 k l0 t321 true))) else (crossbarlaw31_SettleNet.j0 k l0 t321 true))) else (some ((t321.length : Int) == 0))) = some r := H
      have A6 := Aside0.mk A60
      clear A60
      by_cases c7 : t322 = 0
      · rw [if_pos c7] at H
        have c7b0 : (t322 == 0) = true := beq_iff_eq.mpr c7
        have c7b1 : (t322 != 0) = false := bne_eq_false_iff_eq.mpr c7
        clear c7
        replace H := Option.bind_eq_some_iff.mp H
        obtain ⟨⟨t325, t326⟩, A80, H⟩ := H
        replace H : (if t326 = 0 then ((crossbarref31_Rows.f k t321 t325).bind fun t329 => (if t329 = true then (if (t321.length : Int) = (l0.length : Int) then ((crossbarref31_Matrix.f k l0).bind fun t330 => (if t330 = true then ((crossbarref31_Matrix.f k t321).bind fun t331 => (crossbarlaw31_SettleNet.j0 k l0 t321 (!t331))) else (crossbarlaw31_SettleNet.j0 k l0 t321 true))) else (crossbarlaw31_SettleNet.j0 k l0 t321 true)) else (crossbarlaw31_SettleNet.j0 k l0 t321 true))) else (crossbarlaw31_SettleNet.j0 k l0 t321 true)) = some r := H
        have A8 := Aside0.mk A80
        clear A80
        have HC9 := Aside0.mk H
        clear H
        go_enter Try.func8, Try.ntmps8
        go_upto_region 9 with (first | (go_at_call 10; (with_reducible refine (crossbarlaw31_sane.calls  true _ A2.out).mono ?_); rintro e w10 ⟨rfl, hb⟩; have n0_ := Aside0.mk (below_step (by repeat (first | (with_reducible first | exact HB.out | apply below_alloc | apply pw_below_drewN | apply below_drew1) | exact HB.out)) hb); clear HB; have HB := n0_; clear n0_; (try clear hb); (try clear hb2); (try clear hk); (try clear hi)) | (go_at_call 20; (with_reducible refine (settle_Net.calls k _ _ l0 t321 t322 _ ?side1 ?side2 A6.out).mono ?_); (case side1 => repeat (first | exact (Kd.C_below HR0.out HB.out) | (with_reducible refine Kd.C_alloc ?_ _) | (with_reducible refine Kd.C_drewN ?_ _) | (with_reducible refine Kd.C_drew ?_))); (case side2 => exact HC0.out); rintro e w11 ⟨v323, rfl, ho0, hb⟩; have n0_ := Aside0.mk (Kd.S_lower ho0 (below_size (by repeat (first | (with_reducible first | exact HB.out | apply below_alloc | apply pw_below_drewN | apply below_drew1) | exact HB.out)))); have n1_ := Aside0.mk (below_step (by repeat (first | (with_reducible first | exact HB.out | apply below_alloc | apply pw_below_drewN | apply below_drew1) | exact HB.out)) hb); clear HB; have HO324 := n0_; have HB := n1_; clear n0_ n1_; (try clear hb); (try clear hb2); (try clear hk); (try clear hi); (try clear ho0); obtain ⟨Ao12, co12, eo12⟩ := Kd.S_slice HO324.out; subst eo12) | (go_at_call 20; (with_reducible refine (settle_Net.calls k _ _ t321 t325 t326 _ ?side1 ?side2 A8.out).mono ?_); (case side1 => repeat (first | exact (Kd.S_reads' HO324.out).2.2 | (with_reducible refine Kd.C_alloc ?_ _) | (with_reducible refine Kd.C_drewN ?_ _) | (with_reducible refine Kd.C_drew ?_))); (case side2 => exact (Kd.S_reads' HO324.out).2.1); rintro e w13 ⟨v327, rfl, ho0, hb⟩; have n0_ := Aside0.mk (Kd.S_elder' (by (with_reducible repeat (first | apply Kd.S_alloc | apply Kd.S_drewN | apply Kd.S_drew)); exact HO324.out) (Kd.S_base ho0) hb); have n1_ := Aside0.mk (Kd.S_lower (Kd.S_new' ho0 (Kd.S_lt (by (with_reducible repeat (first | apply Kd.S_alloc | apply Kd.S_drewN | apply Kd.S_drew)); exact HO324.out))) (below_size (by repeat (first | (with_reducible first | exact HB.out | apply below_alloc | apply pw_below_drewN | apply below_drew1) | exact HB.out)))); have n2_ := Aside0.mk (below_step (by repeat (first | (with_reducible first | exact HB.out | apply below_alloc | apply pw_below_drewN | apply below_drew1) | exact HB.out)) hb); clear HO324; clear HB; have HO324 := n0_; have HO328 := n1_; have HB := n2_; clear n0_ n1_ n2_; (try clear hb); (try clear hb2); (try clear hk); (try clear hi); (try clear ho0)))
        repeat (go_quiet (first | (go_at_call 10; (with_reducible refine (crossbarlaw31_sane.calls  true _ A2.out).mono ?_); rintro e w10 ⟨rfl, hb⟩; have n0_ := Aside0.mk (below_step (by repeat (first | (with_reducible first | exact HB.out | apply below_alloc | apply pw_below_drewN | apply below_drew1) | exact HB.out)) hb); clear HB; have HB := n0_; clear n0_; (try clear hb); (try clear hb2); (try clear hk); (try clear hi)) | (go_at_call 20; (with_reducible refine (settle_Net.calls k _ _ l0 t321 t322 _ ?side1 ?side2 A6.out).mono ?_); (case side1 => repeat (first | exact (Kd.C_below HR0.out HB.out) | (with_reducible refine Kd.C_alloc ?_ _) | (with_reducible refine Kd.C_drewN ?_ _) | (with_reducible refine Kd.C_drew ?_))); (case side2 => exact HC0.out); rintro e w11 ⟨v323, rfl, ho0, hb⟩; have n0_ := Aside0.mk (Kd.S_lower ho0 (below_size (by repeat (first | (with_reducible first | exact HB.out | apply below_alloc | apply pw_below_drewN | apply below_drew1) | exact HB.out)))); have n1_ := Aside0.mk (below_step (by repeat (first | (with_reducible first | exact HB.out | apply below_alloc | apply pw_below_drewN | apply below_drew1) | exact HB.out)) hb); clear HB; have HO324 := n0_; have HB := n1_; clear n0_ n1_; (try clear hb); (try clear hb2); (try clear hk); (try clear hi); (try clear ho0); obtain ⟨Ao12, co12, eo12⟩ := Kd.S_slice HO324.out; subst eo12) | (go_at_call 20; (with_reducible refine (settle_Net.calls k _ _ t321 t325 t326 _ ?side1 ?side2 A8.out).mono ?_); (case side1 => repeat (first | exact (Kd.S_reads' HO324.out).2.2 | (with_reducible refine Kd.C_alloc ?_ _) | (with_reducible refine Kd.C_drewN ?_ _) | (with_reducible refine Kd.C_drew ?_))); (case side2 => exact (Kd.S_reads' HO324.out).2.1); rintro e w13 ⟨v327, rfl, ho0, hb⟩; have n0_ := Aside0.mk (Kd.S_elder' (by (with_reducible repeat (first | apply Kd.S_alloc | apply Kd.S_drewN | apply Kd.S_drew)); exact HO324.out) (Kd.S_base ho0) hb); have n1_ := Aside0.mk (Kd.S_lower (Kd.S_new' ho0 (Kd.S_lt (by (with_reducible repeat (first | apply Kd.S_alloc | apply Kd.S_drewN | apply Kd.S_drew)); exact HO324.out))) (below_size (by repeat (first | (with_reducible first | exact HB.out | apply below_alloc | apply pw_below_drewN | apply below_drew1) | exact HB.out)))); have n2_ := Aside0.mk (below_step (by repeat (first | (with_reducible first | exact HB.out | apply below_alloc | apply pw_below_drewN | apply below_drew1) | exact HB.out)) hb); clear HO324; clear HB; have HO324 := n0_; have HO328 := n1_; have HB := n2_; clear n0_ n1_ n2_; (try clear hb); (try clear hb2); (try clear hk); (try clear hi); (try clear ho0))); go_upto_region 9 with (first | (go_at_call 10; (with_reducible refine (crossbarlaw31_sane.calls  true _ A2.out).mono ?_); rintro e w10 ⟨rfl, hb⟩; have n0_ := Aside0.mk (below_step (by repeat (first | (with_reducible first | exact HB.out | apply below_alloc | apply pw_below_drewN | apply below_drew1) | exact HB.out)) hb); clear HB; have HB := n0_; clear n0_; (try clear hb); (try clear hb2); (try clear hk); (try clear hi)) | (go_at_call 20; (with_reducible refine (settle_Net.calls k _ _ l0 t321 t322 _ ?side1 ?side2 A6.out).mono ?_); (case side1 => repeat (first | exact (Kd.C_below HR0.out HB.out) | (with_reducible refine Kd.C_alloc ?_ _) | (with_reducible refine Kd.C_drewN ?_ _) | (with_reducible refine Kd.C_drew ?_))); (case side2 => exact HC0.out); rintro e w11 ⟨v323, rfl, ho0, hb⟩; have n0_ := Aside0.mk (Kd.S_lower ho0 (below_size (by repeat (first | (with_reducible first | exact HB.out | apply below_alloc | apply pw_below_drewN | apply below_drew1) | exact HB.out)))); have n1_ := Aside0.mk (below_step (by repeat (first | (with_reducible first | exact HB.out | apply below_alloc | apply pw_below_drewN | apply below_drew1) | exact HB.out)) hb); clear HB; have HO324 := n0_; have HB := n1_; clear n0_ n1_; (try clear hb); (try clear hb2); (try clear hk); (try clear hi); (try clear ho0); obtain ⟨Ao12, co12, eo12⟩ := Kd.S_slice HO324.out; subst eo12) | (go_at_call 20; (with_reducible refine (settle_Net.calls k _ _ t321 t325 t326 _ ?side1 ?side2 A8.out).mono ?_); (case side1 => repeat (first | exact (Kd.S_reads' HO324.out).2.2 | (with_reducible refine Kd.C_alloc ?_ _) | (with_reducible refine Kd.C_drewN ?_ _) | (with_reducible refine Kd.C_drew ?_))); (case side2 => exact (Kd.S_reads' HO324.out).2.1); rintro e w13 ⟨v327, rfl, ho0, hb⟩; have n0_ := Aside0.mk (Kd.S_elder' (by (with_reducible repeat (first | apply Kd.S_alloc | apply Kd.S_drewN | apply Kd.S_drew)); exact HO324.out) (Kd.S_base ho0) hb); have n1_ := Aside0.mk (Kd.S_lower (Kd.S_new' ho0 (Kd.S_lt (by (with_reducible repeat (first | apply Kd.S_alloc | apply Kd.S_drewN | apply Kd.S_drew)); exact HO324.out))) (below_size (by repeat (first | (with_reducible first | exact HB.out | apply below_alloc | apply pw_below_drewN | apply below_drew1) | exact HB.out)))); have n2_ := Aside0.mk (below_step (by repeat (first | (with_reducible first | exact HB.out | apply below_alloc | apply pw_below_drewN | apply below_drew1) | exact HB.out)) hb); clear HO324; clear HB; have HO324 := n0_; have HO328 := n1_; have HB := n2_; clear n0_ n1_ n2_; (try clear hb); (try clear hb2); (try clear hk); (try clear hi); (try clear ho0))))
        (try simp only [Act.put, List.setIfInBounds_toArray, List.set_cons_zero, List.set_cons_succ])
        go_cut [55] (fun v55 wc => ∃ (kq : Nat) (x55_8 : Bool), v55 = .bool x55_8 ∧ Aside0 (crossbarlaw31_SettleNet.j0 kq l0 t321 x55_8 = some r) ∧ Aside0 (kq ≤ k) ∧ Aside0 (Kd.S (Kd.slice 3 (Kd.int .i64)) 25 wc w.heap.size (fun _ => True) (.slice Ao12 t321.length co12) t321) ∧ Aside0 (Below w.heap.size w wc))
        case first =>
          have H := HC9.out
          clear HC9
          by_cases c14 : t326 = 0
          · rw [if_pos c14] at H
            have c14b0 : (t326 == 0) = true := beq_iff_eq.mpr c14
            have c14b1 : (t326 != 0) = false := bne_eq_false_iff_eq.mpr c14
            clear c14
            (first | rw [c14b0] | (simp only [i64_w, i32_w]; rw [c14b0]) | skip)
            replace H := Option.bind_eq_some_iff.mp H
            obtain ⟨t329, A150, H⟩ := H
            replace H : (if t329 = true then (if (t321.length : Int) = (l0.length : Int) then ((crossbarref31_Matrix.f k l0).bind fun t330 => (if t330 = true then ((crossbarref31_Matrix.f k t321).bind fun t331 => (crossbarlaw31_SettleNet.j0 k l0 t321 (!t331))) else (crossbarlaw31_SettleNet.j0 k l0 t321 true))) else (crossbarlaw31_SettleNet.j0 k l0 t321 true)) else (crossbarlaw31_SettleNet.j0 k l0 t321 true)) = some r := H
            have A15 := Aside0.mk A150
            clear A150
            by_cases c16 : t329 = true
            · subst c16
              have H1 : (if (t321.length : Int) = (l0.length : Int) then ((crossbarref31_Matrix.f k l0).bind fun t330 => (if t330 = true then ((crossbarref31_Matrix.f k t321).bind fun t331 => (crossbarlaw31_SettleNet.j0 k l0 t321 (!t331))) else (crossbarlaw31_SettleNet.j0 k l0 t321 true))) else (crossbarlaw31_SettleNet.j0 k l0 t321 true)) = some r := by rw [if_pos rfl] at H; exact H
              clear H
              have H := H1
              clear H1
              by_cases c17 : (t321.length : Int) = (l0.length : Int)
              · rw [if_pos c17] at H
                have c17b0 : ((t321.length : Int) == (l0.length : Int)) = true := beq_iff_eq.mpr c17
                have c17b1 : ((t321.length : Int) != (l0.length : Int)) = false := bne_eq_false_iff_eq.mpr c17
                have c17b2 : (t321.length == l0.length) = true := by first | simpa using c17 | (simp at c17 ⊢; omega)
                clear c17
                replace H := Option.bind_eq_some_iff.mp H
                obtain ⟨t330, A180, H⟩ := H
                replace H : (if t330 = true then ((crossbarref31_Matrix.f k t321).bind fun t331 => (crossbarlaw31_SettleNet.j0 k l0 t321 (!t331))) else (crossbarlaw31_SettleNet.j0 k l0 t321 true)) = some r := H
                have A18 := Aside0.mk A180
                clear A180
                by_cases c19 : t330 = true
                · subst c19
                  have H1 : ((crossbarref31_Matrix.f k t321).bind fun t331 => (crossbarlaw31_SettleNet.j0 k l0 t321 (!t331))) = some r := by rw [if_pos rfl] at H; exact H
                  clear H
                  have H := H1
                  clear H1
                  replace H := Option.bind_eq_some_iff.mp H
                  obtain ⟨t331, A200, H⟩ := H
                  replace H : (crossbarlaw31_SettleNet.j0 k l0 t321 (!t331)) = some r := H
                  have A20 := Aside0.mk A200
                  clear A200
                  have H' := Aside0.mk H
                  clear H
                  obtain ⟨Ao21, co21, eo21⟩ := Kd.S_slice HO328.out
                  subst eo21
                  go_wp2_with (first | (go_at_call 21; (with_reducible refine (crossbarref31_Rows.calls k _ _ t321 _ _ t325 true _ ?side1 ?side2 ?side3 ?side4 A15.out).mono ?_); (case side1 => repeat (first | exact (Kd.S_reads' HO324.out).2.2 | (with_reducible refine Kd.C_alloc ?_ _) | (with_reducible refine Kd.C_drewN ?_ _) | (with_reducible refine Kd.C_drew ?_))); (case side2 => exact (Kd.S_reads' HO324.out).2.1); (case side3 => repeat (first | exact (Kd.S_reads' HO328.out).2.2 | (with_reducible refine Kd.C_alloc ?_ _) | (with_reducible refine Kd.C_drewN ?_ _) | (with_reducible refine Kd.C_drew ?_))); (case side4 => exact (Kd.S_reads' HO328.out).2.1); rintro e w' ⟨rfl, ⟨nd, rfl⟩⟩; (try first | exact ⟨rfl, _, World.drewN_drewN _ _ _⟩ | exact ⟨rfl, _, Eq.trans (World.drewN_drewN _ _ _) (congrArg (World.drewN _) (Nat.add_assoc _ _ _))⟩)) | (go_at_call 22; (with_reducible refine (crossbarref31_Matrix.calls k _ _ l0 true _ ?side1 ?side2 A18.out).mono ?_); (case side1 => repeat (first | exact (Kd.C_below HR0.out (by repeat (first | (with_reducible first | exact HB.out | apply below_alloc | apply pw_below_drewN | apply below_drew1) | exact HB.out))) | (with_reducible refine Kd.C_alloc ?_ _) | (with_reducible refine Kd.C_drewN ?_ _) | (with_reducible refine Kd.C_drew ?_))); (case side2 => exact HC0.out); rintro e w' ⟨rfl, ⟨nd, rfl⟩⟩; (try first | exact ⟨rfl, _, World.drewN_drewN _ _ _⟩ | exact ⟨rfl, _, Eq.trans (World.drewN_drewN _ _ _) (congrArg (World.drewN _) (Nat.add_assoc _ _ _))⟩)) | (go_at_call 22; (with_reducible refine (crossbarref31_Matrix.calls k _ _ t321 t331 _ ?side1 ?side2 A20.out).mono ?_); (case side1 => repeat (first | exact (Kd.S_reads' HO324.out).2.2 | (with_reducible refine Kd.C_alloc ?_ _) | (with_reducible refine Kd.C_drewN ?_ _) | (with_reducible refine Kd.C_drew ?_))); (case side2 => exact (Kd.S_reads' HO324.out).2.1); rintro e w' ⟨rfl, ⟨nd, rfl⟩⟩; (try first | exact ⟨rfl, _, World.drewN_drewN _ _ _⟩ | exact ⟨rfl, _, Eq.trans (World.drewN_drewN _ _ _) (congrArg (World.drewN _) (Nat.add_assoc _ _ _))⟩)))
                  repeat (go_quiet (first | (go_at_call 21; (with_reducible refine (crossbarref31_Rows.calls k _ _ t321 _ _ t325 true _ ?side1 ?side2 ?side3 ?side4 A15.out).mono ?_); (case side1 => repeat (first | exact (Kd.S_reads' HO324.out).2.2 | (with_reducible refine Kd.C_alloc ?_ _) | (with_reducible refine Kd.C_drewN ?_ _) | (with_reducible refine Kd.C_drew ?_))); (case side2 => exact (Kd.S_reads' HO324.out).2.1); (case side3 => repeat (first | exact (Kd.S_reads' HO328.out).2.2 | (with_reducible refine Kd.C_alloc ?_ _) | (with_reducible refine Kd.C_drewN ?_ _) | (with_reducible refine Kd.C_drew ?_))); (case side4 => exact (Kd.S_reads' HO328.out).2.1); rintro e w' ⟨rfl, ⟨nd, rfl⟩⟩; (try first | exact ⟨rfl, _, World.drewN_drewN _ _ _⟩ | exact ⟨rfl, _, Eq.trans (World.drewN_drewN _ _ _) (congrArg (World.drewN _) (Nat.add_assoc _ _ _))⟩)) | (go_at_call 22; (with_reducible refine (crossbarref31_Matrix.calls k _ _ l0 true _ ?side1 ?side2 A18.out).mono ?_); (case side1 => repeat (first | exact (Kd.C_below HR0.out (by repeat (first | (with_reducible first | exact HB.out | apply below_alloc | apply pw_below_drewN | apply below_drew1) | exact HB.out))) | (with_reducible refine Kd.C_alloc ?_ _) | (with_reducible refine Kd.C_drewN ?_ _) | (with_reducible refine Kd.C_drew ?_))); (case side2 => exact HC0.out); rintro e w' ⟨rfl, ⟨nd, rfl⟩⟩; (try first | exact ⟨rfl, _, World.drewN_drewN _ _ _⟩ | exact ⟨rfl, _, Eq.trans (World.drewN_drewN _ _ _) (congrArg (World.drewN _) (Nat.add_assoc _ _ _))⟩)) | (go_at_call 22; (with_reducible refine (crossbarref31_Matrix.calls k _ _ t321 t331 _ ?side1 ?side2 A20.out).mono ?_); (case side1 => repeat (first | exact (Kd.S_reads' HO324.out).2.2 | (with_reducible refine Kd.C_alloc ?_ _) | (with_reducible refine Kd.C_drewN ?_ _) | (with_reducible refine Kd.C_drew ?_))); (case side2 => exact (Kd.S_reads' HO324.out).2.1); rintro e w' ⟨rfl, ⟨nd, rfl⟩⟩; (try first | exact ⟨rfl, _, World.drewN_drewN _ _ _⟩ | exact ⟨rfl, _, Eq.trans (World.drewN_drewN _ _ _) (congrArg (World.drewN _) (Nat.add_assoc _ _ _))⟩))); try go_wp2_with (first | (go_at_call 21; (with_reducible refine (crossbarref31_Rows.calls k _ _ t321 _ _ t325 true _ ?side1 ?side2 ?side3 ?side4 A15.out).mono ?_); (case side1 => repeat (first | exact (Kd.S_reads' HO324.out).2.2 | (with_reducible refine Kd.C_alloc ?_ _) | (with_reducible refine Kd.C_drewN ?_ _) | (with_reducible refine Kd.C_drew ?_))); (case side2 => exact (Kd.S_reads' HO324.out).2.1); (case side3 => repeat (first | exact (Kd.S_reads' HO328.out).2.2 | (with_reducible refine Kd.C_alloc ?_ _) | (with_reducible refine Kd.C_drewN ?_ _) | (with_reducible refine Kd.C_drew ?_))); (case side4 => exact (Kd.S_reads' HO328.out).2.1); rintro e w' ⟨rfl, ⟨nd, rfl⟩⟩; (try first | exact ⟨rfl, _, World.drewN_drewN _ _ _⟩ | exact ⟨rfl, _, Eq.trans (World.drewN_drewN _ _ _) (congrArg (World.drewN _) (Nat.add_assoc _ _ _))⟩)) | (go_at_call 22; (with_reducible refine (crossbarref31_Matrix.calls k _ _ l0 true _ ?side1 ?side2 A18.out).mono ?_); (case side1 => repeat (first | exact (Kd.C_below HR0.out (by repeat (first | (with_reducible first | exact HB.out | apply below_alloc | apply pw_below_drewN | apply below_drew1) | exact HB.out))) | (with_reducible refine Kd.C_alloc ?_ _) | (with_reducible refine Kd.C_drewN ?_ _) | (with_reducible refine Kd.C_drew ?_))); (case side2 => exact HC0.out); rintro e w' ⟨rfl, ⟨nd, rfl⟩⟩; (try first | exact ⟨rfl, _, World.drewN_drewN _ _ _⟩ | exact ⟨rfl, _, Eq.trans (World.drewN_drewN _ _ _) (congrArg (World.drewN _) (Nat.add_assoc _ _ _))⟩)) | (go_at_call 22; (with_reducible refine (crossbarref31_Matrix.calls k _ _ t321 t331 _ ?side1 ?side2 A20.out).mono ?_); (case side1 => repeat (first | exact (Kd.S_reads' HO324.out).2.2 | (with_reducible refine Kd.C_alloc ?_ _) | (with_reducible refine Kd.C_drewN ?_ _) | (with_reducible refine Kd.C_drew ?_))); (case side2 => exact (Kd.S_reads' HO324.out).2.1); rintro e w' ⟨rfl, ⟨nd, rfl⟩⟩; (try first | exact ⟨rfl, _, World.drewN_drewN _ _ _⟩ | exact ⟨rfl, _, Eq.trans (World.drewN_drewN _ _ _) (congrArg (World.drewN _) (Nat.add_assoc _ _ _))⟩))))
                  go_meet
                  case rel => exact ⟨_, (!t331), (by first | rfl | (simp; done) | (simp [*]; done)), H', ⟨by first | omega | exact Nat.le_refl _⟩, ⟨by (with_reducible repeat (first | apply Kd.S_alloc | apply Kd.S_drewN | apply Kd.S_drew)); exact Kd.S_mono HO324.out (fun _ hk => trivial)⟩, ⟨by repeat (first | (with_reducible first | exact HB.out | apply below_alloc | apply pw_below_drewN | apply below_drew1) | exact HB.out)⟩⟩
                · replace c19 := Bool.eq_false_iff.mpr c19
                  subst c19
                  have H1 : (crossbarlaw31_SettleNet.j0 k l0 t321 true) = some r := by rw [if_neg (show ¬ (false = true) by decide)] at H; exact H
                  clear H
                  have H := H1
                  clear H1
                  have H' := Aside0.mk H
                  clear H
                  obtain ⟨Ao22, co22, eo22⟩ := Kd.S_slice HO328.out
                  subst eo22
                  go_wp2_with (first | (go_at_call 21; (with_reducible refine (crossbarref31_Rows.calls k _ _ t321 _ _ t325 true _ ?side1 ?side2 ?side3 ?side4 A15.out).mono ?_); (case side1 => repeat (first | exact (Kd.S_reads' HO324.out).2.2 | (with_reducible refine Kd.C_alloc ?_ _) | (with_reducible refine Kd.C_drewN ?_ _) | (with_reducible refine Kd.C_drew ?_))); (case side2 => exact (Kd.S_reads' HO324.out).2.1); (case side3 => repeat (first | exact (Kd.S_reads' HO328.out).2.2 | (with_reducible refine Kd.C_alloc ?_ _) | (with_reducible refine Kd.C_drewN ?_ _) | (with_reducible refine Kd.C_drew ?_))); (case side4 => exact (Kd.S_reads' HO328.out).2.1); rintro e w' ⟨rfl, ⟨nd, rfl⟩⟩; (try first | exact ⟨rfl, _, World.drewN_drewN _ _ _⟩ | exact ⟨rfl, _, Eq.trans (World.drewN_drewN _ _ _) (congrArg (World.drewN _) (Nat.add_assoc _ _ _))⟩)) | (go_at_call 22; (with_reducible refine (crossbarref31_Matrix.calls k _ _ l0 false _ ?side1 ?side2 A18.out).mono ?_); (case side1 => repeat (first | exact (Kd.C_below HR0.out (by repeat (first | (with_reducible first | exact HB.out | apply below_alloc | apply pw_below_drewN | apply below_drew1) | exact HB.out))) | (with_reducible refine Kd.C_alloc ?_ _) | (with_reducible refine Kd.C_drewN ?_ _) | (with_reducible refine Kd.C_drew ?_))); (case side2 => exact HC0.out); rintro e w' ⟨rfl, ⟨nd, rfl⟩⟩; (try first | exact ⟨rfl, _, World.drewN_drewN _ _ _⟩ | exact ⟨rfl, _, Eq.trans (World.drewN_drewN _ _ _) (congrArg (World.drewN _) (Nat.add_assoc _ _ _))⟩)))
                  repeat (go_quiet (first | (go_at_call 21; (with_reducible refine (crossbarref31_Rows.calls k _ _ t321 _ _ t325 true _ ?side1 ?side2 ?side3 ?side4 A15.out).mono ?_); (case side1 => repeat (first | exact (Kd.S_reads' HO324.out).2.2 | (with_reducible refine Kd.C_alloc ?_ _) | (with_reducible refine Kd.C_drewN ?_ _) | (with_reducible refine Kd.C_drew ?_))); (case side2 => exact (Kd.S_reads' HO324.out).2.1); (case side3 => repeat (first | exact (Kd.S_reads' HO328.out).2.2 | (with_reducible refine Kd.C_alloc ?_ _) | (with_reducible refine Kd.C_drewN ?_ _) | (with_reducible refine Kd.C_drew ?_))); (case side4 => exact (Kd.S_reads' HO328.out).2.1); rintro e w' ⟨rfl, ⟨nd, rfl⟩⟩; (try first | exact ⟨rfl, _, World.drewN_drewN _ _ _⟩ | exact ⟨rfl, _, Eq.trans (World.drewN_drewN _ _ _) (congrArg (World.drewN _) (Nat.add_assoc _ _ _))⟩)) | (go_at_call 22; (with_reducible refine (crossbarref31_Matrix.calls k _ _ l0 false _ ?side1 ?side2 A18.out).mono ?_); (case side1 => repeat (first | exact (Kd.C_below HR0.out (by repeat (first | (with_reducible first | exact HB.out | apply below_alloc | apply pw_below_drewN | apply below_drew1) | exact HB.out))) | (with_reducible refine Kd.C_alloc ?_ _) | (with_reducible refine Kd.C_drewN ?_ _) | (with_reducible refine Kd.C_drew ?_))); (case side2 => exact HC0.out); rintro e w' ⟨rfl, ⟨nd, rfl⟩⟩; (try first | exact ⟨rfl, _, World.drewN_drewN _ _ _⟩ | exact ⟨rfl, _, Eq.trans (World.drewN_drewN _ _ _) (congrArg (World.drewN _) (Nat.add_assoc _ _ _))⟩))); try go_wp2_with (first | (go_at_call 21; (with_reducible refine (crossbarref31_Rows.calls k _ _ t321 _ _ t325 true _ ?side1 ?side2 ?side3 ?side4 A15.out).mono ?_); (case side1 => repeat (first | exact (Kd.S_reads' HO324.out).2.2 | (with_reducible refine Kd.C_alloc ?_ _) | (with_reducible refine Kd.C_drewN ?_ _) | (with_reducible refine Kd.C_drew ?_))); (case side2 => exact (Kd.S_reads' HO324.out).2.1); (case side3 => repeat (first | exact (Kd.S_reads' HO328.out).2.2 | (with_reducible refine Kd.C_alloc ?_ _) | (with_reducible refine Kd.C_drewN ?_ _) | (with_reducible refine Kd.C_drew ?_))); (case side4 => exact (Kd.S_reads' HO328.out).2.1); rintro e w' ⟨rfl, ⟨nd, rfl⟩⟩; (try first | exact ⟨rfl, _, World.drewN_drewN _ _ _⟩ | exact ⟨rfl, _, Eq.trans (World.drewN_drewN _ _ _) (congrArg (World.drewN _) (Nat.add_assoc _ _ _))⟩)) | (go_at_call 22; (with_reducible refine (crossbarref31_Matrix.calls k _ _ l0 false _ ?side1 ?side2 A18.out).mono ?_); (case side1 => repeat (first | exact (Kd.C_below HR0.out (by repeat (first | (with_reducible first | exact HB.out | apply below_alloc | apply pw_below_drewN | apply below_drew1) | exact HB.out))) | (with_reducible refine Kd.C_alloc ?_ _) | (with_reducible refine Kd.C_drewN ?_ _) | (with_reducible refine Kd.C_drew ?_))); (case side2 => exact HC0.out); rintro e w' ⟨rfl, ⟨nd, rfl⟩⟩; (try first | exact ⟨rfl, _, World.drewN_drewN _ _ _⟩ | exact ⟨rfl, _, Eq.trans (World.drewN_drewN _ _ _) (congrArg (World.drewN _) (Nat.add_assoc _ _ _))⟩))))
                  go_meet
                  case rel => exact ⟨_, (true), (by first | rfl | (simp; done) | (simp [*]; done)), H', ⟨by first | omega | exact Nat.le_refl _⟩, ⟨by (with_reducible repeat (first | apply Kd.S_alloc | apply Kd.S_drewN | apply Kd.S_drew)); exact Kd.S_mono HO324.out (fun _ hk => trivial)⟩, ⟨by repeat (first | (with_reducible first | exact HB.out | apply below_alloc | apply pw_below_drewN | apply below_drew1) | exact HB.out)⟩⟩
              · rw [if_neg c17] at H
                have c17b0 : ((t321.length : Int) == (l0.length : Int)) = false := beq_eq_false_iff_ne.mpr c17
                have c17b1 : ((t321.length : Int) != (l0.length : Int)) = true := bne_iff_ne.mpr c17
                have c17b2 : (t321.length == l0.length) = false := by first | simpa using c17 | (simp at c17 ⊢; omega)
                have H' := Aside0.mk H
                clear H
                obtain ⟨Ao23, co23, eo23⟩ := Kd.S_slice HO328.out
                subst eo23
                go_wp2_with (first | (go_at_call 21; (with_reducible refine (crossbarref31_Rows.calls k _ _ t321 _ _ t325 true _ ?side1 ?side2 ?side3 ?side4 A15.out).mono ?_); (case side1 => repeat (first | exact (Kd.S_reads' HO324.out).2.2 | (with_reducible refine Kd.C_alloc ?_ _) | (with_reducible refine Kd.C_drewN ?_ _) | (with_reducible refine Kd.C_drew ?_))); (case side2 => exact (Kd.S_reads' HO324.out).2.1); (case side3 => repeat (first | exact (Kd.S_reads' HO328.out).2.2 | (with_reducible refine Kd.C_alloc ?_ _) | (with_reducible refine Kd.C_drewN ?_ _) | (with_reducible refine Kd.C_drew ?_))); (case side4 => exact (Kd.S_reads' HO328.out).2.1); rintro e w' ⟨rfl, ⟨nd, rfl⟩⟩; (try first | exact ⟨rfl, _, World.drewN_drewN _ _ _⟩ | exact ⟨rfl, _, Eq.trans (World.drewN_drewN _ _ _) (congrArg (World.drewN _) (Nat.add_assoc _ _ _))⟩)))
                repeat (go_quiet (first | (go_at_call 21; (with_reducible refine (crossbarref31_Rows.calls k _ _ t321 _ _ t325 true _ ?side1 ?side2 ?side3 ?side4 A15.out).mono ?_); (case side1 => repeat (first | exact (Kd.S_reads' HO324.out).2.2 | (with_reducible refine Kd.C_alloc ?_ _) | (with_reducible refine Kd.C_drewN ?_ _) | (with_reducible refine Kd.C_drew ?_))); (case side2 => exact (Kd.S_reads' HO324.out).2.1); (case side3 => repeat (first | exact (Kd.S_reads' HO328.out).2.2 | (with_reducible refine Kd.C_alloc ?_ _) | (with_reducible refine Kd.C_drewN ?_ _) | (with_reducible refine Kd.C_drew ?_))); (case side4 => exact (Kd.S_reads' HO328.out).2.1); rintro e w' ⟨rfl, ⟨nd, rfl⟩⟩; (try first | exact ⟨rfl, _, World.drewN_drewN _ _ _⟩ | exact ⟨rfl, _, Eq.trans (World.drewN_drewN _ _ _) (congrArg (World.drewN _) (Nat.add_assoc _ _ _))⟩))); try go_wp2_with (first | (go_at_call 21; (with_reducible refine (crossbarref31_Rows.calls k _ _ t321 _ _ t325 true _ ?side1 ?side2 ?side3 ?side4 A15.out).mono ?_); (case side1 => repeat (first | exact (Kd.S_reads' HO324.out).2.2 | (with_reducible refine Kd.C_alloc ?_ _) | (with_reducible refine Kd.C_drewN ?_ _) | (with_reducible refine Kd.C_drew ?_))); (case side2 => exact (Kd.S_reads' HO324.out).2.1); (case side3 => repeat (first | exact (Kd.S_reads' HO328.out).2.2 | (with_reducible refine Kd.C_alloc ?_ _) | (with_reducible refine Kd.C_drewN ?_ _) | (with_reducible refine Kd.C_drew ?_))); (case side4 => exact (Kd.S_reads' HO328.out).2.1); rintro e w' ⟨rfl, ⟨nd, rfl⟩⟩; (try first | exact ⟨rfl, _, World.drewN_drewN _ _ _⟩ | exact ⟨rfl, _, Eq.trans (World.drewN_drewN _ _ _) (congrArg (World.drewN _) (Nat.add_assoc _ _ _))⟩))))
                go_meet
                case rel => exact ⟨_, (true), (by first | rfl | (simp; done) | (simp [*]; done)), H', ⟨by first | omega | exact Nat.le_refl _⟩, ⟨by (with_reducible repeat (first | apply Kd.S_alloc | apply Kd.S_drewN | apply Kd.S_drew)); exact Kd.S_mono HO324.out (fun _ hk => trivial)⟩, ⟨by repeat (first | (with_reducible first | exact HB.out | apply below_alloc | apply pw_below_drewN | apply below_drew1) | exact HB.out)⟩⟩
            · replace c16 := Bool.eq_false_iff.mpr c16
              subst c16
              have H1 : (crossbarlaw31_SettleNet.j0 k l0 t321 true) = some r := by rw [if_neg (show ¬ (false = true) by decide)] at H; exact H
              clear H
              have H := H1
              clear H1
              have H' := Aside0.mk H
              clear H
              obtain ⟨Ao24, co24, eo24⟩ := Kd.S_slice HO328.out
              subst eo24
              go_wp2_with (first | (go_at_call 21; (with_reducible refine (crossbarref31_Rows.calls k _ _ t321 _ _ t325 false _ ?side1 ?side2 ?side3 ?side4 A15.out).mono ?_); (case side1 => repeat (first | exact (Kd.S_reads' HO324.out).2.2 | (with_reducible refine Kd.C_alloc ?_ _) | (with_reducible refine Kd.C_drewN ?_ _) | (with_reducible refine Kd.C_drew ?_))); (case side2 => exact (Kd.S_reads' HO324.out).2.1); (case side3 => repeat (first | exact (Kd.S_reads' HO328.out).2.2 | (with_reducible refine Kd.C_alloc ?_ _) | (with_reducible refine Kd.C_drewN ?_ _) | (with_reducible refine Kd.C_drew ?_))); (case side4 => exact (Kd.S_reads' HO328.out).2.1); rintro e w' ⟨rfl, ⟨nd, rfl⟩⟩; (try first | exact ⟨rfl, _, World.drewN_drewN _ _ _⟩ | exact ⟨rfl, _, Eq.trans (World.drewN_drewN _ _ _) (congrArg (World.drewN _) (Nat.add_assoc _ _ _))⟩)))
              repeat (go_quiet (first | (go_at_call 21; (with_reducible refine (crossbarref31_Rows.calls k _ _ t321 _ _ t325 false _ ?side1 ?side2 ?side3 ?side4 A15.out).mono ?_); (case side1 => repeat (first | exact (Kd.S_reads' HO324.out).2.2 | (with_reducible refine Kd.C_alloc ?_ _) | (with_reducible refine Kd.C_drewN ?_ _) | (with_reducible refine Kd.C_drew ?_))); (case side2 => exact (Kd.S_reads' HO324.out).2.1); (case side3 => repeat (first | exact (Kd.S_reads' HO328.out).2.2 | (with_reducible refine Kd.C_alloc ?_ _) | (with_reducible refine Kd.C_drewN ?_ _) | (with_reducible refine Kd.C_drew ?_))); (case side4 => exact (Kd.S_reads' HO328.out).2.1); rintro e w' ⟨rfl, ⟨nd, rfl⟩⟩; (try first | exact ⟨rfl, _, World.drewN_drewN _ _ _⟩ | exact ⟨rfl, _, Eq.trans (World.drewN_drewN _ _ _) (congrArg (World.drewN _) (Nat.add_assoc _ _ _))⟩))); try go_wp2_with (first | (go_at_call 21; (with_reducible refine (crossbarref31_Rows.calls k _ _ t321 _ _ t325 false _ ?side1 ?side2 ?side3 ?side4 A15.out).mono ?_); (case side1 => repeat (first | exact (Kd.S_reads' HO324.out).2.2 | (with_reducible refine Kd.C_alloc ?_ _) | (with_reducible refine Kd.C_drewN ?_ _) | (with_reducible refine Kd.C_drew ?_))); (case side2 => exact (Kd.S_reads' HO324.out).2.1); (case side3 => repeat (first | exact (Kd.S_reads' HO328.out).2.2 | (with_reducible refine Kd.C_alloc ?_ _) | (with_reducible refine Kd.C_drewN ?_ _) | (with_reducible refine Kd.C_drew ?_))); (case side4 => exact (Kd.S_reads' HO328.out).2.1); rintro e w' ⟨rfl, ⟨nd, rfl⟩⟩; (try first | exact ⟨rfl, _, World.drewN_drewN _ _ _⟩ | exact ⟨rfl, _, Eq.trans (World.drewN_drewN _ _ _) (congrArg (World.drewN _) (Nat.add_assoc _ _ _))⟩))))
              go_meet
              case rel => exact ⟨_, (true), (by first | rfl | (simp; done) | (simp [*]; done)), H', ⟨by first | omega | exact Nat.le_refl _⟩, ⟨by (with_reducible repeat (first | apply Kd.S_alloc | apply Kd.S_drewN | apply Kd.S_drew)); exact Kd.S_mono HO324.out (fun _ hk => trivial)⟩, ⟨by repeat (first | (with_reducible first | exact HB.out | apply below_alloc | apply pw_below_drewN | apply below_drew1) | exact HB.out)⟩⟩
          · rw [if_neg c14] at H
            have c14b0 : (t326 == 0) = false := beq_eq_false_iff_ne.mpr c14
            have c14b1 : (t326 != 0) = true := bne_iff_ne.mpr c14
            (first | rw [c14b0] | (simp only [i64_w, i32_w]; rw [c14b0]) | skip)
            have H' := Aside0.mk H
            clear H
            go_wp2
            repeat (go_quiet (fail); try go_wp2)
            go_meet
            case rel => exact ⟨_, (true), (by first | rfl | (simp; done) | (simp [*]; done)), H', ⟨by first | omega | exact Nat.le_refl _⟩, ⟨by (with_reducible repeat (first | apply Kd.S_alloc | apply Kd.S_drewN | apply Kd.S_drew)); exact Kd.S_mono HO324.out (fun _ hk => trivial)⟩, ⟨by repeat (first | (with_reducible first | exact HB.out | apply below_alloc | apply pw_below_drewN | apply below_drew1) | exact HB.out)⟩⟩
        case rest =>
          clear HC9
          try clear c1
          try clear p2
          try clear c3
          try clear c4
          try clear c4b0
          try clear c4b1
          try clear c7
          try clear c7b0
          try clear c7b1
          try clear c8
          try clear c14
          try clear c14b0
          try clear c14b1
          try clear c16
          try clear c17
          try clear c17b0
          try clear c17b1
          try clear c17b2
          try clear c19
          obtain ⟨kq, x55_8, rfl, HA, HJ8, HO_3, HB⟩ := hcut
          cases kq with
          | zero => exact absurd HA.out (by simp [crossbarlaw31_SettleNet.j0])
          | succ kj8 =>
            have H := HA.out
            clear HA
            simp only [crossbarlaw31_SettleNet.j0] at H
            by_cases c25 : x55_8 = true
            · subst c25
              have H1 : (some false) = some r := by rw [if_pos rfl] at H; exact H
              clear H
              have H := H1
              clear H1
              obtain rfl := Option.some.inj H
              go_wp2
              repeat (go_quiet (fail); try go_wp2)
              go_ret
              exact ⟨by first | rfl | (simp [errW_none, errW_some] <;> rfl) | (simp [*, errW_none, errW_some] <;> rfl), by repeat (first | (with_reducible first | exact HB.out | apply below_alloc | apply pw_below_drewN | apply below_drew1) | exact HB.out)⟩
            · replace c25 := Bool.eq_false_iff.mpr c25
              subst c25
              have H1 : (crossbarlaw31_SettleNet.l0 kj8 l0 t321 0) = some r := by rw [if_neg (show ¬ (false = true) by decide)] at H; exact H
              clear H
              have H := H1
              clear H1
              have H' := Aside0.mk H
              clear H
              go_wp2
              repeat (go_quiet (fail); try go_wp2)
              go_loopg [7] kj8 (fun kq v7 w' => ∃ (x7_2 : Int), v7 = .int .i64 x7_2 ∧ Aside0 (crossbarlaw31_SettleNet.l0 kq l0 t321 x7_2 = some r) ∧ Aside0 (kq ≤ kj8) ∧ Aside0 (Kd.S (Kd.slice 3 (Kd.int .i64)) 25 w' w.heap.size (fun _ => True) (.slice Ao12 t321.length co12) t321) ∧ Aside0 (Below w.heap.size w w'))
              case atStart => exact ⟨(0), (by first | rfl | (simp; done) | (simp [*]; done)), H', ⟨Nat.le_refl _⟩, ⟨by (with_reducible repeat (first | apply Kd.S_alloc | apply Kd.S_drewN | apply Kd.S_drew)); exact HO_3.out⟩, ⟨by repeat (first | (with_reducible first | exact HB.out | apply below_alloc | apply pw_below_drewN | apply below_drew1) | exact HB.out)⟩⟩
              case round =>
                clear H'
                try clear c1
                try clear c2
                try clear p2
                try clear c3
                try clear c4
                try clear c4b0
                try clear c4b1
                try clear c7
                try clear c7b0
                try clear c7b1
                try clear c8
                try clear c14
                try clear c14b0
                try clear c14b1
                try clear c16
                try clear c17
                try clear c17b0
                try clear c17b1
                try clear c17b2
                try clear c19
                try clear c25
                try clear p2
                obtain ⟨x7_2, rfl, HA, HK2, HO_3, HB⟩ := hrel
                cases gk with
                | zero => exact absurd HA.out (by simp [crossbarlaw31_SettleNet.l0])
                | succ k2 =>
                  have H := HA.out
                  clear HA
                  simp only [crossbarlaw31_SettleNet.l0] at H
                  by_cases c26 : x7_2 < (t321.length : Int)
                  · rw [if_pos c26] at H
                    have c26b0 : decide (x7_2 < (t321.length : Int)) = true := decide_eq_true c26
                    clear c26
                    have H' := Aside0.mk H
                    clear H
                    go_wp2
                    repeat (go_quiet (fail); try go_wp2)
                    go_loopg [8, 9, 10] k2 (fun kq v8 v9 v10 w' => ∃ (x8_3 : Int) (x9_3 : Int) (x10_3 : Int), v8 = .int .i64 x8_3 ∧ v9 = .int .i64 x9_3 ∧ v10 = .int .i64 x10_3 ∧ Aside0 (crossbarlaw31_SettleNet.l1 kq l0 t321 x7_2 x8_3 x9_3 x10_3 = some r) ∧ Aside0 (kq ≤ k2) ∧ Aside0 (Kd.S (Kd.slice 3 (Kd.int .i64)) 25 w' w.heap.size (fun _ => True) (.slice Ao12 t321.length co12) t321) ∧ Aside0 (Below w.heap.size w w'))
                    case atStart => exact ⟨(0), (0), (0), (by first | rfl | (simp; done) | (simp [*]; done)), (by first | rfl | (simp; done) | (simp [*]; done)), (by first | rfl | (simp; done) | (simp [*]; done)), H', ⟨Nat.le_refl _⟩, ⟨by (with_reducible repeat (first | apply Kd.S_alloc | apply Kd.S_drewN | apply Kd.S_drew)); exact HO_3.out⟩, ⟨by repeat (first | (with_reducible first | exact HB.out | apply below_alloc | apply pw_below_drewN | apply below_drew1) | exact HB.out)⟩⟩
                    case round =>
                      clear H'
                      try clear c1
                      try clear c2
                      try clear p2
                      try clear c3
                      try clear c4
                      try clear c4b0
                      try clear c4b1
                      try clear c7
                      try clear c7b0
                      try clear c7b1
                      try clear c8
                      try clear c14
                      try clear c14b0
                      try clear c14b1
                      try clear c16
                      try clear c17
                      try clear c17b0
                      try clear c17b1
                      try clear c17b2
                      try clear c19
                      try clear c25
                      try clear c26
                      try clear c26b0
                      try clear p2
                      obtain ⟨x8_3, x9_3, x10_3, rfl, rfl, rfl, HA, HK3, HO_3, HB⟩ := hrel
                      cases gk with
                      | zero => exact absurd HA.out (by simp [crossbarlaw31_SettleNet.l1])
                      | succ k3 =>
                        have H := HA.out
                        clear HA
                        simp only [crossbarlaw31_SettleNet.l1] at H
                        by_cases c27 : x10_3 < (t321.length : Int)
                        · rw [if_pos c27] at H
                          have c27b0 : decide (x10_3 < (t321.length : Int)) = true := decide_eq_true c27
                          clear c27
                          by_cases c28 : 0 ≤ x7_2
                          · rw [if_pos c28] at H
                            have c28b0 : decide (0 ≤ x7_2) = true := decide_eq_true c28
                            clear c28
                            by_cases c29 : x7_2 < (t321.length : Int)
                            · rw [if_pos c29] at H
                              have c29b0 : decide (x7_2 < (t321.length : Int)) = true := decide_eq_true c29
                              clear c29
                              by_cases c30 : 0 ≤ x10_3
                              · rw [if_pos c30] at H
                                have c30b0 : decide (0 ≤ x10_3) = true := decide_eq_true c30
                                clear c30
                                by_cases c31 : x10_3 < ((rd_L4 t321 x7_2).length : Int)
                                · rw [if_pos c31] at H
                                  have c31b0 : decide (x10_3 < ((rd_L4 t321 x7_2).length : Int)) = true := decide_eq_true c31
                                  clear c31
                                  by_cases c32 : (rd (rd_L4 t321 x7_2) x10_3) > 0
                                  · rw [if_pos c32] at H
                                    have c32b0 : decide (0 < (rd (rd_L4 t321 x7_2) x10_3)) = true := decide_eq_true c32
                                    clear c32
                                    by_cases c33 : x7_2 < ((rd_L4 t321 x10_3).length : Int)
                                    · rw [if_pos c33] at H
                                      have c33b0 : decide (x7_2 < ((rd_L4 t321 x10_3).length : Int)) = true := decide_eq_true c33
                                      clear c33
                                      by_cases c34 : (rd (rd_L4 t321 x10_3) x7_2) > 0
                                      · rw [if_pos c34] at H
                                        have c34b0 : decide (0 < (rd (rd_L4 t321 x10_3) x7_2)) = true := decide_eq_true c34
                                        clear c34
                                        obtain rfl := Option.some.inj H
                                        have p332 : 0 ≤ (x7_2 : Int) := of_decide_eq_true (by first | (with_reducible assumption) | assumption)
                                        have q332 : x7_2 < (t321.length : Int) := of_decide_eq_true (by first | (with_reducible assumption) | assumption)
                                        obtain ⟨ad332, A332_0, c332_0, e332, hx332_0, hl332_0, hi332_0⟩ := at_L4 (Kd.S_reads' HO_3.out).2.2 x7_2 p332 q332
                                        cases e332
                                        obtain ⟨ce332, hce332, hMe332, hcc332⟩ := Kd.S_get HO_3.out [] x7_2 p332 (by first | exact q332 | exact of_decide_eq_true (by first | (with_reducible assumption) | assumption) | (have e_ := (Kd.S_reads' HO_3.out).1; omega))
                                        obtain ⟨ve332_0, rfl, ge332_0⟩ := hMe332
                                        have hv332_0 := hcc332 0 _ rfl
                                        rw [Nat.add_zero, show ((Kd.slice 3 (Kd.int .i64))).sz = 1 from rfl, Nat.mul_one] at hv332_0
                                        replace hv332_0 := Option.some.inj (hv332_0.symm.trans hx332_0)
                                        rw [hv332_0] at ge332_0
                                        have HL332_0 := Aside0.mk (show Kd.R (Kd.int .i64) 3 _ _ _ _ (rd_L4 t321 x7_2) from ge332_0)
                                        clear hv332_0 ge332_0
                                        clear hcc332 hce332
                                        have HR332_0 := Aside0.mk hi332_0
                                        have HC332_0 := Aside0.mk hl332_0
                                        clear hi332_0 hl332_0
                                        replace p332 := eq_true p332
                                        replace q332 := eq_true q332
                                        have p333 : 0 ≤ (x10_3 : Int) := of_decide_eq_true (by first | (with_reducible assumption) | assumption)
                                        have q333 : x10_3 < ((rd_L4 t321 x7_2).length : Int) := of_decide_eq_true (by first | (with_reducible assumption) | assumption)
                                        obtain ⟨ad333, e333, hx333_0⟩ := Kd.at_int (by repeat (first | (with_reducible exact HR332_0.out) | (with_reducible refine Kd.C_alloc ?_ _) | (with_reducible refine Kd.C_drewN ?_ _) | (with_reducible refine Kd.C_drew ?_) | exact HR332_0.out)) x10_3 p333 q333
                                        cases e333
                                        replace p333 := eq_true p333
                                        replace q333 := eq_true q333
                                        have p334 : 0 ≤ (x10_3 : Int) := of_decide_eq_true (by first | (with_reducible assumption) | assumption)
                                        have q334 : x10_3 < (t321.length : Int) := of_decide_eq_true (by first | (with_reducible assumption) | assumption)
                                        obtain ⟨ad334, A334_0, c334_0, e334, hx334_0, hl334_0, hi334_0⟩ := at_L4 (Kd.S_reads' HO_3.out).2.2 x10_3 p334 q334
                                        obtain rfl : ad332 = ad334 := (by injection e334)
                                        obtain ⟨ce334, hce334, hMe334, hcc334⟩ := Kd.S_get HO_3.out [] x10_3 p334 (by first | exact q334 | exact of_decide_eq_true (by first | (with_reducible assumption) | assumption) | (have e_ := (Kd.S_reads' HO_3.out).1; omega))
                                        obtain ⟨ve334_0, rfl, ge334_0⟩ := hMe334
                                        have hv334_0 := hcc334 0 _ rfl
                                        rw [Nat.add_zero, show ((Kd.slice 3 (Kd.int .i64))).sz = 1 from rfl, Nat.mul_one] at hv334_0
                                        replace hv334_0 := Option.some.inj (hv334_0.symm.trans hx334_0)
                                        rw [hv334_0] at ge334_0
                                        have HL334_0 := Aside0.mk (show Kd.R (Kd.int .i64) 3 _ _ _ _ (rd_L4 t321 x10_3) from ge334_0)
                                        clear hv334_0 ge334_0
                                        clear hcc334 hce334
                                        have HR334_0 := Aside0.mk hi334_0
                                        have HC334_0 := Aside0.mk hl334_0
                                        clear hi334_0 hl334_0
                                        replace p334 := eq_true p334
                                        replace q334 := eq_true q334
                                        have p335 : 0 ≤ (x7_2 : Int) := of_decide_eq_true (by first | (with_reducible assumption) | assumption)
                                        have q335 : x7_2 < ((rd_L4 t321 x10_3).length : Int) := of_decide_eq_true (by first | (with_reducible assumption) | assumption)
                                        obtain ⟨ad335, e335, hx335_0⟩ := Kd.at_int (by repeat (first | (with_reducible exact HR334_0.out) | (with_reducible refine Kd.C_alloc ?_ _) | (with_reducible refine Kd.C_drewN ?_ _) | (with_reducible refine Kd.C_drew ?_) | exact HR334_0.out)) x7_2 p335 q335
                                        cases e335
                                        replace p335 := eq_true p335
                                        replace q335 := eq_true q335
                                        go_wp2
                                        repeat (go_quiet (fail); try go_wp2)
                                        go_ret
                                        exact ⟨by first | rfl | (simp [errW_none, errW_some] <;> rfl) | (simp [*, errW_none, errW_some] <;> rfl), by repeat (first | (with_reducible first | exact HB.out | apply below_alloc | apply pw_below_drewN | apply below_drew1) | exact HB.out)⟩
                                      · rw [if_neg c34] at H
                                        have c34b0 : decide (0 < (rd (rd_L4 t321 x10_3) x7_2)) = false := decide_eq_false c34
                                        clear c34
                                        by_cases c35 : x7_2 < (l0.length : Int)
                                        · rw [if_pos c35] at H
                                          have c35b0 : decide (x7_2 < (l0.length : Int)) = true := decide_eq_true c35
                                          clear c35
                                          by_cases c36 : x10_3 < ((rd_L4 l0 x7_2).length : Int)
                                          · rw [if_pos c36] at H
                                            have c36b0 : decide (x10_3 < ((rd_L4 l0 x7_2).length : Int)) = true := decide_eq_true c36
                                            clear c36
                                            by_cases c37 : x10_3 < (l0.length : Int)
                                            · rw [if_pos c37] at H
                                              have c37b0 : decide (x10_3 < (l0.length : Int)) = true := decide_eq_true c37
                                              clear c37
                                              by_cases c38 : x7_2 < ((rd_L4 l0 x10_3).length : Int)
                                              · rw [if_pos c38] at H
                                                have c38b0 : decide (x7_2 < ((rd_L4 l0 x10_3).length : Int)) = true := decide_eq_true c38
                                                clear c38
                                                have H' := Aside0.mk H
                                                clear H
                                                have p332 : 0 ≤ (x7_2 : Int) := of_decide_eq_true (by first | (with_reducible assumption) | assumption)
                                                have q332 : x7_2 < (t321.length : Int) := of_decide_eq_true (by first | (with_reducible assumption) | assumption)
                                                obtain ⟨ad332, A332_0, c332_0, e332, hx332_0, hl332_0, hi332_0⟩ := at_L4 (Kd.S_reads' HO_3.out).2.2 x7_2 p332 q332
                                                cases e332
                                                obtain ⟨ce332, hce332, hMe332, hcc332⟩ := Kd.S_get HO_3.out [] x7_2 p332 (by first | exact q332 | exact of_decide_eq_true (by first | (with_reducible assumption) | assumption) | (have e_ := (Kd.S_reads' HO_3.out).1; omega))
                                                obtain ⟨ve332_0, rfl, ge332_0⟩ := hMe332
                                                have hv332_0 := hcc332 0 _ rfl
                                                rw [Nat.add_zero, show ((Kd.slice 3 (Kd.int .i64))).sz = 1 from rfl, Nat.mul_one] at hv332_0
                                                replace hv332_0 := Option.some.inj (hv332_0.symm.trans hx332_0)
                                                rw [hv332_0] at ge332_0
                                                have HL332_0 := Aside0.mk (show Kd.R (Kd.int .i64) 3 _ _ _ _ (rd_L4 t321 x7_2) from ge332_0)
                                                clear hv332_0 ge332_0
                                                clear hcc332 hce332
                                                have HR332_0 := Aside0.mk hi332_0
                                                have HC332_0 := Aside0.mk hl332_0
                                                clear hi332_0 hl332_0
                                                replace p332 := eq_true p332
                                                replace q332 := eq_true q332
                                                have p333 : 0 ≤ (x10_3 : Int) := of_decide_eq_true (by first | (with_reducible assumption) | assumption)
                                                have q333 : x10_3 < ((rd_L4 t321 x7_2).length : Int) := of_decide_eq_true (by first | (with_reducible assumption) | assumption)
                                                obtain ⟨ad333, e333, hx333_0⟩ := Kd.at_int (by repeat (first | (with_reducible exact HR332_0.out) | (with_reducible refine Kd.C_alloc ?_ _) | (with_reducible refine Kd.C_drewN ?_ _) | (with_reducible refine Kd.C_drew ?_) | exact HR332_0.out)) x10_3 p333 q333
                                                cases e333
                                                replace p333 := eq_true p333
                                                replace q333 := eq_true q333
                                                have p334 : 0 ≤ (x10_3 : Int) := of_decide_eq_true (by first | (with_reducible assumption) | assumption)
                                                have q334 : x10_3 < (t321.length : Int) := of_decide_eq_true (by first | (with_reducible assumption) | assumption)
                                                obtain ⟨ad334, A334_0, c334_0, e334, hx334_0, hl334_0, hi334_0⟩ := at_L4 (Kd.S_reads' HO_3.out).2.2 x10_3 p334 q334
                                                obtain rfl : ad332 = ad334 := (by injection e334)
                                                obtain ⟨ce334, hce334, hMe334, hcc334⟩ := Kd.S_get HO_3.out [] x10_3 p334 (by first | exact q334 | exact of_decide_eq_true (by first | (with_reducible assumption) | assumption) | (have e_ := (Kd.S_reads' HO_3.out).1; omega))
                                                obtain ⟨ve334_0, rfl, ge334_0⟩ := hMe334
                                                have hv334_0 := hcc334 0 _ rfl
                                                rw [Nat.add_zero, show ((Kd.slice 3 (Kd.int .i64))).sz = 1 from rfl, Nat.mul_one] at hv334_0
                                                replace hv334_0 := Option.some.inj (hv334_0.symm.trans hx334_0)
                                                rw [hv334_0] at ge334_0
                                                have HL334_0 := Aside0.mk (show Kd.R (Kd.int .i64) 3 _ _ _ _ (rd_L4 t321 x10_3) from ge334_0)
                                                clear hv334_0 ge334_0
                                                clear hcc334 hce334
                                                have HR334_0 := Aside0.mk hi334_0
                                                have HC334_0 := Aside0.mk hl334_0
                                                clear hi334_0 hl334_0
                                                replace p334 := eq_true p334
                                                replace q334 := eq_true q334
                                                have p335 : 0 ≤ (x7_2 : Int) := of_decide_eq_true (by first | (with_reducible assumption) | assumption)
                                                have q335 : x7_2 < ((rd_L4 t321 x10_3).length : Int) := of_decide_eq_true (by first | (with_reducible assumption) | assumption)
                                                obtain ⟨ad335, e335, hx335_0⟩ := Kd.at_int (by repeat (first | (with_reducible exact HR334_0.out) | (with_reducible refine Kd.C_alloc ?_ _) | (with_reducible refine Kd.C_drewN ?_ _) | (with_reducible refine Kd.C_drew ?_) | exact HR334_0.out)) x7_2 p335 q335
                                                cases e335
                                                replace p335 := eq_true p335
                                                replace q335 := eq_true q335
                                                have p336 : 0 ≤ (x7_2 : Int) := of_decide_eq_true (by first | (with_reducible assumption) | assumption)
                                                have q336 : x7_2 < (l0.length : Int) := of_decide_eq_true (by first | (with_reducible assumption) | assumption)
                                                obtain ⟨ad336, A336_0, c336_0, e336, hx336_0, hl336_0, hi336_0⟩ := at_L4 HR0.out x7_2 p336 q336
                                                cases e336
                                                replace hx336_0 := (HB.out.cell (World.block_lt_of_cell? w _ hx336_0)).trans hx336_0
                                                have HR336_0 := Aside0.mk hi336_0
                                                have HC336_0 := Aside0.mk hl336_0
                                                clear hi336_0 hl336_0
                                                replace p336 := eq_true p336
                                                replace q336 := eq_true q336
                                                have p337 : 0 ≤ (x10_3 : Int) := of_decide_eq_true (by first | (with_reducible assumption) | assumption)
                                                have q337 : x10_3 < ((rd_L4 l0 x7_2).length : Int) := of_decide_eq_true (by first | (with_reducible assumption) | assumption)
                                                obtain ⟨ad337, e337, hx337_0⟩ := Kd.at_int HR336_0.out x10_3 p337 q337
                                                cases e337
                                                replace hx337_0 := (HB.out.cell (World.block_lt_of_cell? w _ hx337_0)).trans hx337_0
                                                replace p337 := eq_true p337
                                                replace q337 := eq_true q337
                                                have p338 : 0 ≤ (x10_3 : Int) := of_decide_eq_true (by first | (with_reducible assumption) | assumption)
                                                have q338 : x10_3 < (l0.length : Int) := of_decide_eq_true (by first | (with_reducible assumption) | assumption)
                                                obtain ⟨ad338, A338_0, c338_0, e338, hx338_0, hl338_0, hi338_0⟩ := at_L4 HR0.out x10_3 p338 q338
                                                obtain rfl : ad336 = ad338 := (by injection e338)
                                                replace hx338_0 := (HB.out.cell (World.block_lt_of_cell? w _ hx338_0)).trans hx338_0
                                                have HR338_0 := Aside0.mk hi338_0
                                                have HC338_0 := Aside0.mk hl338_0
                                                clear hi338_0 hl338_0
                                                replace p338 := eq_true p338
                                                replace q338 := eq_true q338
                                                have p339 : 0 ≤ (x7_2 : Int) := of_decide_eq_true (by first | (with_reducible assumption) | assumption)
                                                have q339 : x7_2 < ((rd_L4 l0 x10_3).length : Int) := of_decide_eq_true (by first | (with_reducible assumption) | assumption)
                                                obtain ⟨ad339, e339, hx339_0⟩ := Kd.at_int HR338_0.out x7_2 p339 q339
                                                cases e339
                                                replace hx339_0 := (HB.out.cell (World.block_lt_of_cell? w _ hx339_0)).trans hx339_0
                                                replace p339 := eq_true p339
                                                replace q339 := eq_true q339
                                                have p340 : 0 ≤ (x7_2 : Int) := of_decide_eq_true (by first | (with_reducible assumption) | assumption)
                                                have q340 : x7_2 < (t321.length : Int) := of_decide_eq_true (by first | (with_reducible assumption) | assumption)
                                                obtain ⟨ad340, A340_0, c340_0, e340, hx340_0, hl340_0, hi340_0⟩ := at_L4 (Kd.S_reads' HO_3.out).2.2 x7_2 p340 q340
                                                obtain rfl : ad332 = ad340 := (by injection e340)
                                                obtain ⟨ce340, hce340, hMe340, hcc340⟩ := Kd.S_get HO_3.out [] x7_2 p340 (by first | exact q340 | exact of_decide_eq_true (by first | (with_reducible assumption) | assumption) | (have e_ := (Kd.S_reads' HO_3.out).1; omega))
                                                obtain ⟨ve340_0, rfl, ge340_0⟩ := hMe340
                                                have hv340_0 := hcc340 0 _ rfl
                                                rw [Nat.add_zero, show ((Kd.slice 3 (Kd.int .i64))).sz = 1 from rfl, Nat.mul_one] at hv340_0
                                                replace hv340_0 := Option.some.inj (hv340_0.symm.trans hx340_0)
                                                rw [hv340_0] at ge340_0
                                                have HL340_0 := Aside0.mk (show Kd.R (Kd.int .i64) 3 _ _ _ _ (rd_L4 t321 x7_2) from ge340_0)
                                                clear hv340_0 ge340_0
                                                clear hcc340 hce340
                                                have HR340_0 := Aside0.mk hi340_0
                                                have HC340_0 := Aside0.mk hl340_0
                                                clear hi340_0 hl340_0
                                                replace p340 := eq_true p340
                                                replace q340 := eq_true q340
                                                have ea_ := Option.some.inj (hx332_0.symm.trans hx340_0)
                                                injection ea_ with ea_ en_ ec_
                                                subst ea_
                                                subst ec_
                                                clear en_
                                                have p341 : 0 ≤ (x10_3 : Int) := of_decide_eq_true (by first | (with_reducible assumption) | assumption)
                                                have q341 : x10_3 < ((rd_L4 t321 x7_2).length : Int) := of_decide_eq_true (by first | (with_reducible assumption) | assumption)
                                                obtain ⟨ad341, e341, hx341_0⟩ := Kd.at_int (by repeat (first | (with_reducible exact HR340_0.out) | (with_reducible refine Kd.C_alloc ?_ _) | (with_reducible refine Kd.C_drewN ?_ _) | (with_reducible refine Kd.C_drew ?_) | exact HR340_0.out)) x10_3 p341 q341
                                                cases e341
                                                replace p341 := eq_true p341
                                                replace q341 := eq_true q341
                                                have p342 : 0 ≤ (x10_3 : Int) := of_decide_eq_true (by first | (with_reducible assumption) | assumption)
                                                have q342 : x10_3 < (t321.length : Int) := of_decide_eq_true (by first | (with_reducible assumption) | assumption)
                                                obtain ⟨ad342, A342_0, c342_0, e342, hx342_0, hl342_0, hi342_0⟩ := at_L4 (Kd.S_reads' HO_3.out).2.2 x10_3 p342 q342
                                                obtain rfl : ad332 = ad342 := (by injection e342)
                                                obtain ⟨ce342, hce342, hMe342, hcc342⟩ := Kd.S_get HO_3.out [] x10_3 p342 (by first | exact q342 | exact of_decide_eq_true (by first | (with_reducible assumption) | assumption) | (have e_ := (Kd.S_reads' HO_3.out).1; omega))
                                                obtain ⟨ve342_0, rfl, ge342_0⟩ := hMe342
                                                have hv342_0 := hcc342 0 _ rfl
                                                rw [Nat.add_zero, show ((Kd.slice 3 (Kd.int .i64))).sz = 1 from rfl, Nat.mul_one] at hv342_0
                                                replace hv342_0 := Option.some.inj (hv342_0.symm.trans hx342_0)
                                                rw [hv342_0] at ge342_0
                                                have HL342_0 := Aside0.mk (show Kd.R (Kd.int .i64) 3 _ _ _ _ (rd_L4 t321 x10_3) from ge342_0)
                                                clear hv342_0 ge342_0
                                                clear hcc342 hce342
                                                have HR342_0 := Aside0.mk hi342_0
                                                have HC342_0 := Aside0.mk hl342_0
                                                clear hi342_0 hl342_0
                                                replace p342 := eq_true p342
                                                replace q342 := eq_true q342
                                                have ea_ := Option.some.inj (hx334_0.symm.trans hx342_0)
                                                injection ea_ with ea_ en_ ec_
                                                subst ea_
                                                subst ec_
                                                clear en_
                                                have p343 : 0 ≤ (x7_2 : Int) := of_decide_eq_true (by first | (with_reducible assumption) | assumption)
                                                have q343 : x7_2 < ((rd_L4 t321 x10_3).length : Int) := of_decide_eq_true (by first | (with_reducible assumption) | assumption)
                                                obtain ⟨ad343, e343, hx343_0⟩ := Kd.at_int (by repeat (first | (with_reducible exact HR342_0.out) | (with_reducible refine Kd.C_alloc ?_ _) | (with_reducible refine Kd.C_drewN ?_ _) | (with_reducible refine Kd.C_drew ?_) | exact HR342_0.out)) x7_2 p343 q343
                                                cases e343
                                                replace p343 := eq_true p343
                                                replace q343 := eq_true q343
                                                go_wp2
                                                repeat (go_quiet (fail); try go_wp2)
                                                go_roundg k3
                                                case measure => have := HJ8.out; have := HK2.out; have := HK3.out; omega
                                                case rel => exact ⟨(wrap64 ((wrap64 (x8_3 + (rd (rd_L4 l0 x7_2) x10_3))) - (rd (rd_L4 l0 x10_3) x7_2))), (wrap64 ((wrap64 (x9_3 + (rd (rd_L4 t321 x7_2) x10_3))) - (rd (rd_L4 t321 x10_3) x7_2))), (wrap64 (x10_3 + 1)), (by first | rfl | (simp; done) | (simp [*]; done)), (by first | rfl | (simp; done) | (simp [*]; done)), (by first | rfl | (simp; done) | (simp [*]; done)), H', ⟨by have := HJ8.out; have := HK2.out; have := HK3.out; omega⟩, ⟨by (with_reducible repeat (first | apply Kd.S_alloc | apply Kd.S_drewN | apply Kd.S_drew)); exact HO_3.out⟩, ⟨by repeat (first | (with_reducible first | exact HB.out | apply below_alloc | apply pw_below_drewN | apply below_drew1) | exact HB.out)⟩⟩
                                              · rw [if_neg c38] at H
                                                exact absurd H (by simp)
                                            · rw [if_neg c37] at H
                                              exact absurd H (by simp)
                                          · rw [if_neg c36] at H
                                            exact absurd H (by simp)
                                        · rw [if_neg c35] at H
                                          exact absurd H (by simp)
                                    · rw [if_neg c33] at H
                                      exact absurd H (by simp)
                                  · rw [if_neg c32] at H
                                    have c32b0 : decide (0 < (rd (rd_L4 t321 x7_2) x10_3)) = false := decide_eq_false c32
                                    clear c32
                                    by_cases c39 : x7_2 < (l0.length : Int)
                                    · rw [if_pos c39] at H
                                      have c39b0 : decide (x7_2 < (l0.length : Int)) = true := decide_eq_true c39
                                      clear c39
                                      by_cases c40 : x10_3 < ((rd_L4 l0 x7_2).length : Int)
                                      · rw [if_pos c40] at H
                                        have c40b0 : decide (x10_3 < ((rd_L4 l0 x7_2).length : Int)) = true := decide_eq_true c40
                                        clear c40
                                        by_cases c41 : x10_3 < (l0.length : Int)
                                        · rw [if_pos c41] at H
                                          have c41b0 : decide (x10_3 < (l0.length : Int)) = true := decide_eq_true c41
                                          clear c41
                                          by_cases c42 : x7_2 < ((rd_L4 l0 x10_3).length : Int)
                                          · rw [if_pos c42] at H
                                            have c42b0 : decide (x7_2 < ((rd_L4 l0 x10_3).length : Int)) = true := decide_eq_true c42
                                            clear c42
                                            by_cases c43 : x7_2 < ((rd_L4 t321 x10_3).length : Int)
                                            · rw [if_pos c43] at H
                                              have c43b0 : decide (x7_2 < ((rd_L4 t321 x10_3).length : Int)) = true := decide_eq_true c43
                                              clear c43
                                              have H' := Aside0.mk H
                                              clear H
                                              have p332 : 0 ≤ (x7_2 : Int) := of_decide_eq_true (by first | (with_reducible assumption) | assumption)
                                              have q332 : x7_2 < (t321.length : Int) := of_decide_eq_true (by first | (with_reducible assumption) | assumption)
                                              obtain ⟨ad332, A332_0, c332_0, e332, hx332_0, hl332_0, hi332_0⟩ := at_L4 (Kd.S_reads' HO_3.out).2.2 x7_2 p332 q332
                                              cases e332
                                              obtain ⟨ce332, hce332, hMe332, hcc332⟩ := Kd.S_get HO_3.out [] x7_2 p332 (by first | exact q332 | exact of_decide_eq_true (by first | (with_reducible assumption) | assumption) | (have e_ := (Kd.S_reads' HO_3.out).1; omega))
                                              obtain ⟨ve332_0, rfl, ge332_0⟩ := hMe332
                                              have hv332_0 := hcc332 0 _ rfl
                                              rw [Nat.add_zero, show ((Kd.slice 3 (Kd.int .i64))).sz = 1 from rfl, Nat.mul_one] at hv332_0
                                              replace hv332_0 := Option.some.inj (hv332_0.symm.trans hx332_0)
                                              rw [hv332_0] at ge332_0
                                              have HL332_0 := Aside0.mk (show Kd.R (Kd.int .i64) 3 _ _ _ _ (rd_L4 t321 x7_2) from ge332_0)
                                              clear hv332_0 ge332_0
                                              clear hcc332 hce332
                                              have HR332_0 := Aside0.mk hi332_0
                                              have HC332_0 := Aside0.mk hl332_0
                                              clear hi332_0 hl332_0
                                              replace p332 := eq_true p332
                                              replace q332 := eq_true q332
                                              have p333 : 0 ≤ (x10_3 : Int) := of_decide_eq_true (by first | (with_reducible assumption) | assumption)
                                              have q333 : x10_3 < ((rd_L4 t321 x7_2).length : Int) := of_decide_eq_true (by first | (with_reducible assumption) | assumption)
                                              obtain ⟨ad333, e333, hx333_0⟩ := Kd.at_int (by repeat (first | (with_reducible exact HR332_0.out) | (with_reducible refine Kd.C_alloc ?_ _) | (with_reducible refine Kd.C_drewN ?_ _) | (with_reducible refine Kd.C_drew ?_) | exact HR332_0.out)) x10_3 p333 q333
                                              cases e333
                                              replace p333 := eq_true p333
                                              replace q333 := eq_true q333
                                              have p344 : 0 ≤ (x7_2 : Int) := of_decide_eq_true (by first | (with_reducible assumption) | assumption)
                                              have q344 : x7_2 < (l0.length : Int) := of_decide_eq_true (by first | (with_reducible assumption) | assumption)
                                              obtain ⟨ad344, A344_0, c344_0, e344, hx344_0, hl344_0, hi344_0⟩ := at_L4 HR0.out x7_2 p344 q344
                                              cases e344
                                              replace hx344_0 := (HB.out.cell (World.block_lt_of_cell? w _ hx344_0)).trans hx344_0
                                              have HR344_0 := Aside0.mk hi344_0
                                              have HC344_0 := Aside0.mk hl344_0
                                              clear hi344_0 hl344_0
                                              replace p344 := eq_true p344
                                              replace q344 := eq_true q344
                                              have p345 : 0 ≤ (x10_3 : Int) := of_decide_eq_true (by first | (with_reducible assumption) | assumption)
                                              have q345 : x10_3 < ((rd_L4 l0 x7_2).length : Int) := of_decide_eq_true (by first | (with_reducible assumption) | assumption)
                                              obtain ⟨ad345, e345, hx345_0⟩ := Kd.at_int HR344_0.out x10_3 p345 q345
                                              cases e345
                                              replace hx345_0 := (HB.out.cell (World.block_lt_of_cell? w _ hx345_0)).trans hx345_0
                                              replace p345 := eq_true p345
                                              replace q345 := eq_true q345
                                              have p346 : 0 ≤ (x10_3 : Int) := of_decide_eq_true (by first | (with_reducible assumption) | assumption)
                                              have q346 : x10_3 < (l0.length : Int) := of_decide_eq_true (by first | (with_reducible assumption) | assumption)
                                              obtain ⟨ad346, A346_0, c346_0, e346, hx346_0, hl346_0, hi346_0⟩ := at_L4 HR0.out x10_3 p346 q346
                                              obtain rfl : ad344 = ad346 := (by injection e346)
                                              replace hx346_0 := (HB.out.cell (World.block_lt_of_cell? w _ hx346_0)).trans hx346_0
                                              have HR346_0 := Aside0.mk hi346_0
                                              have HC346_0 := Aside0.mk hl346_0
                                              clear hi346_0 hl346_0
                                              replace p346 := eq_true p346
                                              replace q346 := eq_true q346
                                              have p347 : 0 ≤ (x7_2 : Int) := of_decide_eq_true (by first | (with_reducible assumption) | assumption)
                                              have q347 : x7_2 < ((rd_L4 l0 x10_3).length : Int) := of_decide_eq_true (by first | (with_reducible assumption) | assumption)
                                              obtain ⟨ad347, e347, hx347_0⟩ := Kd.at_int HR346_0.out x7_2 p347 q347
                                              cases e347
                                              replace hx347_0 := (HB.out.cell (World.block_lt_of_cell? w _ hx347_0)).trans hx347_0
                                              replace p347 := eq_true p347
                                              replace q347 := eq_true q347
                                              have p348 : 0 ≤ (x7_2 : Int) := of_decide_eq_true (by first | (with_reducible assumption) | assumption)
                                              have q348 : x7_2 < (t321.length : Int) := of_decide_eq_true (by first | (with_reducible assumption) | assumption)
                                              obtain ⟨ad348, A348_0, c348_0, e348, hx348_0, hl348_0, hi348_0⟩ := at_L4 (Kd.S_reads' HO_3.out).2.2 x7_2 p348 q348
                                              obtain rfl : ad332 = ad348 := (by injection e348)
                                              obtain ⟨ce348, hce348, hMe348, hcc348⟩ := Kd.S_get HO_3.out [] x7_2 p348 (by first | exact q348 | exact of_decide_eq_true (by first | (with_reducible assumption) | assumption) | (have e_ := (Kd.S_reads' HO_3.out).1; omega))
                                              obtain ⟨ve348_0, rfl, ge348_0⟩ := hMe348
                                              have hv348_0 := hcc348 0 _ rfl
                                              rw [Nat.add_zero, show ((Kd.slice 3 (Kd.int .i64))).sz = 1 from rfl, Nat.mul_one] at hv348_0
                                              replace hv348_0 := Option.some.inj (hv348_0.symm.trans hx348_0)
                                              rw [hv348_0] at ge348_0
                                              have HL348_0 := Aside0.mk (show Kd.R (Kd.int .i64) 3 _ _ _ _ (rd_L4 t321 x7_2) from ge348_0)
                                              clear hv348_0 ge348_0
                                              clear hcc348 hce348
                                              have HR348_0 := Aside0.mk hi348_0
                                              have HC348_0 := Aside0.mk hl348_0
                                              clear hi348_0 hl348_0
                                              replace p348 := eq_true p348
                                              replace q348 := eq_true q348
                                              have ea_ := Option.some.inj (hx332_0.symm.trans hx348_0)
                                              injection ea_ with ea_ en_ ec_
                                              subst ea_
                                              subst ec_
                                              clear en_
                                              have p349 : 0 ≤ (x10_3 : Int) := of_decide_eq_true (by first | (with_reducible assumption) | assumption)
                                              have q349 : x10_3 < ((rd_L4 t321 x7_2).length : Int) := of_decide_eq_true (by first | (with_reducible assumption) | assumption)
                                              obtain ⟨ad349, e349, hx349_0⟩ := Kd.at_int (by repeat (first | (with_reducible exact HR348_0.out) | (with_reducible refine Kd.C_alloc ?_ _) | (with_reducible refine Kd.C_drewN ?_ _) | (with_reducible refine Kd.C_drew ?_) | exact HR348_0.out)) x10_3 p349 q349
                                              cases e349
                                              replace p349 := eq_true p349
                                              replace q349 := eq_true q349
                                              have p350 : 0 ≤ (x10_3 : Int) := of_decide_eq_true (by first | (with_reducible assumption) | assumption)
                                              have q350 : x10_3 < (t321.length : Int) := of_decide_eq_true (by first | (with_reducible assumption) | assumption)
                                              obtain ⟨ad350, A350_0, c350_0, e350, hx350_0, hl350_0, hi350_0⟩ := at_L4 (Kd.S_reads' HO_3.out).2.2 x10_3 p350 q350
                                              obtain rfl : ad332 = ad350 := (by injection e350)
                                              obtain ⟨ce350, hce350, hMe350, hcc350⟩ := Kd.S_get HO_3.out [] x10_3 p350 (by first | exact q350 | exact of_decide_eq_true (by first | (with_reducible assumption) | assumption) | (have e_ := (Kd.S_reads' HO_3.out).1; omega))
                                              obtain ⟨ve350_0, rfl, ge350_0⟩ := hMe350
                                              have hv350_0 := hcc350 0 _ rfl
                                              rw [Nat.add_zero, show ((Kd.slice 3 (Kd.int .i64))).sz = 1 from rfl, Nat.mul_one] at hv350_0
                                              replace hv350_0 := Option.some.inj (hv350_0.symm.trans hx350_0)
                                              rw [hv350_0] at ge350_0
                                              have HL350_0 := Aside0.mk (show Kd.R (Kd.int .i64) 3 _ _ _ _ (rd_L4 t321 x10_3) from ge350_0)
                                              clear hv350_0 ge350_0
                                              clear hcc350 hce350
                                              have HR350_0 := Aside0.mk hi350_0
                                              have HC350_0 := Aside0.mk hl350_0
                                              clear hi350_0 hl350_0
                                              replace p350 := eq_true p350
                                              replace q350 := eq_true q350
                                              have p351 : 0 ≤ (x7_2 : Int) := of_decide_eq_true (by first | (with_reducible assumption) | assumption)
                                              have q351 : x7_2 < ((rd_L4 t321 x10_3).length : Int) := of_decide_eq_true (by first | (with_reducible assumption) | assumption)
                                              obtain ⟨ad351, e351, hx351_0⟩ := Kd.at_int (by repeat (first | (with_reducible exact HR350_0.out) | (with_reducible refine Kd.C_alloc ?_ _) | (with_reducible refine Kd.C_drewN ?_ _) | (with_reducible refine Kd.C_drew ?_) | exact HR350_0.out)) x7_2 p351 q351
                                              cases e351
                                              replace p351 := eq_true p351
                                              replace q351 := eq_true q351
                                              go_wp2
                                              repeat (go_quiet (fail); try go_wp2)
                                              go_roundg k3
                                              case measure => have := HJ8.out; have := HK2.out; have := HK3.out; omega
                                              case rel => exact ⟨(wrap64 ((wrap64 (x8_3 + (rd (rd_L4 l0 x7_2) x10_3))) - (rd (rd_L4 l0 x10_3) x7_2))), (wrap64 ((wrap64 (x9_3 + (rd (rd_L4 t321 x7_2) x10_3))) - (rd (rd_L4 t321 x10_3) x7_2))), (wrap64 (x10_3 + 1)), (by first | rfl | (simp; done) | (simp [*]; done)), (by first | rfl | (simp; done) | (simp [*]; done)), (by first | rfl | (simp; done) | (simp [*]; done)), H', ⟨by have := HJ8.out; have := HK2.out; have := HK3.out; omega⟩, ⟨by (with_reducible repeat (first | apply Kd.S_alloc | apply Kd.S_drewN | apply Kd.S_drew)); exact HO_3.out⟩, ⟨by repeat (first | (with_reducible first | exact HB.out | apply below_alloc | apply pw_below_drewN | apply below_drew1) | exact HB.out)⟩⟩
                                            · rw [if_neg c43] at H
                                              exact absurd H (by simp)
                                          · rw [if_neg c42] at H
                                            exact absurd H (by simp)
                                        · rw [if_neg c41] at H
                                          exact absurd H (by simp)
                                      · rw [if_neg c40] at H
                                        exact absurd H (by simp)
                                    · rw [if_neg c39] at H
                                      exact absurd H (by simp)
                                · rw [if_neg c31] at H
                                  exact absurd H (by simp)
                              · rw [if_neg c30] at H
                                exact absurd H (by simp)
                            · rw [if_neg c29] at H
                              exact absurd H (by simp)
                          · rw [if_neg c28] at H
                            exact absurd H (by simp)
                        · rw [if_neg c27] at H
                          have c27b0 : decide (x10_3 < (t321.length : Int)) = false := decide_eq_false c27
                          clear c27
                          by_cases c44 : x8_3 = x9_3
                          · rw [if_pos c44] at H
                            have c44b0 : (x8_3 == x9_3) = true := beq_iff_eq.mpr c44
                            have c44b1 : (x8_3 != x9_3) = false := bne_eq_false_iff_eq.mpr c44
                            clear c44
                            have H' := Aside0.mk H
                            clear H
                            go_wp2
                            repeat (go_quiet (fail); try go_wp2)
                            go_roundg k3
                            case measure => have := HJ8.out; have := HK2.out; have := HK3.out; omega
                            case rel => exact ⟨(wrap64 (x7_2 + 1)), (by first | rfl | (simp; done) | (simp [*]; done)), H', ⟨by have := HJ8.out; have := HK2.out; have := HK3.out; omega⟩, ⟨by (with_reducible repeat (first | apply Kd.S_alloc | apply Kd.S_drewN | apply Kd.S_drew)); exact HO_3.out⟩, ⟨by repeat (first | (with_reducible first | exact HB.out | apply below_alloc | apply pw_below_drewN | apply below_drew1) | exact HB.out)⟩⟩
                          · rw [if_neg c44] at H
                            have c44b0 : (x8_3 == x9_3) = false := beq_eq_false_iff_ne.mpr c44
                            have c44b1 : (x8_3 != x9_3) = true := bne_iff_ne.mpr c44
                            obtain rfl := Option.some.inj H
                            go_wp2
                            repeat (go_quiet (fail); try go_wp2)
                            go_ret
                            exact ⟨by first | rfl | (simp [errW_none, errW_some] <;> rfl) | (simp [*, errW_none, errW_some] <;> rfl), by repeat (first | (with_reducible first | exact HB.out | apply below_alloc | apply pw_below_drewN | apply below_drew1) | exact HB.out)⟩
                  · rw [if_neg c26] at H
                    have c26b0 : decide (x7_2 < (t321.length : Int)) = false := decide_eq_false c26
                    clear c26
                    obtain rfl := Option.some.inj H
                    go_wp2
                    repeat (go_quiet (fail); try go_wp2)
                    go_ret
                    exact ⟨by first | rfl | (simp [errW_none, errW_some] <;> rfl) | (simp [*, errW_none, errW_some] <;> rfl), by repeat (first | (with_reducible first | exact HB.out | apply below_alloc | apply pw_below_drewN | apply below_drew1) | exact HB.out)⟩
      · rw [if_neg c7] at H
        have c7b0 : (t322 == 0) = false := beq_eq_false_iff_ne.mpr c7
        have c7b1 : (t322 != 0) = true := bne_iff_ne.mpr c7
        obtain rfl := Option.some.inj H
        go_enter Try.func8, Try.ntmps8
        go_wp2_with (first | (go_at_call 10; (with_reducible refine (crossbarlaw31_sane.calls  true _ A2.out).mono ?_); rintro e w45 ⟨rfl, hb⟩; have n0_ := Aside0.mk (below_step (by repeat (first | (with_reducible first | exact HB.out | apply below_alloc | apply pw_below_drewN | apply below_drew1) | exact HB.out)) hb); clear HB; have HB := n0_; clear n0_; (try clear hb); (try clear hb2); (try clear hk); (try clear hi)) | (go_at_call 20; (with_reducible refine (settle_Net.calls k _ _ l0 t321 t322 _ ?side1 ?side2 A6.out).mono ?_); (case side1 => repeat (first | exact (Kd.C_below HR0.out HB.out) | (with_reducible refine Kd.C_alloc ?_ _) | (with_reducible refine Kd.C_drewN ?_ _) | (with_reducible refine Kd.C_drew ?_))); (case side2 => exact HC0.out); rintro e w46 ⟨v323, rfl, ho0, hb⟩; have n0_ := Aside0.mk (Kd.S_lower ho0 (below_size (by repeat (first | (with_reducible first | exact HB.out | apply below_alloc | apply pw_below_drewN | apply below_drew1) | exact HB.out)))); have n1_ := Aside0.mk (below_step (by repeat (first | (with_reducible first | exact HB.out | apply below_alloc | apply pw_below_drewN | apply below_drew1) | exact HB.out)) hb); clear HB; have HO324 := n0_; have HB := n1_; clear n0_ n1_; (try clear hb); (try clear hb2); (try clear hk); (try clear hi); (try clear ho0); obtain ⟨Ao47, co47, eo47⟩ := Kd.S_slice HO324.out; subst eo47))
        repeat (go_quiet (first | (go_at_call 10; (with_reducible refine (crossbarlaw31_sane.calls  true _ A2.out).mono ?_); rintro e w45 ⟨rfl, hb⟩; have n0_ := Aside0.mk (below_step (by repeat (first | (with_reducible first | exact HB.out | apply below_alloc | apply pw_below_drewN | apply below_drew1) | exact HB.out)) hb); clear HB; have HB := n0_; clear n0_; (try clear hb); (try clear hb2); (try clear hk); (try clear hi)) | (go_at_call 20; (with_reducible refine (settle_Net.calls k _ _ l0 t321 t322 _ ?side1 ?side2 A6.out).mono ?_); (case side1 => repeat (first | exact (Kd.C_below HR0.out HB.out) | (with_reducible refine Kd.C_alloc ?_ _) | (with_reducible refine Kd.C_drewN ?_ _) | (with_reducible refine Kd.C_drew ?_))); (case side2 => exact HC0.out); rintro e w46 ⟨v323, rfl, ho0, hb⟩; have n0_ := Aside0.mk (Kd.S_lower ho0 (below_size (by repeat (first | (with_reducible first | exact HB.out | apply below_alloc | apply pw_below_drewN | apply below_drew1) | exact HB.out)))); have n1_ := Aside0.mk (below_step (by repeat (first | (with_reducible first | exact HB.out | apply below_alloc | apply pw_below_drewN | apply below_drew1) | exact HB.out)) hb); clear HB; have HO324 := n0_; have HB := n1_; clear n0_ n1_; (try clear hb); (try clear hb2); (try clear hk); (try clear hi); (try clear ho0); obtain ⟨Ao47, co47, eo47⟩ := Kd.S_slice HO324.out; subst eo47)); try go_wp2_with (first | (go_at_call 10; (with_reducible refine (crossbarlaw31_sane.calls  true _ A2.out).mono ?_); rintro e w45 ⟨rfl, hb⟩; have n0_ := Aside0.mk (below_step (by repeat (first | (with_reducible first | exact HB.out | apply below_alloc | apply pw_below_drewN | apply below_drew1) | exact HB.out)) hb); clear HB; have HB := n0_; clear n0_; (try clear hb); (try clear hb2); (try clear hk); (try clear hi)) | (go_at_call 20; (with_reducible refine (settle_Net.calls k _ _ l0 t321 t322 _ ?side1 ?side2 A6.out).mono ?_); (case side1 => repeat (first | exact (Kd.C_below HR0.out HB.out) | (with_reducible refine Kd.C_alloc ?_ _) | (with_reducible refine Kd.C_drewN ?_ _) | (with_reducible refine Kd.C_drew ?_))); (case side2 => exact HC0.out); rintro e w46 ⟨v323, rfl, ho0, hb⟩; have n0_ := Aside0.mk (Kd.S_lower ho0 (below_size (by repeat (first | (with_reducible first | exact HB.out | apply below_alloc | apply pw_below_drewN | apply below_drew1) | exact HB.out)))); have n1_ := Aside0.mk (below_step (by repeat (first | (with_reducible first | exact HB.out | apply below_alloc | apply pw_below_drewN | apply below_drew1) | exact HB.out)) hb); clear HB; have HO324 := n0_; have HB := n1_; clear n0_ n1_; (try clear hb); (try clear hb2); (try clear hk); (try clear hi); (try clear ho0); obtain ⟨Ao47, co47, eo47⟩ := Kd.S_slice HO324.out; subst eo47)))
        go_ret
        exact ⟨by first | rfl | (simp [errW_none, errW_some] <;> rfl) | (simp [*, errW_none, errW_some] <;> rfl), by repeat (first | (with_reducible first | exact HB.out | apply below_alloc | apply pw_below_drewN | apply below_drew1) | exact HB.out)⟩
  · replace c3 := Bool.eq_false_iff.mpr c3
    subst c3
    have H1 : (some false) = some r := by rw [if_neg (show ¬ (false = true) by decide)] at H; exact H
    clear H
    have H := H1
    clear H1
    obtain rfl := Option.some.inj H
    go_enter Try.func8, Try.ntmps8
    go_wp2_with (first | (go_at_call 10; (with_reducible refine (crossbarlaw31_sane.calls  false _ A2.out).mono ?_); rintro e w48 ⟨rfl, hb⟩; have n0_ := Aside0.mk (below_step (by repeat (first | (with_reducible first | exact HB.out | apply below_alloc | apply pw_below_drewN | apply below_drew1) | exact HB.out)) hb); clear HB; have HB := n0_; clear n0_; (try clear hb); (try clear hb2); (try clear hk); (try clear hi)))
    repeat (go_quiet (first | (go_at_call 10; (with_reducible refine (crossbarlaw31_sane.calls  false _ A2.out).mono ?_); rintro e w48 ⟨rfl, hb⟩; have n0_ := Aside0.mk (below_step (by repeat (first | (with_reducible first | exact HB.out | apply below_alloc | apply pw_below_drewN | apply below_drew1) | exact HB.out)) hb); clear HB; have HB := n0_; clear n0_; (try clear hb); (try clear hb2); (try clear hk); (try clear hi))); try go_wp2_with (first | (go_at_call 10; (with_reducible refine (crossbarlaw31_sane.calls  false _ A2.out).mono ?_); rintro e w48 ⟨rfl, hb⟩; have n0_ := Aside0.mk (below_step (by repeat (first | (with_reducible first | exact HB.out | apply below_alloc | apply pw_below_drewN | apply below_drew1) | exact HB.out)) hb); clear HB; have HB := n0_; clear n0_; (try clear hb); (try clear hb2); (try clear hk); (try clear hi))))
    go_ret
    exact ⟨by first | rfl | (simp [errW_none, errW_some] <;> rfl) | (simp [*, errW_none, errW_some] <;> rfl), by repeat (first | (with_reducible first | exact HB.out | apply below_alloc | apply pw_below_drewN | apply below_drew1) | exact HB.out)⟩

end Go.Proofs.Ytggdanifobagpaa.Q
