-- Written by a program of this session (print2.py) over the kit's print: nothing here is trusted: Lean checks it.
import Derived.Test.YtggdanifobagpaaQx0
import Derived.Test.YtggdanifobagpaaEExt
import Derived.Test.YtggdanifobagpaaQFew
import Derived.Test.YtggdanifobagpaaQWay
import Derived.Test.YtggdanifobagpaaQInts
namespace Go.Proofs.Ytggdanifobagpaa.Q
open Go.RowKit Go.Proofs.YtggdanifobagpaaW.PrintWords Go.Proofs.YtggdanifobagpaaW.PrintLast Go.Proofs.YtggdanifobagpaaW.PrintMore Go.Proofs.Ytggdanifobagpaa.Ext
attribute [local go_sem] max2_int min2_int max_two min_two max_three min_three max_four min_four   -- for this text's walks alone
set_option linter.unusedVariables false
set_option linter.unusedSimpArgs false
attribute [local go_sem high] eqA38
/-! ### crossbarlaw31_SettleSymmetric: function 6 -/
mutual
def crossbarlaw31_SettleSymmetric.j0 : Nat → List (S36) → List (S36) → Int → Bool → Option (Bool)
  | 0, _, _, _, _ => none
  | k + 1, x0, x1, x2, x29 => if x29 = true then (some true) else ((settle_Match.f x0 x1 x2).bind fun bt209 => ((settle_Match.f x1 x0 x2).bind fun bt218 => (if bt209.2.2.2 = bt218.2.2.2 then (if bt209.1 = (wrap64 (-bt218.1)) then ((crossbarref31_Ints.f k bt209.2.1 bt218.2.1).bind fun t227 => (if t227 = true then (crossbarlaw31_SettleSymmetric.j1 k ((bt209.2.2.1.length : Int) != (bt218.2.2.1.length : Int)) bt209.1 bt209.2.1 bt209.2.2.1 bt218.1 bt218.2.1 bt218.2.2.1) else (crossbarlaw31_SettleSymmetric.j1 k true bt209.1 bt209.2.1 bt209.2.2.1 bt218.1 bt218.2.1 bt218.2.2.1))) else (crossbarlaw31_SettleSymmetric.j1 k true bt209.1 bt209.2.1 bt209.2.2.1 bt218.1 bt218.2.1 bt218.2.2.1)) else (crossbarlaw31_SettleSymmetric.j1 k true bt209.1 bt209.2.1 bt209.2.2.1 bt218.1 bt218.2.1 bt218.2.2.1))))
def crossbarlaw31_SettleSymmetric.j1 : Nat → Bool → Int → List Int → List (S38) → Int → List Int → List (S38) → Option (Bool)
  | 0, _, _, _, _, _, _, _ => none
  | k + 1, x71, x218000, x218001, x218002, x227000, x227001, x227002 => if x71 = true then (some false) else (crossbarlaw31_SettleSymmetric.l0 k 0 x218000 x218001 x218002 x227000 x227001 x227002)
def crossbarlaw31_SettleSymmetric.l0 : Nat → Int → Int → List Int → List (S38) → Int → List Int → List (S38) → Option (Bool)
  | 0, _, _, _, _, _, _, _ => none
  | k + 1, x11, x218000, x218001, x218002, x227000, x227001, x227002 => if x11 < (x218002.length : Int) then (if 0 ≤ x11 then (if ((rd_T38 x218002 x11).f0) = 1 then (if x11 < (x227002.length : Int) then (if (!(((rd_T38 x227002 x11).f0) == 2) || (!(((rd_T38 x227002 x11).f1) == ((rd_T38 x218002 x11).f1)) || (!(((rd_T38 x227002 x11).f2) == ((rd_T38 x218002 x11).f3)) || (!(((rd_T38 x227002 x11).f3) == ((rd_T38 x218002 x11).f2)))))) = true then (some false) else (crossbarlaw31_SettleSymmetric.l0 k (wrap64 (x11 + 1)) x218000 x218001 x218002 x227000 x227001 x227002)) else (none)) else (if ((rd_T38 x218002 x11).f0) = 2 then (if x11 < (x227002.length : Int) then (if (!(((rd_T38 x227002 x11).f0) == 1) || (!(((rd_T38 x227002 x11).f1) == ((rd_T38 x218002 x11).f1)) || (!(((rd_T38 x227002 x11).f2) == ((rd_T38 x218002 x11).f3)) || (!(((rd_T38 x227002 x11).f3) == ((rd_T38 x218002 x11).f2)))))) = true then (some false) else (crossbarlaw31_SettleSymmetric.l0 k (wrap64 (x11 + 1)) x218000 x218001 x218002 x227000 x227001 x227002)) else (none)) else (if x11 < (x227002.length : Int) then (if (!(((rd_T38 x227002 x11).f0) == ((rd_T38 x218002 x11).f0)) || (!(((rd_T38 x227002 x11).f1) == ((rd_T38 x218002 x11).f1)) || (!(((rd_T38 x227002 x11).f2) == ((rd_T38 x218002 x11).f3)) || (!(((rd_T38 x227002 x11).f3) == ((rd_T38 x218002 x11).f2)))))) = true then (some false) else (crossbarlaw31_SettleSymmetric.l0 k (wrap64 (x11 + 1)) x218000 x218001 x218002 x227000 x227001 x227002)) else (none)))) else (none)) else (some true)
end
def crossbarlaw31_SettleSymmetric.f (k : Nat) (l0 : List (S36)) (l1 : List (S36)) (a2 : Int) : Option (Bool) := (crossbarlaw31_sane.f).bind fun t206 => (if t206 = true then ((crossbarref31_Few.f l0 l1).bind fun t207 => (if t207 = true then (if (l0.length : Int) > 60 then (crossbarlaw31_SettleSymmetric.j0 k l0 l1 a2 true) else ((crossbarlaw31_oneWay.f k l0 l1).bind fun t208 => (crossbarlaw31_SettleSymmetric.j0 k l0 l1 a2 (!t208)))) else (crossbarlaw31_SettleSymmetric.j0 k l0 l1 a2 true))) else (some false))
theorem crossbarlaw31_SettleSymmetric.mono_l : ∀ k, (∀ y0 y1 y2 y3, LeO (crossbarlaw31_SettleSymmetric.j0 k y0 y1 y2 y3) (crossbarlaw31_SettleSymmetric.j0 (k + 1) y0 y1 y2 y3)) ∧ (∀ y0 y1 y2 y3 y4 y5 y6, LeO (crossbarlaw31_SettleSymmetric.j1 k y0 y1 y2 y3 y4 y5 y6) (crossbarlaw31_SettleSymmetric.j1 (k + 1) y0 y1 y2 y3 y4 y5 y6)) ∧ (∀ y0 y1 y2 y3 y4 y5 y6, LeO (crossbarlaw31_SettleSymmetric.l0 k y0 y1 y2 y3 y4 y5 y6) (crossbarlaw31_SettleSymmetric.l0 (k + 1) y0 y1 y2 y3 y4 y5 y6))
  | 0 => ⟨fun _ _ _ _ r h => by simp [crossbarlaw31_SettleSymmetric.j0] at h, fun _ _ _ _ _ _ _ r h => by simp [crossbarlaw31_SettleSymmetric.j1] at h, fun _ _ _ _ _ _ _ r h => by simp [crossbarlaw31_SettleSymmetric.l0] at h⟩
  | k + 1 => by
    obtain ⟨ih0, ih1, ih2⟩ := crossbarlaw31_SettleSymmetric.mono_l k
    refine ⟨?_, ?_, ?_⟩
    · intro y0 y1 y2 y3
      unfold crossbarlaw31_SettleSymmetric.j0
      repeat' first
      | (with_reducible exact ih0 _ _ _ _)
      | (with_reducible exact ih1 _ _ _ _ _ _ _)
      | (with_reducible exact ih2 _ _ _ _ _ _ _)
      | (with_reducible exact crossbarlaw31_oneWay.mono _ _ _)
      | (with_reducible exact crossbarref31_Ints.mono _ _ _)
      | (with_reducible exact LeO.refl _)
      | (with_reducible exact LeO.none _)
      | (with_reducible refine LeO.ite ?_ ?_)
      | (with_reducible refine LeO.bind ?_ (fun _ => ?_))
      | exact ih0 _ _ _ _
      | exact ih1 _ _ _ _ _ _ _
      | exact ih2 _ _ _ _ _ _ _
      | exact crossbarlaw31_oneWay.mono _ _ _
      | exact crossbarref31_Ints.mono _ _ _
      | exact LeO.none _
      | refine LeO.ite ?_ ?_
      | refine LeO.bind ?_ (fun _ => ?_)
    · intro y0 y1 y2 y3 y4 y5 y6
      unfold crossbarlaw31_SettleSymmetric.j1
      repeat' first
      | (with_reducible exact ih0 _ _ _ _)
      | (with_reducible exact ih1 _ _ _ _ _ _ _)
      | (with_reducible exact ih2 _ _ _ _ _ _ _)
      | (with_reducible exact crossbarlaw31_oneWay.mono _ _ _)
      | (with_reducible exact crossbarref31_Ints.mono _ _ _)
      | (with_reducible exact LeO.refl _)
      | (with_reducible exact LeO.none _)
      | (with_reducible refine LeO.ite ?_ ?_)
      | (with_reducible refine LeO.bind ?_ (fun _ => ?_))
      | exact ih0 _ _ _ _
      | exact ih1 _ _ _ _ _ _ _
      | exact ih2 _ _ _ _ _ _ _
      | exact crossbarlaw31_oneWay.mono _ _ _
      | exact crossbarref31_Ints.mono _ _ _
      | exact LeO.none _
      | refine LeO.ite ?_ ?_
      | refine LeO.bind ?_ (fun _ => ?_)
    · intro y0 y1 y2 y3 y4 y5 y6
      unfold crossbarlaw31_SettleSymmetric.l0
      repeat' first
      | (with_reducible exact ih0 _ _ _ _)
      | (with_reducible exact ih1 _ _ _ _ _ _ _)
      | (with_reducible exact ih2 _ _ _ _ _ _ _)
      | (with_reducible exact crossbarlaw31_oneWay.mono _ _ _)
      | (with_reducible exact crossbarref31_Ints.mono _ _ _)
      | (with_reducible exact LeO.refl _)
      | (with_reducible exact LeO.none _)
      | (with_reducible refine LeO.ite ?_ ?_)
      | (with_reducible refine LeO.bind ?_ (fun _ => ?_))
      | exact ih0 _ _ _ _
      | exact ih1 _ _ _ _ _ _ _
      | exact ih2 _ _ _ _ _ _ _
      | exact crossbarlaw31_oneWay.mono _ _ _
      | exact crossbarref31_Ints.mono _ _ _
      | exact LeO.none _
      | refine LeO.ite ?_ ?_
      | refine LeO.bind ?_ (fun _ => ?_)
theorem crossbarlaw31_SettleSymmetric.mono : ∀ a0 a1 a2 k, LeO (crossbarlaw31_SettleSymmetric.f k a0 a1 a2) (crossbarlaw31_SettleSymmetric.f (k + 1) a0 a1 a2) := by
  intro a0 a1 a2 k
  obtain ⟨ih0, ih1, ih2⟩ := crossbarlaw31_SettleSymmetric.mono_l k
  unfold crossbarlaw31_SettleSymmetric.f
  repeat' first
      | (with_reducible exact ih0 _ _ _ _)
      | (with_reducible exact ih1 _ _ _ _ _ _ _)
      | (with_reducible exact ih2 _ _ _ _ _ _ _)
      | (with_reducible exact crossbarlaw31_oneWay.mono _ _ _)
      | (with_reducible exact crossbarref31_Ints.mono _ _ _)
      | (with_reducible exact LeO.refl _)
      | (with_reducible exact LeO.none _)
      | (with_reducible refine LeO.ite ?_ ?_)
      | (with_reducible refine LeO.bind ?_ (fun _ => ?_))
      | exact ih0 _ _ _ _
      | exact ih1 _ _ _ _ _ _ _
      | exact ih2 _ _ _ _ _ _ _
      | exact crossbarlaw31_oneWay.mono _ _ _
      | exact crossbarref31_Ints.mono _ _ _
      | exact LeO.none _
      | refine LeO.ite ?_ ?_
      | refine LeO.bind ?_ (fun _ => ?_)
theorem store38 (g : Nat) (w : World) (a0 a1 a2 a3 : Value) (hg : g = w.heap.size) (h0 : a0.oneCell' = true) (h1 : a1.oneCell' = true) (h2 : a2.oneCell' = true) (h3 : a3.oneCell' = true) :
    (Instr.storeAt 38 (.pointer (some ⟨g, 0, none⟩)) (.agg #[a0, a1, a2, a3])).run Try.prog (w.alloc (.cells #[.int .i64 0, .int .i64 0, .int .i64 0, .int .i64 0] 38)) = .ok () (w.alloc (.cells #[a0, a1, a2, a3] 38)) := by
  subst hg
  exact run_storeAt_new w 38 _ _ (by kernel_rfl) rfl (by simp [h0, h1, h2, h3])
set_option maxHeartbeats 8000000 in
set_option maxRecDepth 100000 in
theorem crossbarlaw31_SettleSymmetric.calls (k : Nat) (A0 : Option Addr) (c0 : Nat) (l0 : List (S36)) (A1 : Option Addr) (c1 : Nat) (l1 : List (S36)) (a2 : Int) (r : Bool) (w : World) (hr0 : Kd.C k36 w A0 l0.length l0) (hc0 : l0.length ≤ c0) (hr1 : Kd.C k36 w A1 l1.length l1) (hc1 : l1.length ≤ c1) (hr : r = true) (h : crossbarlaw31_SettleSymmetric.f k l0 l1 a2 = some r) :
    Calls Try.prog 6 #[.slice A0 l0.length c0, .slice A1 l1.length c1, .int .i64 a2] w fun e w' => e = .returned (.bool r) ∧ Below w.heap.size w w' := by
  have hu28 := Try.underlying28
  have hu38 := Try.underlying38
  have HR0 := Aside0.mk hr0
  have HC0 := Aside0.mk hc0
  clear hr0 hc0
  have HR1 := Aside0.mk hr1
  have HC1 := Aside0.mk hc1
  clear hr1 hc1
  have HB := Aside0.mk (Below.refl w.heap.size w)
  have H : ((crossbarlaw31_sane.f).bind fun t206 => (if t206 = true then ((crossbarref31_Few.f l0 l1).bind fun t207 => (if t207 = true then (if (l0.length : Int) > 60 then (crossbarlaw31_SettleSymmetric.j0 k l0 l1 a2 true) else ((crossbarlaw31_oneWay.f k l0 l1).bind fun t208 => (crossbarlaw31_SettleSymmetric.j0 k l0 l1 a2 (!t208)))) else (crossbarlaw31_SettleSymmetric.j0 k l0 l1 a2 true))) else (some false))) = some r := h
  clear h
  replace H := Option.bind_eq_some_iff.mp H
  obtain ⟨t206, A40, H⟩ := H
  replace H : (if t206 = true then ((crossbarref31_Few.f l0 l1).bind fun t207 => (if t207 = true then (if (l0.length : Int) > 60 then (crossbarlaw31_SettleSymmetric.j0 k l0 l1 a2 true) else ((crossbarlaw31_oneWay.f k l0 l1).bind fun t208 => (crossbarlaw31_SettleSymmetric.j0 k l0 l1 a2 (!t208)))) else (crossbarlaw31_SettleSymmetric.j0 k l0 l1 a2 true))) else (some false)) = some r := H
  have A4 := Aside0.mk A40
  clear A40
  by_cases c5 : t206 = true
  · subst c5
    have H1 : ((crossbarref31_Few.f l0 l1).bind fun t207 => (if t207 = true then (if (l0.length : Int) > 60 then (crossbarlaw31_SettleSymmetric.j0 k l0 l1 a2 true) else ((crossbarlaw31_oneWay.f k l0 l1).bind fun t208 => (crossbarlaw31_SettleSymmetric.j0 k l0 l1 a2 (!t208)))) else (crossbarlaw31_SettleSymmetric.j0 k l0 l1 a2 true))) = some r := by rw [if_pos rfl] at H; exact H
    clear H
    have H := H1
    clear H1
    have HC6 := Aside0.mk H
    clear H
    go_enter Try.func6, Try.ntmps6
    go_upto_region 3 with (first | (go_at_call 10; (with_reducible refine (crossbarlaw31_sane.calls  true _ A4.out).mono ?_); rintro e w7 ⟨rfl, hb⟩; have n0_ := Aside0.mk (below_step (by repeat (first | (with_reducible first | exact HB.out | apply below_alloc | apply pw_below_drewN | apply below_drew1) | exact HB.out)) hb); clear HB; have HB := n0_; clear n0_; (try clear hb); (try clear hb2); (try clear hk); (try clear hi)))
    repeat (go_quiet (first | (go_at_call 10; (with_reducible refine (crossbarlaw31_sane.calls  true _ A4.out).mono ?_); rintro e w7 ⟨rfl, hb⟩; have n0_ := Aside0.mk (below_step (by repeat (first | (with_reducible first | exact HB.out | apply below_alloc | apply pw_below_drewN | apply below_drew1) | exact HB.out)) hb); clear HB; have HB := n0_; clear n0_; (try clear hb); (try clear hb2); (try clear hk); (try clear hi))); go_upto_region 3 with (first | (go_at_call 10; (with_reducible refine (crossbarlaw31_sane.calls  true _ A4.out).mono ?_); rintro e w7 ⟨rfl, hb⟩; have n0_ := Aside0.mk (below_step (by repeat (first | (with_reducible first | exact HB.out | apply below_alloc | apply pw_below_drewN | apply below_drew1) | exact HB.out)) hb); clear HB; have HB := n0_; clear n0_; (try clear hb); (try clear hb2); (try clear hk); (try clear hi))))
    (try simp only [Act.put, List.setIfInBounds_toArray, List.set_cons_zero, List.set_cons_succ])
    go_cut [29] (fun v29 wc => ∃ (kq : Nat) (x29_5 : Bool), v29 = .bool x29_5 ∧ Aside0 (crossbarlaw31_SettleSymmetric.j0 kq l0 l1 a2 x29_5 = some r) ∧ Aside0 (kq ≤ k) ∧ Aside0 (Below w.heap.size w wc))
    case first =>
      have H := HC6.out
      clear HC6
      replace H := Option.bind_eq_some_iff.mp H
      obtain ⟨t207, A80, H⟩ := H
      replace H : (if t207 = true then (if (l0.length : Int) > 60 then (crossbarlaw31_SettleSymmetric.j0 k l0 l1 a2 true) else ((crossbarlaw31_oneWay.f k l0 l1).bind fun t208 => (crossbarlaw31_SettleSymmetric.j0 k l0 l1 a2 (!t208)))) else (crossbarlaw31_SettleSymmetric.j0 k l0 l1 a2 true)) = some r := H
      have A8 := Aside0.mk A80
      clear A80
      by_cases c9 : t207 = true
      · subst c9
        have H1 : (if (l0.length : Int) > 60 then (crossbarlaw31_SettleSymmetric.j0 k l0 l1 a2 true) else ((crossbarlaw31_oneWay.f k l0 l1).bind fun t208 => (crossbarlaw31_SettleSymmetric.j0 k l0 l1 a2 (!t208)))) = some r := by rw [if_pos rfl] at H; exact H
        clear H
        have H := H1
        clear H1
        by_cases c10 : (l0.length : Int) > 60
        · rw [if_pos c10] at H
          have c10b0 : decide (60 < (l0.length : Int)) = true := decide_eq_true c10
          have c10b1 : decide (60 < l0.length) = true := decide_eq_true (by omega)
          clear c10
          (first | rw [c10b0] | (simp only [i64_w, i32_w]; rw [c10b0]) | skip)
          have H' := Aside0.mk H
          clear H
          go_wp2_with (first | (go_at_call 11; (with_reducible refine (crossbarref31_Few.calls _ _ l0 _ _ l1 true _ ?side1 ?side2 ?side3 ?side4 A8.out).mono ?_); (case side1 => repeat (first | exact (Kd.C_below HR0.out HB.out) | (with_reducible refine Kd.C_alloc ?_ _) | (with_reducible refine Kd.C_drewN ?_ _) | (with_reducible refine Kd.C_drew ?_))); (case side2 => exact HC0.out); (case side3 => repeat (first | exact (Kd.C_below HR1.out HB.out) | (with_reducible refine Kd.C_alloc ?_ _) | (with_reducible refine Kd.C_drewN ?_ _) | (with_reducible refine Kd.C_drew ?_))); (case side4 => exact HC1.out); rintro e w' ⟨rfl, ⟨nd, rfl⟩⟩; (try first | exact ⟨rfl, _, World.drewN_drewN _ _ _⟩ | exact ⟨rfl, _, Eq.trans (World.drewN_drewN _ _ _) (congrArg (World.drewN _) (Nat.add_assoc _ _ _))⟩)))
          repeat (go_quiet (first | (go_at_call 11; (with_reducible refine (crossbarref31_Few.calls _ _ l0 _ _ l1 true _ ?side1 ?side2 ?side3 ?side4 A8.out).mono ?_); (case side1 => repeat (first | exact (Kd.C_below HR0.out HB.out) | (with_reducible refine Kd.C_alloc ?_ _) | (with_reducible refine Kd.C_drewN ?_ _) | (with_reducible refine Kd.C_drew ?_))); (case side2 => exact HC0.out); (case side3 => repeat (first | exact (Kd.C_below HR1.out HB.out) | (with_reducible refine Kd.C_alloc ?_ _) | (with_reducible refine Kd.C_drewN ?_ _) | (with_reducible refine Kd.C_drew ?_))); (case side4 => exact HC1.out); rintro e w' ⟨rfl, ⟨nd, rfl⟩⟩; (try first | exact ⟨rfl, _, World.drewN_drewN _ _ _⟩ | exact ⟨rfl, _, Eq.trans (World.drewN_drewN _ _ _) (congrArg (World.drewN _) (Nat.add_assoc _ _ _))⟩))); try go_wp2_with (first | (go_at_call 11; (with_reducible refine (crossbarref31_Few.calls _ _ l0 _ _ l1 true _ ?side1 ?side2 ?side3 ?side4 A8.out).mono ?_); (case side1 => repeat (first | exact (Kd.C_below HR0.out HB.out) | (with_reducible refine Kd.C_alloc ?_ _) | (with_reducible refine Kd.C_drewN ?_ _) | (with_reducible refine Kd.C_drew ?_))); (case side2 => exact HC0.out); (case side3 => repeat (first | exact (Kd.C_below HR1.out HB.out) | (with_reducible refine Kd.C_alloc ?_ _) | (with_reducible refine Kd.C_drewN ?_ _) | (with_reducible refine Kd.C_drew ?_))); (case side4 => exact HC1.out); rintro e w' ⟨rfl, ⟨nd, rfl⟩⟩; (try first | exact ⟨rfl, _, World.drewN_drewN _ _ _⟩ | exact ⟨rfl, _, Eq.trans (World.drewN_drewN _ _ _) (congrArg (World.drewN _) (Nat.add_assoc _ _ _))⟩))))
          go_meet
          case rel => exact ⟨_, (true), (by first | rfl | (simp; done) | (simp [*]; done)), H', ⟨by first | omega | exact Nat.le_refl _⟩, ⟨by repeat (first | (with_reducible first | exact HB.out | apply below_alloc | apply pw_below_drewN | apply below_drew1) | exact HB.out)⟩⟩
        · rw [if_neg c10] at H
          have c10b0 : decide (60 < (l0.length : Int)) = false := decide_eq_false c10
          have c10b1 : decide (60 < l0.length) = false := decide_eq_false (by omega)
          clear c10
          (first | rw [c10b0] | (simp only [i64_w, i32_w]; rw [c10b0]) | skip)
          replace H := Option.bind_eq_some_iff.mp H
          obtain ⟨t208, A110, H⟩ := H
          replace H : (crossbarlaw31_SettleSymmetric.j0 k l0 l1 a2 (!t208)) = some r := H
          have A11 := Aside0.mk A110
          clear A110
          have H' := Aside0.mk H
          clear H
          go_wp2_with (first | (go_at_call 11; (with_reducible refine (crossbarref31_Few.calls _ _ l0 _ _ l1 true _ ?side1 ?side2 ?side3 ?side4 A8.out).mono ?_); (case side1 => repeat (first | exact (Kd.C_below HR0.out HB.out) | (with_reducible refine Kd.C_alloc ?_ _) | (with_reducible refine Kd.C_drewN ?_ _) | (with_reducible refine Kd.C_drew ?_))); (case side2 => exact HC0.out); (case side3 => repeat (first | exact (Kd.C_below HR1.out HB.out) | (with_reducible refine Kd.C_alloc ?_ _) | (with_reducible refine Kd.C_drewN ?_ _) | (with_reducible refine Kd.C_drew ?_))); (case side4 => exact HC1.out); rintro e w' ⟨rfl, ⟨nd, rfl⟩⟩; (try first | exact ⟨rfl, _, World.drewN_drewN _ _ _⟩ | exact ⟨rfl, _, Eq.trans (World.drewN_drewN _ _ _) (congrArg (World.drewN _) (Nat.add_assoc _ _ _))⟩)) | (go_at_call 16; (with_reducible refine (crossbarlaw31_oneWay.calls k _ _ l0 _ _ l1 t208 _ ?side1 ?side2 ?side3 ?side4 A11.out).mono ?_); (case side1 => repeat (first | exact (Kd.C_below HR0.out (by repeat (first | (with_reducible first | exact HB.out | apply below_alloc | apply pw_below_drewN | apply below_drew1) | exact HB.out))) | (with_reducible refine Kd.C_alloc ?_ _) | (with_reducible refine Kd.C_drewN ?_ _) | (with_reducible refine Kd.C_drew ?_))); (case side2 => exact HC0.out); (case side3 => repeat (first | exact (Kd.C_below HR1.out (by repeat (first | (with_reducible first | exact HB.out | apply below_alloc | apply pw_below_drewN | apply below_drew1) | exact HB.out))) | (with_reducible refine Kd.C_alloc ?_ _) | (with_reducible refine Kd.C_drewN ?_ _) | (with_reducible refine Kd.C_drew ?_))); (case side4 => exact HC1.out); rintro e w12 ⟨rfl, hb⟩; have n0_ := Aside0.mk (below_step (by repeat (first | (with_reducible first | exact HB.out | apply below_alloc | apply pw_below_drewN | apply below_drew1) | exact HB.out)) hb); clear HB; have HB := n0_; clear n0_; (try clear hb); (try clear hb2); (try clear hk); (try clear hi)))
          repeat (go_quiet (first | (go_at_call 11; (with_reducible refine (crossbarref31_Few.calls _ _ l0 _ _ l1 true _ ?side1 ?side2 ?side3 ?side4 A8.out).mono ?_); (case side1 => repeat (first | exact (Kd.C_below HR0.out HB.out) | (with_reducible refine Kd.C_alloc ?_ _) | (with_reducible refine Kd.C_drewN ?_ _) | (with_reducible refine Kd.C_drew ?_))); (case side2 => exact HC0.out); (case side3 => repeat (first | exact (Kd.C_below HR1.out HB.out) | (with_reducible refine Kd.C_alloc ?_ _) | (with_reducible refine Kd.C_drewN ?_ _) | (with_reducible refine Kd.C_drew ?_))); (case side4 => exact HC1.out); rintro e w' ⟨rfl, ⟨nd, rfl⟩⟩; (try first | exact ⟨rfl, _, World.drewN_drewN _ _ _⟩ | exact ⟨rfl, _, Eq.trans (World.drewN_drewN _ _ _) (congrArg (World.drewN _) (Nat.add_assoc _ _ _))⟩)) | (go_at_call 16; (with_reducible refine (crossbarlaw31_oneWay.calls k _ _ l0 _ _ l1 t208 _ ?side1 ?side2 ?side3 ?side4 A11.out).mono ?_); (case side1 => repeat (first | exact (Kd.C_below HR0.out (by repeat (first | (with_reducible first | exact HB.out | apply below_alloc | apply pw_below_drewN | apply below_drew1) | exact HB.out))) | (with_reducible refine Kd.C_alloc ?_ _) | (with_reducible refine Kd.C_drewN ?_ _) | (with_reducible refine Kd.C_drew ?_))); (case side2 => exact HC0.out); (case side3 => repeat (first | exact (Kd.C_below HR1.out (by repeat (first | (with_reducible first | exact HB.out | apply below_alloc | apply pw_below_drewN | apply below_drew1) | exact HB.out))) | (with_reducible refine Kd.C_alloc ?_ _) | (with_reducible refine Kd.C_drewN ?_ _) | (with_reducible refine Kd.C_drew ?_))); (case side4 => exact HC1.out); rintro e w12 ⟨rfl, hb⟩; have n0_ := Aside0.mk (below_step (by repeat (first | (with_reducible first | exact HB.out | apply below_alloc | apply pw_below_drewN | apply below_drew1) | exact HB.out)) hb); clear HB; have HB := n0_; clear n0_; (try clear hb); (try clear hb2); (try clear hk); (try clear hi))); try go_wp2_with (first | (go_at_call 11; (with_reducible refine (crossbarref31_Few.calls _ _ l0 _ _ l1 true _ ?side1 ?side2 ?side3 ?side4 A8.out).mono ?_); (case side1 => repeat (first | exact (Kd.C_below HR0.out HB.out) | (with_reducible refine Kd.C_alloc ?_ _) | (with_reducible refine Kd.C_drewN ?_ _) | (with_reducible refine Kd.C_drew ?_))); (case side2 => exact HC0.out); (case side3 => repeat (first | exact (Kd.C_below HR1.out HB.out) | (with_reducible refine Kd.C_alloc ?_ _) | (with_reducible refine Kd.C_drewN ?_ _) | (with_reducible refine Kd.C_drew ?_))); (case side4 => exact HC1.out); rintro e w' ⟨rfl, ⟨nd, rfl⟩⟩; (try first | exact ⟨rfl, _, World.drewN_drewN _ _ _⟩ | exact ⟨rfl, _, Eq.trans (World.drewN_drewN _ _ _) (congrArg (World.drewN _) (Nat.add_assoc _ _ _))⟩)) | (go_at_call 16; (with_reducible refine (crossbarlaw31_oneWay.calls k _ _ l0 _ _ l1 t208 _ ?side1 ?side2 ?side3 ?side4 A11.out).mono ?_); (case side1 => repeat (first | exact (Kd.C_below HR0.out (by repeat (first | (with_reducible first | exact HB.out | apply below_alloc | apply pw_below_drewN | apply below_drew1) | exact HB.out))) | (with_reducible refine Kd.C_alloc ?_ _) | (with_reducible refine Kd.C_drewN ?_ _) | (with_reducible refine Kd.C_drew ?_))); (case side2 => exact HC0.out); (case side3 => repeat (first | exact (Kd.C_below HR1.out (by repeat (first | (with_reducible first | exact HB.out | apply below_alloc | apply pw_below_drewN | apply below_drew1) | exact HB.out))) | (with_reducible refine Kd.C_alloc ?_ _) | (with_reducible refine Kd.C_drewN ?_ _) | (with_reducible refine Kd.C_drew ?_))); (case side4 => exact HC1.out); rintro e w12 ⟨rfl, hb⟩; have n0_ := Aside0.mk (below_step (by repeat (first | (with_reducible first | exact HB.out | apply below_alloc | apply pw_below_drewN | apply below_drew1) | exact HB.out)) hb); clear HB; have HB := n0_; clear n0_; (try clear hb); (try clear hb2); (try clear hk); (try clear hi))))
          go_meet
          case rel => exact ⟨_, (!t208), (by first | rfl | (simp; done) | (simp [*]; done)), H', ⟨by first | omega | exact Nat.le_refl _⟩, ⟨by repeat (first | (with_reducible first | exact HB.out | apply below_alloc | apply pw_below_drewN | apply below_drew1) | exact HB.out)⟩⟩
      · replace c9 := Bool.eq_false_iff.mpr c9
        subst c9
        have H1 : (crossbarlaw31_SettleSymmetric.j0 k l0 l1 a2 true) = some r := by rw [if_neg (show ¬ (false = true) by decide)] at H; exact H
        clear H
        have H := H1
        clear H1
        have H' := Aside0.mk H
        clear H
        go_wp2_with (first | (go_at_call 11; (with_reducible refine (crossbarref31_Few.calls _ _ l0 _ _ l1 false _ ?side1 ?side2 ?side3 ?side4 A8.out).mono ?_); (case side1 => repeat (first | exact (Kd.C_below HR0.out HB.out) | (with_reducible refine Kd.C_alloc ?_ _) | (with_reducible refine Kd.C_drewN ?_ _) | (with_reducible refine Kd.C_drew ?_))); (case side2 => exact HC0.out); (case side3 => repeat (first | exact (Kd.C_below HR1.out HB.out) | (with_reducible refine Kd.C_alloc ?_ _) | (with_reducible refine Kd.C_drewN ?_ _) | (with_reducible refine Kd.C_drew ?_))); (case side4 => exact HC1.out); rintro e w' ⟨rfl, ⟨nd, rfl⟩⟩; (try first | exact ⟨rfl, _, World.drewN_drewN _ _ _⟩ | exact ⟨rfl, _, Eq.trans (World.drewN_drewN _ _ _) (congrArg (World.drewN _) (Nat.add_assoc _ _ _))⟩)))
        repeat (go_quiet (first | (go_at_call 11; (with_reducible refine (crossbarref31_Few.calls _ _ l0 _ _ l1 false _ ?side1 ?side2 ?side3 ?side4 A8.out).mono ?_); (case side1 => repeat (first | exact (Kd.C_below HR0.out HB.out) | (with_reducible refine Kd.C_alloc ?_ _) | (with_reducible refine Kd.C_drewN ?_ _) | (with_reducible refine Kd.C_drew ?_))); (case side2 => exact HC0.out); (case side3 => repeat (first | exact (Kd.C_below HR1.out HB.out) | (with_reducible refine Kd.C_alloc ?_ _) | (with_reducible refine Kd.C_drewN ?_ _) | (with_reducible refine Kd.C_drew ?_))); (case side4 => exact HC1.out); rintro e w' ⟨rfl, ⟨nd, rfl⟩⟩; (try first | exact ⟨rfl, _, World.drewN_drewN _ _ _⟩ | exact ⟨rfl, _, Eq.trans (World.drewN_drewN _ _ _) (congrArg (World.drewN _) (Nat.add_assoc _ _ _))⟩))); try go_wp2_with (first | (go_at_call 11; (with_reducible refine (crossbarref31_Few.calls _ _ l0 _ _ l1 false _ ?side1 ?side2 ?side3 ?side4 A8.out).mono ?_); (case side1 => repeat (first | exact (Kd.C_below HR0.out HB.out) | (with_reducible refine Kd.C_alloc ?_ _) | (with_reducible refine Kd.C_drewN ?_ _) | (with_reducible refine Kd.C_drew ?_))); (case side2 => exact HC0.out); (case side3 => repeat (first | exact (Kd.C_below HR1.out HB.out) | (with_reducible refine Kd.C_alloc ?_ _) | (with_reducible refine Kd.C_drewN ?_ _) | (with_reducible refine Kd.C_drew ?_))); (case side4 => exact HC1.out); rintro e w' ⟨rfl, ⟨nd, rfl⟩⟩; (try first | exact ⟨rfl, _, World.drewN_drewN _ _ _⟩ | exact ⟨rfl, _, Eq.trans (World.drewN_drewN _ _ _) (congrArg (World.drewN _) (Nat.add_assoc _ _ _))⟩))))
        go_meet
        case rel => exact ⟨_, (true), (by first | rfl | (simp; done) | (simp [*]; done)), H', ⟨by first | omega | exact Nat.le_refl _⟩, ⟨by repeat (first | (with_reducible first | exact HB.out | apply below_alloc | apply pw_below_drewN | apply below_drew1) | exact HB.out)⟩⟩
    case rest =>
      clear HC6
      try clear c1
      try clear p2
      try clear c5
      try clear c6
      try clear c9
      try clear c10
      try clear c10b0
      try clear c10b1
      obtain ⟨kq, x29_5, rfl, HA, HJ5, HB⟩ := hcut
      cases kq with
      | zero => exact absurd HA.out (by simp [crossbarlaw31_SettleSymmetric.j0])
      | succ kj5 =>
        have H := HA.out
        clear HA
        simp only [crossbarlaw31_SettleSymmetric.j0] at H
        by_cases c13 : x29_5 = true
        · subst c13
          have H1 : (some true) = some r := by rw [if_pos rfl] at H; exact H
          clear H
          have H := H1
          clear H1
          obtain rfl := Option.some.inj H
          go_wp2
          repeat (go_quiet (fail); try go_wp2)
          go_ret
          exact ⟨by first | rfl | (simp [errW_none, errW_some] <;> rfl) | (simp [*, errW_none, errW_some] <;> rfl), by repeat (first | (with_reducible first | exact HB.out | apply below_alloc | apply pw_below_drewN | apply below_drew1) | exact HB.out)⟩
        · replace c13 := Bool.eq_false_iff.mpr c13
          subst c13
          have H1 : ((settle_Match.f l0 l1 a2).bind fun bt209 => ((settle_Match.f l1 l0 a2).bind fun bt218 => (if bt209.2.2.2 = bt218.2.2.2 then (if bt209.1 = (wrap64 (-bt218.1)) then ((crossbarref31_Ints.f kj5 bt209.2.1 bt218.2.1).bind fun t227 => (if t227 = true then (crossbarlaw31_SettleSymmetric.j1 kj5 ((bt209.2.2.1.length : Int) != (bt218.2.2.1.length : Int)) bt209.1 bt209.2.1 bt209.2.2.1 bt218.1 bt218.2.1 bt218.2.2.1) else (crossbarlaw31_SettleSymmetric.j1 kj5 true bt209.1 bt209.2.1 bt209.2.2.1 bt218.1 bt218.2.1 bt218.2.2.1))) else (crossbarlaw31_SettleSymmetric.j1 kj5 true bt209.1 bt209.2.1 bt209.2.2.1 bt218.1 bt218.2.1 bt218.2.2.1)) else (crossbarlaw31_SettleSymmetric.j1 kj5 true bt209.1 bt209.2.1 bt209.2.2.1 bt218.1 bt218.2.1 bt218.2.2.1)))) = some r := by rw [if_neg (show ¬ (false = true) by decide)] at H; exact H
          clear H
          have H := H1
          clear H1
          replace H := Option.bind_eq_some_iff.mp H
          obtain ⟨⟨t209, t210, t213, t216⟩, A140, H⟩ := H
          replace H : ((settle_Match.f l1 l0 a2).bind fun bt218 => (if t216 = bt218.2.2.2 then (if t209 = (wrap64 (-bt218.1)) then ((crossbarref31_Ints.f kj5 t210 bt218.2.1).bind fun t227 => (if t227 = true then (crossbarlaw31_SettleSymmetric.j1 kj5 ((t213.length : Int) != (bt218.2.2.1.length : Int)) t209 t210 t213 bt218.1 bt218.2.1 bt218.2.2.1) else (crossbarlaw31_SettleSymmetric.j1 kj5 true t209 t210 t213 bt218.1 bt218.2.1 bt218.2.2.1))) else (crossbarlaw31_SettleSymmetric.j1 kj5 true t209 t210 t213 bt218.1 bt218.2.1 bt218.2.2.1)) else (crossbarlaw31_SettleSymmetric.j1 kj5 true t209 t210 t213 bt218.1 bt218.2.1 bt218.2.2.1))) = some r := H
          have A14 := Aside0.mk A140
          clear A140
          replace H := Option.bind_eq_some_iff.mp H
          obtain ⟨⟨t218, t219, t222, t225⟩, A150, H⟩ := H
          replace H : (if t216 = t225 then (if t209 = (wrap64 (-t218)) then ((crossbarref31_Ints.f kj5 t210 t219).bind fun t227 => (if t227 = true then (crossbarlaw31_SettleSymmetric.j1 kj5 ((t213.length : Int) != (t222.length : Int)) t209 t210 t213 t218 t219 t222) else (crossbarlaw31_SettleSymmetric.j1 kj5 true t209 t210 t213 t218 t219 t222))) else (crossbarlaw31_SettleSymmetric.j1 kj5 true t209 t210 t213 t218 t219 t222)) else (crossbarlaw31_SettleSymmetric.j1 kj5 true t209 t210 t213 t218 t219 t222)) = some r := H
          have A15 := Aside0.mk A150
          clear A150
          have HC16 := Aside0.mk H
          clear H
          go_upto_region 7 with (first | (go_at_call 12; (with_reducible refine (settle_Match.calls _ _ l0 _ _ l1 a2 t209 t210 t213 t216 _ ?side1 ?side2 ?side3 ?side4 A14.out).mono ?_); (case side1 => repeat (first | exact (Kd.C_below HR0.out HB.out) | (with_reducible refine Kd.C_alloc ?_ _) | (with_reducible refine Kd.C_drewN ?_ _) | (with_reducible refine Kd.C_drew ?_))); (case side2 => exact HC0.out); (case side3 => repeat (first | exact (Kd.C_below HR1.out HB.out) | (with_reducible refine Kd.C_alloc ?_ _) | (with_reducible refine Kd.C_drewN ?_ _) | (with_reducible refine Kd.C_drew ?_))); (case side4 => exact HC1.out); rintro e w17 ⟨v211, v214, rfl, ho0, ho1, hb⟩; have n0_ := Aside0.mk (Kd.R_lower ho0 (below_size (by repeat (first | (with_reducible first | exact HB.out | apply below_alloc | apply pw_below_drewN | apply below_drew1) | exact HB.out)))); have n1_ := Aside0.mk (Kd.R_lower ho1 (below_size (by repeat (first | (with_reducible first | exact HB.out | apply below_alloc | apply pw_below_drewN | apply below_drew1) | exact HB.out)))); have n2_ := Aside0.mk (below_step (by repeat (first | (with_reducible first | exact HB.out | apply below_alloc | apply pw_below_drewN | apply below_drew1) | exact HB.out)) hb); clear HB; have HO212 := n0_; have HO215 := n1_; have HB := n2_; clear n0_ n1_ n2_; (try clear hb); (try clear hb2); (try clear hk); (try clear hi); (try clear ho0); (try clear ho1)) | ((with_reducible refine gate_dst (N := 7) rfl ?_); (try (refine gate_guard (by rfl) ?_; dsimp only)); refine box_event ?hg (N := 7) ?hd (cs := #[.int .i64 0, .slice none 0 0, .slice none 0 0]) (t := 28) ?hr ?_; (case hd => rfl); (case hg => rfl); (case hr => first | (go_simp; done) | (go_simp; rfl)); intro gb217 hg w18 hbox hb; have n0_ := Aside0.mk (Kd.R_below (by (with_reducible repeat (first | apply Kd.R_alloc | apply Kd.R_drewN | apply Kd.R_drew)); exact HO212.out) hb); have n1_ := Aside0.mk (Kd.R_below (by (with_reducible repeat (first | apply Kd.R_alloc | apply Kd.R_drewN | apply Kd.R_drew)); exact HO215.out) hb); have n2_ := Aside0.mk (below_step (by repeat (first | (with_reducible first | exact HB.out | apply below_alloc | apply pw_below_drewN | apply below_drew1) | exact HB.out)) hb); have n3_ := Aside0.mk (hbox); have n4_ := Aside0.mk ((by rw [hg]; exact (below_size (by repeat (first | (with_reducible first | exact HB.out | apply below_alloc | apply pw_below_drewN | apply below_drew1) | exact HB.out))) : w.heap.size ≤ gb217)); have n5_ := Aside0.mk ((by rw [hg]; exact (below_size (by repeat (first | (with_reducible first | exact HB.out | apply below_alloc | apply pw_below_drewN | apply below_drew1) | exact HB.out))) : w.heap.size ≤ gb217)); clear HO212; clear HO215; clear HB; have HO212 := n0_; have HO215 := n1_; have HB := n2_; have BK217 := n3_; have GW217 := n4_; have GE217 := n5_; clear n0_ n1_ n2_ n3_ n4_ n5_; clear hb hbox hg; have hcz19_0 : w18.cell? ⟨gb217, 0, none⟩ = some (.int .i64 0) := (blk_cell BK217.out 0).trans rfl; have hcz19_1 : w18.cell? ⟨gb217, 1, none⟩ = some (.slice none 0 0) := (blk_cell BK217.out 1).trans rfl; have hcz19_2 : w18.cell? ⟨gb217, 2, none⟩ = some (.slice none 0 0) := (blk_cell BK217.out 2).trans rfl; have hfz19_0 := blk_frozen BK217.out 0; have hfz19_1 := blk_frozen BK217.out 1; have hfz19_2 := blk_frozen BK217.out 2; obtain ⟨Ao20, co20, eo20⟩ := Kd.R_slice HO212.out; subst eo20; obtain ⟨Ao21, co21, eo21⟩ := Kd.R_slice HO215.out; subst eo21) | (go_at_call 12; (with_reducible refine (settle_Match.calls _ _ l1 _ _ l0 a2 t218 t219 t222 t225 _ ?side1 ?side2 ?side3 ?side4 A15.out).mono ?_); (case side1 => exact Kd.C_below HR1.out (by repeat (first | (with_reducible first | exact HB.out | apply below_alloc | apply pw_below_drewN | apply below_drew1 | refine below_set ?_ GE217.out) | exact HB.out))); (case side2 => exact HC1.out); (case side3 => exact Kd.C_below HR0.out (by repeat (first | (with_reducible first | exact HB.out | apply below_alloc | apply pw_below_drewN | apply below_drew1 | refine below_set ?_ GE217.out) | exact HB.out))); (case side4 => exact HC0.out); rintro e w22 ⟨v220, v223, rfl, ho0, ho1, hb⟩; have n0_ := Aside0.mk (Kd.R_elder' (by (with_reducible repeat (first | apply Kd.R_alloc | apply Kd.R_drewN | apply Kd.R_drew)); exact (Kd.R_mono (Kd.R_far (p := ⟨gb217, 2, none⟩) (Kd.R_far (p := ⟨gb217, 1, none⟩) (Kd.R_far (p := ⟨gb217, 0, none⟩) (Kd.R_types HO212.out BK217.out (by decide)) (fun _ hk => hk.2) (.int .i64 t209)) (fun _ hk => hk.2) (.slice Ao20 t210.length co20)) (fun _ hk => hk.2) (.slice Ao21 t213.length co21)) (fun _ h_ => h_.1))) (Kd.R_base ho0) hb); have n1_ := Aside0.mk (Kd.R_elder' (by (with_reducible repeat (first | apply Kd.R_alloc | apply Kd.R_drewN | apply Kd.R_drew)); exact (Kd.R_mono (Kd.R_far (p := ⟨gb217, 2, none⟩) (Kd.R_far (p := ⟨gb217, 1, none⟩) (Kd.R_far (p := ⟨gb217, 0, none⟩) (Kd.R_types HO215.out BK217.out (by decide)) (fun _ hk => hk.2) (.int .i64 t209)) (fun _ hk => hk.2) (.slice Ao20 t210.length co20)) (fun _ hk => hk.2) (.slice Ao21 t213.length co21)) (fun _ h_ => h_.1))) (Kd.R_base ho1) hb); have n2_ := Aside0.mk (Kd.R_lower (Kd.R_new' ho0 (Kd.R_lt (by (with_reducible repeat (first | apply Kd.R_alloc | apply Kd.R_drewN | apply Kd.R_drew)); exact (Kd.R_mono (Kd.R_far (p := ⟨gb217, 2, none⟩) (Kd.R_far (p := ⟨gb217, 1, none⟩) (Kd.R_far (p := ⟨gb217, 0, none⟩) (Kd.R_types HO212.out BK217.out (by decide)) (fun _ hk => hk.2) (.int .i64 t209)) (fun _ hk => hk.2) (.slice Ao20 t210.length co20)) (fun _ hk => hk.2) (.slice Ao21 t213.length co21)) (fun _ h_ => h_.1))))) (below_size (by repeat (first | (with_reducible first | exact HB.out | apply below_alloc | apply pw_below_drewN | apply below_drew1 | refine below_set ?_ GE217.out) | exact HB.out)))); have n3_ := Aside0.mk (Kd.R_lower (Kd.R_new' ho1 (Kd.R_lt (by (with_reducible repeat (first | apply Kd.R_alloc | apply Kd.R_drewN | apply Kd.R_drew)); exact (Kd.R_mono (Kd.R_far (p := ⟨gb217, 2, none⟩) (Kd.R_far (p := ⟨gb217, 1, none⟩) (Kd.R_far (p := ⟨gb217, 0, none⟩) (Kd.R_types HO215.out BK217.out (by decide)) (fun _ hk => hk.2) (.int .i64 t209)) (fun _ hk => hk.2) (.slice Ao20 t210.length co20)) (fun _ hk => hk.2) (.slice Ao21 t213.length co21)) (fun _ h_ => h_.1))))) (below_size (by repeat (first | (with_reducible first | exact HB.out | apply below_alloc | apply pw_below_drewN | apply below_drew1 | refine below_set ?_ GE217.out) | exact HB.out)))); have n4_ := Aside0.mk (blk_below (g := gb217) (o := .cells #[.int .i64 t209, .slice Ao20 t210.length co20, .slice Ao21 t213.length co21] 28 (0, 0)) (by (with_reducible repeat (first | refine blk_drewN ?_ _ | refine blk_drew ?_ | refine blk_alloc ?_ _)); refine blk_put (cs := #[.int .i64 t209, .slice Ao20 t210.length co20, .slice none 0 0]) ?_ 2 _ rfl; (with_reducible repeat (first | refine blk_drewN ?_ _ | refine blk_drew ?_ | refine blk_alloc ?_ _)); refine blk_put (cs := #[.int .i64 t209, .slice none 0 0, .slice none 0 0]) ?_ 1 _ rfl; (with_reducible repeat (first | refine blk_drewN ?_ _ | refine blk_drew ?_ | refine blk_alloc ?_ _)); refine blk_put (cs := #[.int .i64 0, .slice none 0 0, .slice none 0 0]) ?_ 0 _ rfl; (with_reducible repeat (first | refine blk_drewN ?_ _ | refine blk_drew ?_ | refine blk_alloc ?_ _)); exact BK217.out) hb); have n5_ := Aside0.mk (below_step (by repeat (first | (with_reducible first | exact HB.out | apply below_alloc | apply pw_below_drewN | apply below_drew1 | refine below_set ?_ GE217.out) | exact HB.out)) hb); clear HO212; clear HO215; clear BK217; clear HB; have HO212 := n0_; have HO215 := n1_; have HO221 := n2_; have HO224 := n3_; have BK217 := n4_; have HB := n5_; clear n0_ n1_ n2_ n3_ n4_ n5_; (try clear hb); (try clear hb2); (try clear hk); (try clear hi); (try clear ho0); (try clear ho1)) | ((with_reducible refine gate_dst (N := 9) rfl ?_); (try (refine gate_guard (by rfl) ?_; dsimp only)); refine box_event ?hg (N := 9) ?hd (cs := #[.int .i64 0, .slice none 0 0, .slice none 0 0]) (t := 28) ?hr ?_; (case hd => rfl); (case hg => rfl); (case hr => first | (go_simp; done) | (go_simp; rfl)); intro gb226 hg w23 hbox hb; have n0_ := Aside0.mk (Kd.R_below (by (with_reducible repeat (first | apply Kd.R_alloc | apply Kd.R_drewN | apply Kd.R_drew)); exact HO212.out) hb); have n1_ := Aside0.mk (Kd.R_below (by (with_reducible repeat (first | apply Kd.R_alloc | apply Kd.R_drewN | apply Kd.R_drew)); exact HO215.out) hb); have n2_ := Aside0.mk (Kd.R_below (by (with_reducible repeat (first | apply Kd.R_alloc | apply Kd.R_drewN | apply Kd.R_drew)); exact HO221.out) hb); have n3_ := Aside0.mk (Kd.R_below (by (with_reducible repeat (first | apply Kd.R_alloc | apply Kd.R_drewN | apply Kd.R_drew)); exact HO224.out) hb); have n4_ := Aside0.mk (blk_below (g := gb217) (o := .cells #[.int .i64 t209, .slice Ao20 t210.length co20, .slice Ao21 t213.length co21] 28 (0, 0)) (by (with_reducible repeat (first | refine blk_drewN ?_ _ | refine blk_drew ?_ | refine blk_alloc ?_ _)); exact BK217.out) hb); have n5_ := Aside0.mk (below_step (by repeat (first | (with_reducible first | exact HB.out | apply below_alloc | apply pw_below_drewN | apply below_drew1 | refine below_set ?_ GE217.out) | exact HB.out)) hb); have n6_ := Aside0.mk (hbox); have n7_ := Aside0.mk ((by rw [hg]; exact (below_size (by repeat (first | (with_reducible first | exact HB.out | apply below_alloc | apply pw_below_drewN | apply below_drew1 | refine below_set ?_ GE217.out) | exact HB.out))) : w.heap.size ≤ gb226)); have n8_ := Aside0.mk ((by rw [hg]; exact (below_size (by repeat (first | (with_reducible first | exact HB.out | apply below_alloc | apply pw_below_drewN | apply below_drew1 | refine below_set ?_ GE217.out) | exact HB.out))) : w.heap.size ≤ gb226)); have n9_ := Aside0.mk ((by rw [hg]; exact Nat.ne_of_lt (blk_lt (g := gb217) (o := .cells #[.int .i64 t209, .slice Ao20 t210.length co20, .slice Ao21 t213.length co21] 28 (0, 0)) (by (with_reducible repeat (first | refine blk_drewN ?_ _ | refine blk_drew ?_ | refine blk_alloc ?_ _)); exact BK217.out)) : gb217 ≠ gb226)); have n10_ := Aside0.mk ((by rw [hg]; exact Nat.ne_of_gt (blk_lt (g := gb217) (o := .cells #[.int .i64 t209, .slice Ao20 t210.length co20, .slice Ao21 t213.length co21] 28 (0, 0)) (by (with_reducible repeat (first | refine blk_drewN ?_ _ | refine blk_drew ?_ | refine blk_alloc ?_ _)); exact BK217.out)) : gb226 ≠ gb217)); clear HO212; clear HO215; clear HO221; clear HO224; clear BK217; clear HB; have HO212 := n0_; have HO215 := n1_; have HO221 := n2_; have HO224 := n3_; have BK217 := n4_; have HB := n5_; have BK226 := n6_; have GW226 := n7_; have GE226 := n8_; have NB217_226 := n9_; have NB226_217 := n10_; clear n0_ n1_ n2_ n3_ n4_ n5_ n6_ n7_ n8_ n9_ n10_; clear hb hbox hg; have hnb24 := NB226_217.out; have hnc24 := NB217_226.out; have hcz25_0 : w23.cell? ⟨gb226, 0, none⟩ = some (.int .i64 0) := (blk_cell BK226.out 0).trans rfl; have hcz25_1 : w23.cell? ⟨gb226, 1, none⟩ = some (.slice none 0 0) := (blk_cell BK226.out 1).trans rfl; have hcz25_2 : w23.cell? ⟨gb226, 2, none⟩ = some (.slice none 0 0) := (blk_cell BK226.out 2).trans rfl; have hfz25_0 := blk_frozen BK226.out 0; have hfz25_1 := blk_frozen BK226.out 1; have hfz25_2 := blk_frozen BK226.out 2; obtain ⟨Ao26, co26, eo26⟩ := Kd.R_slice HO221.out; subst eo26; obtain ⟨Ao27, co27, eo27⟩ := Kd.R_slice HO224.out; subst eo27))
          repeat (go_quiet (first | (go_at_call 12; (with_reducible refine (settle_Match.calls _ _ l0 _ _ l1 a2 t209 t210 t213 t216 _ ?side1 ?side2 ?side3 ?side4 A14.out).mono ?_); (case side1 => repeat (first | exact (Kd.C_below HR0.out HB.out) | (with_reducible refine Kd.C_alloc ?_ _) | (with_reducible refine Kd.C_drewN ?_ _) | (with_reducible refine Kd.C_drew ?_))); (case side2 => exact HC0.out); (case side3 => repeat (first | exact (Kd.C_below HR1.out HB.out) | (with_reducible refine Kd.C_alloc ?_ _) | (with_reducible refine Kd.C_drewN ?_ _) | (with_reducible refine Kd.C_drew ?_))); (case side4 => exact HC1.out); rintro e w17 ⟨v211, v214, rfl, ho0, ho1, hb⟩; have n0_ := Aside0.mk (Kd.R_lower ho0 (below_size (by repeat (first | (with_reducible first | exact HB.out | apply below_alloc | apply pw_below_drewN | apply below_drew1) | exact HB.out)))); have n1_ := Aside0.mk (Kd.R_lower ho1 (below_size (by repeat (first | (with_reducible first | exact HB.out | apply below_alloc | apply pw_below_drewN | apply below_drew1) | exact HB.out)))); have n2_ := Aside0.mk (below_step (by repeat (first | (with_reducible first | exact HB.out | apply below_alloc | apply pw_below_drewN | apply below_drew1) | exact HB.out)) hb); clear HB; have HO212 := n0_; have HO215 := n1_; have HB := n2_; clear n0_ n1_ n2_; (try clear hb); (try clear hb2); (try clear hk); (try clear hi); (try clear ho0); (try clear ho1)) | ((with_reducible refine gate_dst (N := 7) rfl ?_); (try (refine gate_guard (by rfl) ?_; dsimp only)); refine box_event ?hg (N := 7) ?hd (cs := #[.int .i64 0, .slice none 0 0, .slice none 0 0]) (t := 28) ?hr ?_; (case hd => rfl); (case hg => rfl); (case hr => first | (go_simp; done) | (go_simp; rfl)); intro gb217 hg w18 hbox hb; have n0_ := Aside0.mk (Kd.R_below (by (with_reducible repeat (first | apply Kd.R_alloc | apply Kd.R_drewN | apply Kd.R_drew)); exact HO212.out) hb); have n1_ := Aside0.mk (Kd.R_below (by (with_reducible repeat (first | apply Kd.R_alloc | apply Kd.R_drewN | apply Kd.R_drew)); exact HO215.out) hb); have n2_ := Aside0.mk (below_step (by repeat (first | (with_reducible first | exact HB.out | apply below_alloc | apply pw_below_drewN | apply below_drew1) | exact HB.out)) hb); have n3_ := Aside0.mk (hbox); have n4_ := Aside0.mk ((by rw [hg]; exact (below_size (by repeat (first | (with_reducible first | exact HB.out | apply below_alloc | apply pw_below_drewN | apply below_drew1) | exact HB.out))) : w.heap.size ≤ gb217)); have n5_ := Aside0.mk ((by rw [hg]; exact (below_size (by repeat (first | (with_reducible first | exact HB.out | apply below_alloc | apply pw_below_drewN | apply below_drew1) | exact HB.out))) : w.heap.size ≤ gb217)); clear HO212; clear HO215; clear HB; have HO212 := n0_; have HO215 := n1_; have HB := n2_; have BK217 := n3_; have GW217 := n4_; have GE217 := n5_; clear n0_ n1_ n2_ n3_ n4_ n5_; clear hb hbox hg; have hcz19_0 : w18.cell? ⟨gb217, 0, none⟩ = some (.int .i64 0) := (blk_cell BK217.out 0).trans rfl; have hcz19_1 : w18.cell? ⟨gb217, 1, none⟩ = some (.slice none 0 0) := (blk_cell BK217.out 1).trans rfl; have hcz19_2 : w18.cell? ⟨gb217, 2, none⟩ = some (.slice none 0 0) := (blk_cell BK217.out 2).trans rfl; have hfz19_0 := blk_frozen BK217.out 0; have hfz19_1 := blk_frozen BK217.out 1; have hfz19_2 := blk_frozen BK217.out 2; obtain ⟨Ao20, co20, eo20⟩ := Kd.R_slice HO212.out; subst eo20; obtain ⟨Ao21, co21, eo21⟩ := Kd.R_slice HO215.out; subst eo21) | (go_at_call 12; (with_reducible refine (settle_Match.calls _ _ l1 _ _ l0 a2 t218 t219 t222 t225 _ ?side1 ?side2 ?side3 ?side4 A15.out).mono ?_); (case side1 => exact Kd.C_below HR1.out (by repeat (first | (with_reducible first | exact HB.out | apply below_alloc | apply pw_below_drewN | apply below_drew1 | refine below_set ?_ GE217.out) | exact HB.out))); (case side2 => exact HC1.out); (case side3 => exact Kd.C_below HR0.out (by repeat (first | (with_reducible first | exact HB.out | apply below_alloc | apply pw_below_drewN | apply below_drew1 | refine below_set ?_ GE217.out) | exact HB.out))); (case side4 => exact HC0.out); rintro e w22 ⟨v220, v223, rfl, ho0, ho1, hb⟩; have n0_ := Aside0.mk (Kd.R_elder' (by (with_reducible repeat (first | apply Kd.R_alloc | apply Kd.R_drewN | apply Kd.R_drew)); exact (Kd.R_mono (Kd.R_far (p := ⟨gb217, 2, none⟩) (Kd.R_far (p := ⟨gb217, 1, none⟩) (Kd.R_far (p := ⟨gb217, 0, none⟩) (Kd.R_types HO212.out BK217.out (by decide)) (fun _ hk => hk.2) (.int .i64 t209)) (fun _ hk => hk.2) (.slice Ao20 t210.length co20)) (fun _ hk => hk.2) (.slice Ao21 t213.length co21)) (fun _ h_ => h_.1))) (Kd.R_base ho0) hb); have n1_ := Aside0.mk (Kd.R_elder' (by (with_reducible repeat (first | apply Kd.R_alloc | apply Kd.R_drewN | apply Kd.R_drew)); exact (Kd.R_mono (Kd.R_far (p := ⟨gb217, 2, none⟩) (Kd.R_far (p := ⟨gb217, 1, none⟩) (Kd.R_far (p := ⟨gb217, 0, none⟩) (Kd.R_types HO215.out BK217.out (by decide)) (fun _ hk => hk.2) (.int .i64 t209)) (fun _ hk => hk.2) (.slice Ao20 t210.length co20)) (fun _ hk => hk.2) (.slice Ao21 t213.length co21)) (fun _ h_ => h_.1))) (Kd.R_base ho1) hb); have n2_ := Aside0.mk (Kd.R_lower (Kd.R_new' ho0 (Kd.R_lt (by (with_reducible repeat (first | apply Kd.R_alloc | apply Kd.R_drewN | apply Kd.R_drew)); exact (Kd.R_mono (Kd.R_far (p := ⟨gb217, 2, none⟩) (Kd.R_far (p := ⟨gb217, 1, none⟩) (Kd.R_far (p := ⟨gb217, 0, none⟩) (Kd.R_types HO212.out BK217.out (by decide)) (fun _ hk => hk.2) (.int .i64 t209)) (fun _ hk => hk.2) (.slice Ao20 t210.length co20)) (fun _ hk => hk.2) (.slice Ao21 t213.length co21)) (fun _ h_ => h_.1))))) (below_size (by repeat (first | (with_reducible first | exact HB.out | apply below_alloc | apply pw_below_drewN | apply below_drew1 | refine below_set ?_ GE217.out) | exact HB.out)))); have n3_ := Aside0.mk (Kd.R_lower (Kd.R_new' ho1 (Kd.R_lt (by (with_reducible repeat (first | apply Kd.R_alloc | apply Kd.R_drewN | apply Kd.R_drew)); exact (Kd.R_mono (Kd.R_far (p := ⟨gb217, 2, none⟩) (Kd.R_far (p := ⟨gb217, 1, none⟩) (Kd.R_far (p := ⟨gb217, 0, none⟩) (Kd.R_types HO215.out BK217.out (by decide)) (fun _ hk => hk.2) (.int .i64 t209)) (fun _ hk => hk.2) (.slice Ao20 t210.length co20)) (fun _ hk => hk.2) (.slice Ao21 t213.length co21)) (fun _ h_ => h_.1))))) (below_size (by repeat (first | (with_reducible first | exact HB.out | apply below_alloc | apply pw_below_drewN | apply below_drew1 | refine below_set ?_ GE217.out) | exact HB.out)))); have n4_ := Aside0.mk (blk_below (g := gb217) (o := .cells #[.int .i64 t209, .slice Ao20 t210.length co20, .slice Ao21 t213.length co21] 28 (0, 0)) (by (with_reducible repeat (first | refine blk_drewN ?_ _ | refine blk_drew ?_ | refine blk_alloc ?_ _)); refine blk_put (cs := #[.int .i64 t209, .slice Ao20 t210.length co20, .slice none 0 0]) ?_ 2 _ rfl; (with_reducible repeat (first | refine blk_drewN ?_ _ | refine blk_drew ?_ | refine blk_alloc ?_ _)); refine blk_put (cs := #[.int .i64 t209, .slice none 0 0, .slice none 0 0]) ?_ 1 _ rfl; (with_reducible repeat (first | refine blk_drewN ?_ _ | refine blk_drew ?_ | refine blk_alloc ?_ _)); refine blk_put (cs := #[.int .i64 0, .slice none 0 0, .slice none 0 0]) ?_ 0 _ rfl; (with_reducible repeat (first | refine blk_drewN ?_ _ | refine blk_drew ?_ | refine blk_alloc ?_ _)); exact BK217.out) hb); have n5_ := Aside0.mk (below_step (by repeat (first | (with_reducible first | exact HB.out | apply below_alloc | apply pw_below_drewN | apply below_drew1 | refine below_set ?_ GE217.out) | exact HB.out)) hb); clear HO212; clear HO215; clear BK217; clear HB; have HO212 := n0_; have HO215 := n1_; have HO221 := n2_; have HO224 := n3_; have BK217 := n4_; have HB := n5_; clear n0_ n1_ n2_ n3_ n4_ n5_; (try clear hb); (try clear hb2); (try clear hk); (try clear hi); (try clear ho0); (try clear ho1)) | ((with_reducible refine gate_dst (N := 9) rfl ?_); (try (refine gate_guard (by rfl) ?_; dsimp only)); refine box_event ?hg (N := 9) ?hd (cs := #[.int .i64 0, .slice none 0 0, .slice none 0 0]) (t := 28) ?hr ?_; (case hd => rfl); (case hg => rfl); (case hr => first | (go_simp; done) | (go_simp; rfl)); intro gb226 hg w23 hbox hb; have n0_ := Aside0.mk (Kd.R_below (by (with_reducible repeat (first | apply Kd.R_alloc | apply Kd.R_drewN | apply Kd.R_drew)); exact HO212.out) hb); have n1_ := Aside0.mk (Kd.R_below (by (with_reducible repeat (first | apply Kd.R_alloc | apply Kd.R_drewN | apply Kd.R_drew)); exact HO215.out) hb); have n2_ := Aside0.mk (Kd.R_below (by (with_reducible repeat (first | apply Kd.R_alloc | apply Kd.R_drewN | apply Kd.R_drew)); exact HO221.out) hb); have n3_ := Aside0.mk (Kd.R_below (by (with_reducible repeat (first | apply Kd.R_alloc | apply Kd.R_drewN | apply Kd.R_drew)); exact HO224.out) hb); have n4_ := Aside0.mk (blk_below (g := gb217) (o := .cells #[.int .i64 t209, .slice Ao20 t210.length co20, .slice Ao21 t213.length co21] 28 (0, 0)) (by (with_reducible repeat (first | refine blk_drewN ?_ _ | refine blk_drew ?_ | refine blk_alloc ?_ _)); exact BK217.out) hb); have n5_ := Aside0.mk (below_step (by repeat (first | (with_reducible first | exact HB.out | apply below_alloc | apply pw_below_drewN | apply below_drew1 | refine below_set ?_ GE217.out) | exact HB.out)) hb); have n6_ := Aside0.mk (hbox); have n7_ := Aside0.mk ((by rw [hg]; exact (below_size (by repeat (first | (with_reducible first | exact HB.out | apply below_alloc | apply pw_below_drewN | apply below_drew1 | refine below_set ?_ GE217.out) | exact HB.out))) : w.heap.size ≤ gb226)); have n8_ := Aside0.mk ((by rw [hg]; exact (below_size (by repeat (first | (with_reducible first | exact HB.out | apply below_alloc | apply pw_below_drewN | apply below_drew1 | refine below_set ?_ GE217.out) | exact HB.out))) : w.heap.size ≤ gb226)); have n9_ := Aside0.mk ((by rw [hg]; exact Nat.ne_of_lt (blk_lt (g := gb217) (o := .cells #[.int .i64 t209, .slice Ao20 t210.length co20, .slice Ao21 t213.length co21] 28 (0, 0)) (by (with_reducible repeat (first | refine blk_drewN ?_ _ | refine blk_drew ?_ | refine blk_alloc ?_ _)); exact BK217.out)) : gb217 ≠ gb226)); have n10_ := Aside0.mk ((by rw [hg]; exact Nat.ne_of_gt (blk_lt (g := gb217) (o := .cells #[.int .i64 t209, .slice Ao20 t210.length co20, .slice Ao21 t213.length co21] 28 (0, 0)) (by (with_reducible repeat (first | refine blk_drewN ?_ _ | refine blk_drew ?_ | refine blk_alloc ?_ _)); exact BK217.out)) : gb226 ≠ gb217)); clear HO212; clear HO215; clear HO221; clear HO224; clear BK217; clear HB; have HO212 := n0_; have HO215 := n1_; have HO221 := n2_; have HO224 := n3_; have BK217 := n4_; have HB := n5_; have BK226 := n6_; have GW226 := n7_; have GE226 := n8_; have NB217_226 := n9_; have NB226_217 := n10_; clear n0_ n1_ n2_ n3_ n4_ n5_ n6_ n7_ n8_ n9_ n10_; clear hb hbox hg; have hnb24 := NB226_217.out; have hnc24 := NB217_226.out; have hcz25_0 : w23.cell? ⟨gb226, 0, none⟩ = some (.int .i64 0) := (blk_cell BK226.out 0).trans rfl; have hcz25_1 : w23.cell? ⟨gb226, 1, none⟩ = some (.slice none 0 0) := (blk_cell BK226.out 1).trans rfl; have hcz25_2 : w23.cell? ⟨gb226, 2, none⟩ = some (.slice none 0 0) := (blk_cell BK226.out 2).trans rfl; have hfz25_0 := blk_frozen BK226.out 0; have hfz25_1 := blk_frozen BK226.out 1; have hfz25_2 := blk_frozen BK226.out 2; obtain ⟨Ao26, co26, eo26⟩ := Kd.R_slice HO221.out; subst eo26; obtain ⟨Ao27, co27, eo27⟩ := Kd.R_slice HO224.out; subst eo27)); go_upto_region 7 with (first | (go_at_call 12; (with_reducible refine (settle_Match.calls _ _ l0 _ _ l1 a2 t209 t210 t213 t216 _ ?side1 ?side2 ?side3 ?side4 A14.out).mono ?_); (case side1 => repeat (first | exact (Kd.C_below HR0.out HB.out) | (with_reducible refine Kd.C_alloc ?_ _) | (with_reducible refine Kd.C_drewN ?_ _) | (with_reducible refine Kd.C_drew ?_))); (case side2 => exact HC0.out); (case side3 => repeat (first | exact (Kd.C_below HR1.out HB.out) | (with_reducible refine Kd.C_alloc ?_ _) | (with_reducible refine Kd.C_drewN ?_ _) | (with_reducible refine Kd.C_drew ?_))); (case side4 => exact HC1.out); rintro e w17 ⟨v211, v214, rfl, ho0, ho1, hb⟩; have n0_ := Aside0.mk (Kd.R_lower ho0 (below_size (by repeat (first | (with_reducible first | exact HB.out | apply below_alloc | apply pw_below_drewN | apply below_drew1) | exact HB.out)))); have n1_ := Aside0.mk (Kd.R_lower ho1 (below_size (by repeat (first | (with_reducible first | exact HB.out | apply below_alloc | apply pw_below_drewN | apply below_drew1) | exact HB.out)))); have n2_ := Aside0.mk (below_step (by repeat (first | (with_reducible first | exact HB.out | apply below_alloc | apply pw_below_drewN | apply below_drew1) | exact HB.out)) hb); clear HB; have HO212 := n0_; have HO215 := n1_; have HB := n2_; clear n0_ n1_ n2_; (try clear hb); (try clear hb2); (try clear hk); (try clear hi); (try clear ho0); (try clear ho1)) | ((with_reducible refine gate_dst (N := 7) rfl ?_); (try (refine gate_guard (by rfl) ?_; dsimp only)); refine box_event ?hg (N := 7) ?hd (cs := #[.int .i64 0, .slice none 0 0, .slice none 0 0]) (t := 28) ?hr ?_; (case hd => rfl); (case hg => rfl); (case hr => first | (go_simp; done) | (go_simp; rfl)); intro gb217 hg w18 hbox hb; have n0_ := Aside0.mk (Kd.R_below (by (with_reducible repeat (first | apply Kd.R_alloc | apply Kd.R_drewN | apply Kd.R_drew)); exact HO212.out) hb); have n1_ := Aside0.mk (Kd.R_below (by (with_reducible repeat (first | apply Kd.R_alloc | apply Kd.R_drewN | apply Kd.R_drew)); exact HO215.out) hb); have n2_ := Aside0.mk (below_step (by repeat (first | (with_reducible first | exact HB.out | apply below_alloc | apply pw_below_drewN | apply below_drew1) | exact HB.out)) hb); have n3_ := Aside0.mk (hbox); have n4_ := Aside0.mk ((by rw [hg]; exact (below_size (by repeat (first | (with_reducible first | exact HB.out | apply below_alloc | apply pw_below_drewN | apply below_drew1) | exact HB.out))) : w.heap.size ≤ gb217)); have n5_ := Aside0.mk ((by rw [hg]; exact (below_size (by repeat (first | (with_reducible first | exact HB.out | apply below_alloc | apply pw_below_drewN | apply below_drew1) | exact HB.out))) : w.heap.size ≤ gb217)); clear HO212; clear HO215; clear HB; have HO212 := n0_; have HO215 := n1_; have HB := n2_; have BK217 := n3_; have GW217 := n4_; have GE217 := n5_; clear n0_ n1_ n2_ n3_ n4_ n5_; clear hb hbox hg; have hcz19_0 : w18.cell? ⟨gb217, 0, none⟩ = some (.int .i64 0) := (blk_cell BK217.out 0).trans rfl; have hcz19_1 : w18.cell? ⟨gb217, 1, none⟩ = some (.slice none 0 0) := (blk_cell BK217.out 1).trans rfl; have hcz19_2 : w18.cell? ⟨gb217, 2, none⟩ = some (.slice none 0 0) := (blk_cell BK217.out 2).trans rfl; have hfz19_0 := blk_frozen BK217.out 0; have hfz19_1 := blk_frozen BK217.out 1; have hfz19_2 := blk_frozen BK217.out 2; obtain ⟨Ao20, co20, eo20⟩ := Kd.R_slice HO212.out; subst eo20; obtain ⟨Ao21, co21, eo21⟩ := Kd.R_slice HO215.out; subst eo21) | (go_at_call 12; (with_reducible refine (settle_Match.calls _ _ l1 _ _ l0 a2 t218 t219 t222 t225 _ ?side1 ?side2 ?side3 ?side4 A15.out).mono ?_); (case side1 => exact Kd.C_below HR1.out (by repeat (first | (with_reducible first | exact HB.out | apply below_alloc | apply pw_below_drewN | apply below_drew1 | refine below_set ?_ GE217.out) | exact HB.out))); (case side2 => exact HC1.out); (case side3 => exact Kd.C_below HR0.out (by repeat (first | (with_reducible first | exact HB.out | apply below_alloc | apply pw_below_drewN | apply below_drew1 | refine below_set ?_ GE217.out) | exact HB.out))); (case side4 => exact HC0.out); rintro e w22 ⟨v220, v223, rfl, ho0, ho1, hb⟩; have n0_ := Aside0.mk (Kd.R_elder' (by (with_reducible repeat (first | apply Kd.R_alloc | apply Kd.R_drewN | apply Kd.R_drew)); exact (Kd.R_mono (Kd.R_far (p := ⟨gb217, 2, none⟩) (Kd.R_far (p := ⟨gb217, 1, none⟩) (Kd.R_far (p := ⟨gb217, 0, none⟩) (Kd.R_types HO212.out BK217.out (by decide)) (fun _ hk => hk.2) (.int .i64 t209)) (fun _ hk => hk.2) (.slice Ao20 t210.length co20)) (fun _ hk => hk.2) (.slice Ao21 t213.length co21)) (fun _ h_ => h_.1))) (Kd.R_base ho0) hb); have n1_ := Aside0.mk (Kd.R_elder' (by (with_reducible repeat (first | apply Kd.R_alloc | apply Kd.R_drewN | apply Kd.R_drew)); exact (Kd.R_mono (Kd.R_far (p := ⟨gb217, 2, none⟩) (Kd.R_far (p := ⟨gb217, 1, none⟩) (Kd.R_far (p := ⟨gb217, 0, none⟩) (Kd.R_types HO215.out BK217.out (by decide)) (fun _ hk => hk.2) (.int .i64 t209)) (fun _ hk => hk.2) (.slice Ao20 t210.length co20)) (fun _ hk => hk.2) (.slice Ao21 t213.length co21)) (fun _ h_ => h_.1))) (Kd.R_base ho1) hb); have n2_ := Aside0.mk (Kd.R_lower (Kd.R_new' ho0 (Kd.R_lt (by (with_reducible repeat (first | apply Kd.R_alloc | apply Kd.R_drewN | apply Kd.R_drew)); exact (Kd.R_mono (Kd.R_far (p := ⟨gb217, 2, none⟩) (Kd.R_far (p := ⟨gb217, 1, none⟩) (Kd.R_far (p := ⟨gb217, 0, none⟩) (Kd.R_types HO212.out BK217.out (by decide)) (fun _ hk => hk.2) (.int .i64 t209)) (fun _ hk => hk.2) (.slice Ao20 t210.length co20)) (fun _ hk => hk.2) (.slice Ao21 t213.length co21)) (fun _ h_ => h_.1))))) (below_size (by repeat (first | (with_reducible first | exact HB.out | apply below_alloc | apply pw_below_drewN | apply below_drew1 | refine below_set ?_ GE217.out) | exact HB.out)))); have n3_ := Aside0.mk (Kd.R_lower (Kd.R_new' ho1 (Kd.R_lt (by (with_reducible repeat (first | apply Kd.R_alloc | apply Kd.R_drewN | apply Kd.R_drew)); exact (Kd.R_mono (Kd.R_far (p := ⟨gb217, 2, none⟩) (Kd.R_far (p := ⟨gb217, 1, none⟩) (Kd.R_far (p := ⟨gb217, 0, none⟩) (Kd.R_types HO215.out BK217.out (by decide)) (fun _ hk => hk.2) (.int .i64 t209)) (fun _ hk => hk.2) (.slice Ao20 t210.length co20)) (fun _ hk => hk.2) (.slice Ao21 t213.length co21)) (fun _ h_ => h_.1))))) (below_size (by repeat (first | (with_reducible first | exact HB.out | apply below_alloc | apply pw_below_drewN | apply below_drew1 | refine below_set ?_ GE217.out) | exact HB.out)))); have n4_ := Aside0.mk (blk_below (g := gb217) (o := .cells #[.int .i64 t209, .slice Ao20 t210.length co20, .slice Ao21 t213.length co21] 28 (0, 0)) (by (with_reducible repeat (first | refine blk_drewN ?_ _ | refine blk_drew ?_ | refine blk_alloc ?_ _)); refine blk_put (cs := #[.int .i64 t209, .slice Ao20 t210.length co20, .slice none 0 0]) ?_ 2 _ rfl; (with_reducible repeat (first | refine blk_drewN ?_ _ | refine blk_drew ?_ | refine blk_alloc ?_ _)); refine blk_put (cs := #[.int .i64 t209, .slice none 0 0, .slice none 0 0]) ?_ 1 _ rfl; (with_reducible repeat (first | refine blk_drewN ?_ _ | refine blk_drew ?_ | refine blk_alloc ?_ _)); refine blk_put (cs := #[.int .i64 0, .slice none 0 0, .slice none 0 0]) ?_ 0 _ rfl; (with_reducible repeat (first | refine blk_drewN ?_ _ | refine blk_drew ?_ | refine blk_alloc ?_ _)); exact BK217.out) hb); have n5_ := Aside0.mk (below_step (by repeat (first | (with_reducible first | exact HB.out | apply below_alloc | apply pw_below_drewN | apply below_drew1 | refine below_set ?_ GE217.out) | exact HB.out)) hb); clear HO212; clear HO215; clear BK217; clear HB; have HO212 := n0_; have HO215 := n1_; have HO221 := n2_; have HO224 := n3_; have BK217 := n4_; have HB := n5_; clear n0_ n1_ n2_ n3_ n4_ n5_; (try clear hb); (try clear hb2); (try clear hk); (try clear hi); (try clear ho0); (try clear ho1)) | ((with_reducible refine gate_dst (N := 9) rfl ?_); (try (refine gate_guard (by rfl) ?_; dsimp only)); refine box_event ?hg (N := 9) ?hd (cs := #[.int .i64 0, .slice none 0 0, .slice none 0 0]) (t := 28) ?hr ?_; (case hd => rfl); (case hg => rfl); (case hr => first | (go_simp; done) | (go_simp; rfl)); intro gb226 hg w23 hbox hb; have n0_ := Aside0.mk (Kd.R_below (by (with_reducible repeat (first | apply Kd.R_alloc | apply Kd.R_drewN | apply Kd.R_drew)); exact HO212.out) hb); have n1_ := Aside0.mk (Kd.R_below (by (with_reducible repeat (first | apply Kd.R_alloc | apply Kd.R_drewN | apply Kd.R_drew)); exact HO215.out) hb); have n2_ := Aside0.mk (Kd.R_below (by (with_reducible repeat (first | apply Kd.R_alloc | apply Kd.R_drewN | apply Kd.R_drew)); exact HO221.out) hb); have n3_ := Aside0.mk (Kd.R_below (by (with_reducible repeat (first | apply Kd.R_alloc | apply Kd.R_drewN | apply Kd.R_drew)); exact HO224.out) hb); have n4_ := Aside0.mk (blk_below (g := gb217) (o := .cells #[.int .i64 t209, .slice Ao20 t210.length co20, .slice Ao21 t213.length co21] 28 (0, 0)) (by (with_reducible repeat (first | refine blk_drewN ?_ _ | refine blk_drew ?_ | refine blk_alloc ?_ _)); exact BK217.out) hb); have n5_ := Aside0.mk (below_step (by repeat (first | (with_reducible first | exact HB.out | apply below_alloc | apply pw_below_drewN | apply below_drew1 | refine below_set ?_ GE217.out) | exact HB.out)) hb); have n6_ := Aside0.mk (hbox); have n7_ := Aside0.mk ((by rw [hg]; exact (below_size (by repeat (first | (with_reducible first | exact HB.out | apply below_alloc | apply pw_below_drewN | apply below_drew1 | refine below_set ?_ GE217.out) | exact HB.out))) : w.heap.size ≤ gb226)); have n8_ := Aside0.mk ((by rw [hg]; exact (below_size (by repeat (first | (with_reducible first | exact HB.out | apply below_alloc | apply pw_below_drewN | apply below_drew1 | refine below_set ?_ GE217.out) | exact HB.out))) : w.heap.size ≤ gb226)); have n9_ := Aside0.mk ((by rw [hg]; exact Nat.ne_of_lt (blk_lt (g := gb217) (o := .cells #[.int .i64 t209, .slice Ao20 t210.length co20, .slice Ao21 t213.length co21] 28 (0, 0)) (by (with_reducible repeat (first | refine blk_drewN ?_ _ | refine blk_drew ?_ | refine blk_alloc ?_ _)); exact BK217.out)) : gb217 ≠ gb226)); have n10_ := Aside0.mk ((by rw [hg]; exact Nat.ne_of_gt (blk_lt (g := gb217) (o := .cells #[.int .i64 t209, .slice Ao20 t210.length co20, .slice Ao21 t213.length co21] 28 (0, 0)) (by (with_reducible repeat (first | refine blk_drewN ?_ _ | refine blk_drew ?_ | refine blk_alloc ?_ _)); exact BK217.out)) : gb226 ≠ gb217)); clear HO212; clear HO215; clear HO221; clear HO224; clear BK217; clear HB; have HO212 := n0_; have HO215 := n1_; have HO221 := n2_; have HO224 := n3_; have BK217 := n4_; have HB := n5_; have BK226 := n6_; have GW226 := n7_; have GE226 := n8_; have NB217_226 := n9_; have NB226_217 := n10_; clear n0_ n1_ n2_ n3_ n4_ n5_ n6_ n7_ n8_ n9_ n10_; clear hb hbox hg; have hnb24 := NB226_217.out; have hnc24 := NB217_226.out; have hcz25_0 : w23.cell? ⟨gb226, 0, none⟩ = some (.int .i64 0) := (blk_cell BK226.out 0).trans rfl; have hcz25_1 : w23.cell? ⟨gb226, 1, none⟩ = some (.slice none 0 0) := (blk_cell BK226.out 1).trans rfl; have hcz25_2 : w23.cell? ⟨gb226, 2, none⟩ = some (.slice none 0 0) := (blk_cell BK226.out 2).trans rfl; have hfz25_0 := blk_frozen BK226.out 0; have hfz25_1 := blk_frozen BK226.out 1; have hfz25_2 := blk_frozen BK226.out 2; obtain ⟨Ao26, co26, eo26⟩ := Kd.R_slice HO221.out; subst eo26; obtain ⟨Ao27, co27, eo27⟩ := Kd.R_slice HO224.out; subst eo27)))
          (try simp only [Act.put, List.setIfInBounds_toArray, List.set_cons_zero, List.set_cons_succ])
          go_cut [71] (fun v71 wc => ∃ (kq : Nat) (x71_15 : Bool), v71 = .bool x71_15 ∧ Aside0 (crossbarlaw31_SettleSymmetric.j1 kq x71_15 t209 t210 t213 t218 t219 t222 = some r) ∧ Aside0 (kq ≤ kj5) ∧ Aside0 (Kd.R (Kd.int .i64) 3 wc w.heap.size (fun k_ => some k_ ≠ ((.slice Ao26 t219.length co26) : Value).ownBlock) (.slice Ao20 t210.length co20) t210) ∧ Aside0 (Kd.R k38 38 wc w.heap.size (fun k_ => some k_ ≠ ((.slice Ao27 t222.length co27) : Value).ownBlock) (.slice Ao21 t213.length co21) t213) ∧ Aside0 (Kd.R (Kd.int .i64) 3 wc w.heap.size (fun k_ => some k_ ≠ ((.slice Ao20 t210.length co20) : Value).ownBlock) (.slice Ao26 t219.length co26) t219) ∧ Aside0 (Kd.R k38 38 wc w.heap.size (fun k_ => some k_ ≠ ((.slice Ao21 t213.length co21) : Value).ownBlock) (.slice Ao27 t222.length co27) t222) ∧ Aside0 (wc.heap[gb217]? = some (.cells #[.int .i64 t209, (.slice Ao20 t210.length co20), (.slice Ao21 t213.length co21)] 28 (0, 0))) ∧ Aside0 (wc.heap[gb226]? = some (.cells #[.int .i64 t218, (.slice Ao26 t219.length co26), (.slice Ao27 t222.length co27)] 28 (0, 0))) ∧ Aside0 (Below w.heap.size w wc))
          case first =>
            have H := HC16.out
            clear HC16
            by_cases c28 : t216 = t225
            · rw [if_pos c28] at H
              have c28b0 : (t216 == t225) = true := beq_iff_eq.mpr c28
              have c28b1 : (t216 != t225) = false := bne_eq_false_iff_eq.mpr c28
              clear c28
              (first | rw [c28b0] | (simp only [i64_w, i32_w]; rw [c28b0]) | skip)
              by_cases c29 : t209 = (wrap64 (-t218))
              · rw [if_pos c29] at H
                have c29b0 : (t209 == (wrap64 (-t218))) = true := beq_iff_eq.mpr c29
                have c29b1 : (t209 != (wrap64 (-t218))) = false := bne_eq_false_iff_eq.mpr c29
                clear c29
                replace H := Option.bind_eq_some_iff.mp H
                obtain ⟨t227, A300, H⟩ := H
                replace H : (if t227 = true then (crossbarlaw31_SettleSymmetric.j1 kj5 ((t213.length : Int) != (t222.length : Int)) t209 t210 t213 t218 t219 t222) else (crossbarlaw31_SettleSymmetric.j1 kj5 true t209 t210 t213 t218 t219 t222)) = some r := H
                have A30 := Aside0.mk A300
                clear A300
                by_cases c31 : t227 = true
                · subst c31
                  have H1 : (crossbarlaw31_SettleSymmetric.j1 kj5 ((t213.length : Int) != (t222.length : Int)) t209 t210 t213 t218 t219 t222) = some r := by rw [if_pos rfl] at H; exact H
                  clear H
                  have H := H1
                  clear H1
                  have H' := Aside0.mk H
                  clear H
                  have hnb32 := NB217_226.out
                  have hnc32 := NB226_217.out
                  have hcz33_0 : w23.cell? ⟨gb217, 0, none⟩ = some (.int .i64 t209) := (blk_cell BK217.out 0).trans rfl
                  have hcz33_1 : w23.cell? ⟨gb217, 1, none⟩ = some (.slice Ao20 t210.length co20) := (blk_cell BK217.out 1).trans rfl
                  have hcz33_2 : w23.cell? ⟨gb217, 2, none⟩ = some (.slice Ao21 t213.length co21) := (blk_cell BK217.out 2).trans rfl
                  have hfz33_0 := blk_frozen BK217.out 0
                  have hfz33_1 := blk_frozen BK217.out 1
                  have hfz33_2 := blk_frozen BK217.out 2
                  have hcz34_0 : w23.cell? ⟨gb226, 0, none⟩ = some (.int .i64 0) := (blk_cell BK226.out 0).trans rfl
                  have hcz34_1 : w23.cell? ⟨gb226, 1, none⟩ = some (.slice none 0 0) := (blk_cell BK226.out 1).trans rfl
                  have hcz34_2 : w23.cell? ⟨gb226, 2, none⟩ = some (.slice none 0 0) := (blk_cell BK226.out 2).trans rfl
                  have hfz34_0 := blk_frozen BK226.out 0
                  have hfz34_1 := blk_frozen BK226.out 1
                  have hfz34_2 := blk_frozen BK226.out 2
                  go_wp2_with (first | (go_at_call 17; (with_reducible refine (crossbarref31_Ints.calls kj5 _ _ t210 _ _ t219 true _ ?side1 ?side2 ?side3 ?side4 A30.out).mono ?_); (case side1 => refine (Kd.R_reads' (e := 3) (base := w.heap.size) (ok := fun k_ => (True ∧ some k_ ≠ (.slice Ao26 t219.length co26 : Value).ownBlock)) (n := t210.length) (c := co20) ?_).2.2; exact (by (with_reducible repeat (first | apply Kd.R_alloc | apply Kd.R_drewN | apply Kd.R_drew)); exact (Kd.R_mono (Kd.R_far (p := ⟨gb226, 2, none⟩) (Kd.R_far (p := ⟨gb226, 1, none⟩) (Kd.R_far (p := ⟨gb226, 0, none⟩) (Kd.R_types HO212.out BK226.out (by decide)) (fun _ hk => hk.2) (.int .i64 t218)) (fun _ hk => hk.2) (.slice Ao26 t219.length co26)) (fun _ hk => hk.2) (.slice Ao27 t222.length co27)) (fun _ h_ => h_.1)))); (case side2 => exact (Kd.R_reads' HO212.out).2.1); (case side3 => refine (Kd.R_reads' (e := 3) (base := w.heap.size) (ok := fun k_ => (True ∧ some k_ ≠ (.slice Ao20 t210.length co20 : Value).ownBlock)) (n := t219.length) (c := co26) ?_).2.2; exact (by (with_reducible repeat (first | apply Kd.R_alloc | apply Kd.R_drewN | apply Kd.R_drew)); exact (Kd.R_mono (Kd.R_far (p := ⟨gb226, 2, none⟩) (Kd.R_far (p := ⟨gb226, 1, none⟩) (Kd.R_far (p := ⟨gb226, 0, none⟩) (Kd.R_types HO221.out BK226.out (by decide)) (fun _ hk => hk.2) (.int .i64 t218)) (fun _ hk => hk.2) (.slice Ao26 t219.length co26)) (fun _ hk => hk.2) (.slice Ao27 t222.length co27)) (fun _ h_ => h_.1)))); (case side4 => exact (Kd.R_reads' HO221.out).2.1); rintro e w' ⟨rfl, ⟨nd, rfl⟩⟩; (try first | exact ⟨rfl, _, World.drewN_drewN _ _ _⟩ | exact ⟨rfl, _, Eq.trans (World.drewN_drewN _ _ _) (congrArg (World.drewN _) (Nat.add_assoc _ _ _))⟩)))
                  repeat (go_quiet (first | (go_at_call 17; (with_reducible refine (crossbarref31_Ints.calls kj5 _ _ t210 _ _ t219 true _ ?side1 ?side2 ?side3 ?side4 A30.out).mono ?_); (case side1 => refine (Kd.R_reads' (e := 3) (base := w.heap.size) (ok := fun k_ => (True ∧ some k_ ≠ (.slice Ao26 t219.length co26 : Value).ownBlock)) (n := t210.length) (c := co20) ?_).2.2; exact (by (with_reducible repeat (first | apply Kd.R_alloc | apply Kd.R_drewN | apply Kd.R_drew)); exact (Kd.R_mono (Kd.R_far (p := ⟨gb226, 2, none⟩) (Kd.R_far (p := ⟨gb226, 1, none⟩) (Kd.R_far (p := ⟨gb226, 0, none⟩) (Kd.R_types HO212.out BK226.out (by decide)) (fun _ hk => hk.2) (.int .i64 t218)) (fun _ hk => hk.2) (.slice Ao26 t219.length co26)) (fun _ hk => hk.2) (.slice Ao27 t222.length co27)) (fun _ h_ => h_.1)))); (case side2 => exact (Kd.R_reads' HO212.out).2.1); (case side3 => refine (Kd.R_reads' (e := 3) (base := w.heap.size) (ok := fun k_ => (True ∧ some k_ ≠ (.slice Ao20 t210.length co20 : Value).ownBlock)) (n := t219.length) (c := co26) ?_).2.2; exact (by (with_reducible repeat (first | apply Kd.R_alloc | apply Kd.R_drewN | apply Kd.R_drew)); exact (Kd.R_mono (Kd.R_far (p := ⟨gb226, 2, none⟩) (Kd.R_far (p := ⟨gb226, 1, none⟩) (Kd.R_far (p := ⟨gb226, 0, none⟩) (Kd.R_types HO221.out BK226.out (by decide)) (fun _ hk => hk.2) (.int .i64 t218)) (fun _ hk => hk.2) (.slice Ao26 t219.length co26)) (fun _ hk => hk.2) (.slice Ao27 t222.length co27)) (fun _ h_ => h_.1)))); (case side4 => exact (Kd.R_reads' HO221.out).2.1); rintro e w' ⟨rfl, ⟨nd, rfl⟩⟩; (try first | exact ⟨rfl, _, World.drewN_drewN _ _ _⟩ | exact ⟨rfl, _, Eq.trans (World.drewN_drewN _ _ _) (congrArg (World.drewN _) (Nat.add_assoc _ _ _))⟩))); try go_wp2_with (first | (go_at_call 17; (with_reducible refine (crossbarref31_Ints.calls kj5 _ _ t210 _ _ t219 true _ ?side1 ?side2 ?side3 ?side4 A30.out).mono ?_); (case side1 => refine (Kd.R_reads' (e := 3) (base := w.heap.size) (ok := fun k_ => (True ∧ some k_ ≠ (.slice Ao26 t219.length co26 : Value).ownBlock)) (n := t210.length) (c := co20) ?_).2.2; exact (by (with_reducible repeat (first | apply Kd.R_alloc | apply Kd.R_drewN | apply Kd.R_drew)); exact (Kd.R_mono (Kd.R_far (p := ⟨gb226, 2, none⟩) (Kd.R_far (p := ⟨gb226, 1, none⟩) (Kd.R_far (p := ⟨gb226, 0, none⟩) (Kd.R_types HO212.out BK226.out (by decide)) (fun _ hk => hk.2) (.int .i64 t218)) (fun _ hk => hk.2) (.slice Ao26 t219.length co26)) (fun _ hk => hk.2) (.slice Ao27 t222.length co27)) (fun _ h_ => h_.1)))); (case side2 => exact (Kd.R_reads' HO212.out).2.1); (case side3 => refine (Kd.R_reads' (e := 3) (base := w.heap.size) (ok := fun k_ => (True ∧ some k_ ≠ (.slice Ao20 t210.length co20 : Value).ownBlock)) (n := t219.length) (c := co26) ?_).2.2; exact (by (with_reducible repeat (first | apply Kd.R_alloc | apply Kd.R_drewN | apply Kd.R_drew)); exact (Kd.R_mono (Kd.R_far (p := ⟨gb226, 2, none⟩) (Kd.R_far (p := ⟨gb226, 1, none⟩) (Kd.R_far (p := ⟨gb226, 0, none⟩) (Kd.R_types HO221.out BK226.out (by decide)) (fun _ hk => hk.2) (.int .i64 t218)) (fun _ hk => hk.2) (.slice Ao26 t219.length co26)) (fun _ hk => hk.2) (.slice Ao27 t222.length co27)) (fun _ h_ => h_.1)))); (case side4 => exact (Kd.R_reads' HO221.out).2.1); rintro e w' ⟨rfl, ⟨nd, rfl⟩⟩; (try first | exact ⟨rfl, _, World.drewN_drewN _ _ _⟩ | exact ⟨rfl, _, Eq.trans (World.drewN_drewN _ _ _) (congrArg (World.drewN _) (Nat.add_assoc _ _ _))⟩))))
                  go_meet
                  case rel => exact ⟨_, (((t213.length : Int) != (t222.length : Int))), (by first | rfl | (simp; done) | (simp [*]; done)), H', ⟨by have := HJ5.out; first | omega | exact Nat.le_refl _⟩, ⟨by (with_reducible repeat (first | apply Kd.R_alloc | apply Kd.R_drewN | apply Kd.R_drew)); exact Kd.R_mono (Kd.R_far (p := ⟨gb226, 2, none⟩) (Kd.R_far (p := ⟨gb226, 1, none⟩) (Kd.R_far (p := ⟨gb226, 0, none⟩) (Kd.R_types HO212.out BK226.out (by decide)) (fun _ hk => hk.2) (.int .i64 t218)) (fun _ hk => hk.2) (.slice Ao26 t219.length co26)) (fun _ hk => hk.2) (.slice Ao27 t222.length co27)) (fun _ hk => hk.1.2)⟩, ⟨by (with_reducible repeat (first | apply Kd.R_alloc | apply Kd.R_drewN | apply Kd.R_drew)); exact Kd.R_mono (Kd.R_far (p := ⟨gb226, 2, none⟩) (Kd.R_far (p := ⟨gb226, 1, none⟩) (Kd.R_far (p := ⟨gb226, 0, none⟩) (Kd.R_types HO215.out BK226.out (by decide)) (fun _ hk => hk.2) (.int .i64 t218)) (fun _ hk => hk.2) (.slice Ao26 t219.length co26)) (fun _ hk => hk.2) (.slice Ao27 t222.length co27)) (fun _ hk => hk.1.2)⟩, ⟨by (with_reducible repeat (first | apply Kd.R_alloc | apply Kd.R_drewN | apply Kd.R_drew)); exact Kd.R_mono (Kd.R_far (p := ⟨gb226, 2, none⟩) (Kd.R_far (p := ⟨gb226, 1, none⟩) (Kd.R_far (p := ⟨gb226, 0, none⟩) (Kd.R_types HO221.out BK226.out (by decide)) (fun _ hk => hk.2) (.int .i64 t218)) (fun _ hk => hk.2) (.slice Ao26 t219.length co26)) (fun _ hk => hk.2) (.slice Ao27 t222.length co27)) (fun _ hk => hk.1.2)⟩, ⟨by (with_reducible repeat (first | apply Kd.R_alloc | apply Kd.R_drewN | apply Kd.R_drew)); exact Kd.R_mono (Kd.R_far (p := ⟨gb226, 2, none⟩) (Kd.R_far (p := ⟨gb226, 1, none⟩) (Kd.R_far (p := ⟨gb226, 0, none⟩) (Kd.R_types HO224.out BK226.out (by decide)) (fun _ hk => hk.2) (.int .i64 t218)) (fun _ hk => hk.2) (.slice Ao26 t219.length co26)) (fun _ hk => hk.2) (.slice Ao27 t222.length co27)) (fun _ hk => hk.1.2)⟩, ⟨by (with_reducible repeat (first | refine blk_drewN ?_ _ | refine blk_drew ?_ | refine blk_alloc ?_ _)); refine blk_far ?_ NB217_226.out _; (with_reducible repeat (first | refine blk_drewN ?_ _ | refine blk_drew ?_ | refine blk_alloc ?_ _)); refine blk_far ?_ NB217_226.out _; (with_reducible repeat (first | refine blk_drewN ?_ _ | refine blk_drew ?_ | refine blk_alloc ?_ _)); refine blk_far ?_ NB217_226.out _; (with_reducible repeat (first | refine blk_drewN ?_ _ | refine blk_drew ?_ | refine blk_alloc ?_ _)); exact BK217.out⟩, ⟨by (with_reducible repeat (first | refine blk_drewN ?_ _ | refine blk_drew ?_ | refine blk_alloc ?_ _)); refine blk_put (cs := #[.int .i64 t218, .slice Ao26 t219.length co26, .slice none 0 0]) ?_ 2 _ rfl; (with_reducible repeat (first | refine blk_drewN ?_ _ | refine blk_drew ?_ | refine blk_alloc ?_ _)); refine blk_put (cs := #[.int .i64 t218, .slice none 0 0, .slice none 0 0]) ?_ 1 _ rfl; (with_reducible repeat (first | refine blk_drewN ?_ _ | refine blk_drew ?_ | refine blk_alloc ?_ _)); refine blk_put (cs := #[.int .i64 0, .slice none 0 0, .slice none 0 0]) ?_ 0 _ rfl; (with_reducible repeat (first | refine blk_drewN ?_ _ | refine blk_drew ?_ | refine blk_alloc ?_ _)); exact BK226.out⟩, ⟨by repeat (first | (with_reducible first | exact HB.out | apply below_alloc | apply pw_below_drewN | apply below_drew1 | refine below_set ?_ GE217.out | refine below_set ?_ GE226.out) | exact HB.out)⟩⟩
                · replace c31 := Bool.eq_false_iff.mpr c31
                  subst c31
                  have H1 : (crossbarlaw31_SettleSymmetric.j1 kj5 true t209 t210 t213 t218 t219 t222) = some r := by rw [if_neg (show ¬ (false = true) by decide)] at H; exact H
                  clear H
                  have H := H1
                  clear H1
                  have H' := Aside0.mk H
                  clear H
                  have hnb35 := NB217_226.out
                  have hnc35 := NB226_217.out
                  have hcz36_0 : w23.cell? ⟨gb217, 0, none⟩ = some (.int .i64 t209) := (blk_cell BK217.out 0).trans rfl
                  have hcz36_1 : w23.cell? ⟨gb217, 1, none⟩ = some (.slice Ao20 t210.length co20) := (blk_cell BK217.out 1).trans rfl
                  have hcz36_2 : w23.cell? ⟨gb217, 2, none⟩ = some (.slice Ao21 t213.length co21) := (blk_cell BK217.out 2).trans rfl
                  have hfz36_0 := blk_frozen BK217.out 0
                  have hfz36_1 := blk_frozen BK217.out 1
                  have hfz36_2 := blk_frozen BK217.out 2
                  have hcz37_0 : w23.cell? ⟨gb226, 0, none⟩ = some (.int .i64 0) := (blk_cell BK226.out 0).trans rfl
                  have hcz37_1 : w23.cell? ⟨gb226, 1, none⟩ = some (.slice none 0 0) := (blk_cell BK226.out 1).trans rfl
                  have hcz37_2 : w23.cell? ⟨gb226, 2, none⟩ = some (.slice none 0 0) := (blk_cell BK226.out 2).trans rfl
                  have hfz37_0 := blk_frozen BK226.out 0
                  have hfz37_1 := blk_frozen BK226.out 1
                  have hfz37_2 := blk_frozen BK226.out 2
                  go_wp2_with (first | (go_at_call 17; (with_reducible refine (crossbarref31_Ints.calls kj5 _ _ t210 _ _ t219 false _ ?side1 ?side2 ?side3 ?side4 A30.out).mono ?_); (case side1 => refine (Kd.R_reads' (e := 3) (base := w.heap.size) (ok := fun k_ => (True ∧ some k_ ≠ (.slice Ao26 t219.length co26 : Value).ownBlock)) (n := t210.length) (c := co20) ?_).2.2; exact (by (with_reducible repeat (first | apply Kd.R_alloc | apply Kd.R_drewN | apply Kd.R_drew)); exact (Kd.R_mono (Kd.R_far (p := ⟨gb226, 2, none⟩) (Kd.R_far (p := ⟨gb226, 1, none⟩) (Kd.R_far (p := ⟨gb226, 0, none⟩) (Kd.R_types HO212.out BK226.out (by decide)) (fun _ hk => hk.2) (.int .i64 t218)) (fun _ hk => hk.2) (.slice Ao26 t219.length co26)) (fun _ hk => hk.2) (.slice Ao27 t222.length co27)) (fun _ h_ => h_.1)))); (case side2 => exact (Kd.R_reads' HO212.out).2.1); (case side3 => refine (Kd.R_reads' (e := 3) (base := w.heap.size) (ok := fun k_ => (True ∧ some k_ ≠ (.slice Ao20 t210.length co20 : Value).ownBlock)) (n := t219.length) (c := co26) ?_).2.2; exact (by (with_reducible repeat (first | apply Kd.R_alloc | apply Kd.R_drewN | apply Kd.R_drew)); exact (Kd.R_mono (Kd.R_far (p := ⟨gb226, 2, none⟩) (Kd.R_far (p := ⟨gb226, 1, none⟩) (Kd.R_far (p := ⟨gb226, 0, none⟩) (Kd.R_types HO221.out BK226.out (by decide)) (fun _ hk => hk.2) (.int .i64 t218)) (fun _ hk => hk.2) (.slice Ao26 t219.length co26)) (fun _ hk => hk.2) (.slice Ao27 t222.length co27)) (fun _ h_ => h_.1)))); (case side4 => exact (Kd.R_reads' HO221.out).2.1); rintro e w' ⟨rfl, ⟨nd, rfl⟩⟩; (try first | exact ⟨rfl, _, World.drewN_drewN _ _ _⟩ | exact ⟨rfl, _, Eq.trans (World.drewN_drewN _ _ _) (congrArg (World.drewN _) (Nat.add_assoc _ _ _))⟩)))
                  repeat (go_quiet (first | (go_at_call 17; (with_reducible refine (crossbarref31_Ints.calls kj5 _ _ t210 _ _ t219 false _ ?side1 ?side2 ?side3 ?side4 A30.out).mono ?_); (case side1 => refine (Kd.R_reads' (e := 3) (base := w.heap.size) (ok := fun k_ => (True ∧ some k_ ≠ (.slice Ao26 t219.length co26 : Value).ownBlock)) (n := t210.length) (c := co20) ?_).2.2; exact (by (with_reducible repeat (first | apply Kd.R_alloc | apply Kd.R_drewN | apply Kd.R_drew)); exact (Kd.R_mono (Kd.R_far (p := ⟨gb226, 2, none⟩) (Kd.R_far (p := ⟨gb226, 1, none⟩) (Kd.R_far (p := ⟨gb226, 0, none⟩) (Kd.R_types HO212.out BK226.out (by decide)) (fun _ hk => hk.2) (.int .i64 t218)) (fun _ hk => hk.2) (.slice Ao26 t219.length co26)) (fun _ hk => hk.2) (.slice Ao27 t222.length co27)) (fun _ h_ => h_.1)))); (case side2 => exact (Kd.R_reads' HO212.out).2.1); (case side3 => refine (Kd.R_reads' (e := 3) (base := w.heap.size) (ok := fun k_ => (True ∧ some k_ ≠ (.slice Ao20 t210.length co20 : Value).ownBlock)) (n := t219.length) (c := co26) ?_).2.2; exact (by (with_reducible repeat (first | apply Kd.R_alloc | apply Kd.R_drewN | apply Kd.R_drew)); exact (Kd.R_mono (Kd.R_far (p := ⟨gb226, 2, none⟩) (Kd.R_far (p := ⟨gb226, 1, none⟩) (Kd.R_far (p := ⟨gb226, 0, none⟩) (Kd.R_types HO221.out BK226.out (by decide)) (fun _ hk => hk.2) (.int .i64 t218)) (fun _ hk => hk.2) (.slice Ao26 t219.length co26)) (fun _ hk => hk.2) (.slice Ao27 t222.length co27)) (fun _ h_ => h_.1)))); (case side4 => exact (Kd.R_reads' HO221.out).2.1); rintro e w' ⟨rfl, ⟨nd, rfl⟩⟩; (try first | exact ⟨rfl, _, World.drewN_drewN _ _ _⟩ | exact ⟨rfl, _, Eq.trans (World.drewN_drewN _ _ _) (congrArg (World.drewN _) (Nat.add_assoc _ _ _))⟩))); try go_wp2_with (first | (go_at_call 17; (with_reducible refine (crossbarref31_Ints.calls kj5 _ _ t210 _ _ t219 false _ ?side1 ?side2 ?side3 ?side4 A30.out).mono ?_); (case side1 => refine (Kd.R_reads' (e := 3) (base := w.heap.size) (ok := fun k_ => (True ∧ some k_ ≠ (.slice Ao26 t219.length co26 : Value).ownBlock)) (n := t210.length) (c := co20) ?_).2.2; exact (by (with_reducible repeat (first | apply Kd.R_alloc | apply Kd.R_drewN | apply Kd.R_drew)); exact (Kd.R_mono (Kd.R_far (p := ⟨gb226, 2, none⟩) (Kd.R_far (p := ⟨gb226, 1, none⟩) (Kd.R_far (p := ⟨gb226, 0, none⟩) (Kd.R_types HO212.out BK226.out (by decide)) (fun _ hk => hk.2) (.int .i64 t218)) (fun _ hk => hk.2) (.slice Ao26 t219.length co26)) (fun _ hk => hk.2) (.slice Ao27 t222.length co27)) (fun _ h_ => h_.1)))); (case side2 => exact (Kd.R_reads' HO212.out).2.1); (case side3 => refine (Kd.R_reads' (e := 3) (base := w.heap.size) (ok := fun k_ => (True ∧ some k_ ≠ (.slice Ao20 t210.length co20 : Value).ownBlock)) (n := t219.length) (c := co26) ?_).2.2; exact (by (with_reducible repeat (first | apply Kd.R_alloc | apply Kd.R_drewN | apply Kd.R_drew)); exact (Kd.R_mono (Kd.R_far (p := ⟨gb226, 2, none⟩) (Kd.R_far (p := ⟨gb226, 1, none⟩) (Kd.R_far (p := ⟨gb226, 0, none⟩) (Kd.R_types HO221.out BK226.out (by decide)) (fun _ hk => hk.2) (.int .i64 t218)) (fun _ hk => hk.2) (.slice Ao26 t219.length co26)) (fun _ hk => hk.2) (.slice Ao27 t222.length co27)) (fun _ h_ => h_.1)))); (case side4 => exact (Kd.R_reads' HO221.out).2.1); rintro e w' ⟨rfl, ⟨nd, rfl⟩⟩; (try first | exact ⟨rfl, _, World.drewN_drewN _ _ _⟩ | exact ⟨rfl, _, Eq.trans (World.drewN_drewN _ _ _) (congrArg (World.drewN _) (Nat.add_assoc _ _ _))⟩))))
                  go_meet
                  case rel => exact ⟨_, (true), (by first | rfl | (simp; done) | (simp [*]; done)), H', ⟨by have := HJ5.out; first | omega | exact Nat.le_refl _⟩, ⟨by (with_reducible repeat (first | apply Kd.R_alloc | apply Kd.R_drewN | apply Kd.R_drew)); exact Kd.R_mono (Kd.R_far (p := ⟨gb226, 2, none⟩) (Kd.R_far (p := ⟨gb226, 1, none⟩) (Kd.R_far (p := ⟨gb226, 0, none⟩) (Kd.R_types HO212.out BK226.out (by decide)) (fun _ hk => hk.2) (.int .i64 t218)) (fun _ hk => hk.2) (.slice Ao26 t219.length co26)) (fun _ hk => hk.2) (.slice Ao27 t222.length co27)) (fun _ hk => hk.1.2)⟩, ⟨by (with_reducible repeat (first | apply Kd.R_alloc | apply Kd.R_drewN | apply Kd.R_drew)); exact Kd.R_mono (Kd.R_far (p := ⟨gb226, 2, none⟩) (Kd.R_far (p := ⟨gb226, 1, none⟩) (Kd.R_far (p := ⟨gb226, 0, none⟩) (Kd.R_types HO215.out BK226.out (by decide)) (fun _ hk => hk.2) (.int .i64 t218)) (fun _ hk => hk.2) (.slice Ao26 t219.length co26)) (fun _ hk => hk.2) (.slice Ao27 t222.length co27)) (fun _ hk => hk.1.2)⟩, ⟨by (with_reducible repeat (first | apply Kd.R_alloc | apply Kd.R_drewN | apply Kd.R_drew)); exact Kd.R_mono (Kd.R_far (p := ⟨gb226, 2, none⟩) (Kd.R_far (p := ⟨gb226, 1, none⟩) (Kd.R_far (p := ⟨gb226, 0, none⟩) (Kd.R_types HO221.out BK226.out (by decide)) (fun _ hk => hk.2) (.int .i64 t218)) (fun _ hk => hk.2) (.slice Ao26 t219.length co26)) (fun _ hk => hk.2) (.slice Ao27 t222.length co27)) (fun _ hk => hk.1.2)⟩, ⟨by (with_reducible repeat (first | apply Kd.R_alloc | apply Kd.R_drewN | apply Kd.R_drew)); exact Kd.R_mono (Kd.R_far (p := ⟨gb226, 2, none⟩) (Kd.R_far (p := ⟨gb226, 1, none⟩) (Kd.R_far (p := ⟨gb226, 0, none⟩) (Kd.R_types HO224.out BK226.out (by decide)) (fun _ hk => hk.2) (.int .i64 t218)) (fun _ hk => hk.2) (.slice Ao26 t219.length co26)) (fun _ hk => hk.2) (.slice Ao27 t222.length co27)) (fun _ hk => hk.1.2)⟩, ⟨by (with_reducible repeat (first | refine blk_drewN ?_ _ | refine blk_drew ?_ | refine blk_alloc ?_ _)); refine blk_far ?_ NB217_226.out _; (with_reducible repeat (first | refine blk_drewN ?_ _ | refine blk_drew ?_ | refine blk_alloc ?_ _)); refine blk_far ?_ NB217_226.out _; (with_reducible repeat (first | refine blk_drewN ?_ _ | refine blk_drew ?_ | refine blk_alloc ?_ _)); refine blk_far ?_ NB217_226.out _; (with_reducible repeat (first | refine blk_drewN ?_ _ | refine blk_drew ?_ | refine blk_alloc ?_ _)); exact BK217.out⟩, ⟨by (with_reducible repeat (first | refine blk_drewN ?_ _ | refine blk_drew ?_ | refine blk_alloc ?_ _)); refine blk_put (cs := #[.int .i64 t218, .slice Ao26 t219.length co26, .slice none 0 0]) ?_ 2 _ rfl; (with_reducible repeat (first | refine blk_drewN ?_ _ | refine blk_drew ?_ | refine blk_alloc ?_ _)); refine blk_put (cs := #[.int .i64 t218, .slice none 0 0, .slice none 0 0]) ?_ 1 _ rfl; (with_reducible repeat (first | refine blk_drewN ?_ _ | refine blk_drew ?_ | refine blk_alloc ?_ _)); refine blk_put (cs := #[.int .i64 0, .slice none 0 0, .slice none 0 0]) ?_ 0 _ rfl; (with_reducible repeat (first | refine blk_drewN ?_ _ | refine blk_drew ?_ | refine blk_alloc ?_ _)); exact BK226.out⟩, ⟨by repeat (first | (with_reducible first | exact HB.out | apply below_alloc | apply pw_below_drewN | apply below_drew1 | refine below_set ?_ GE217.out | refine below_set ?_ GE226.out) | exact HB.out)⟩⟩
              · rw [if_neg c29] at H
                have c29b0 : (t209 == (wrap64 (-t218))) = false := beq_eq_false_iff_ne.mpr c29
                have c29b1 : (t209 != (wrap64 (-t218))) = true := bne_iff_ne.mpr c29
                have H' := Aside0.mk H
                clear H
                have hnb38 := NB217_226.out
                have hnc38 := NB226_217.out
                have hcz39_0 : w23.cell? ⟨gb217, 0, none⟩ = some (.int .i64 t209) := (blk_cell BK217.out 0).trans rfl
                have hcz39_1 : w23.cell? ⟨gb217, 1, none⟩ = some (.slice Ao20 t210.length co20) := (blk_cell BK217.out 1).trans rfl
                have hcz39_2 : w23.cell? ⟨gb217, 2, none⟩ = some (.slice Ao21 t213.length co21) := (blk_cell BK217.out 2).trans rfl
                have hfz39_0 := blk_frozen BK217.out 0
                have hfz39_1 := blk_frozen BK217.out 1
                have hfz39_2 := blk_frozen BK217.out 2
                have hcz40_0 : w23.cell? ⟨gb226, 0, none⟩ = some (.int .i64 0) := (blk_cell BK226.out 0).trans rfl
                have hcz40_1 : w23.cell? ⟨gb226, 1, none⟩ = some (.slice none 0 0) := (blk_cell BK226.out 1).trans rfl
                have hcz40_2 : w23.cell? ⟨gb226, 2, none⟩ = some (.slice none 0 0) := (blk_cell BK226.out 2).trans rfl
                have hfz40_0 := blk_frozen BK226.out 0
                have hfz40_1 := blk_frozen BK226.out 1
                have hfz40_2 := blk_frozen BK226.out 2
                go_wp2
                repeat (go_quiet (fail); try go_wp2)
                go_meet
                case rel => exact ⟨_, (true), (by first | rfl | (simp; done) | (simp [*]; done)), H', ⟨by have := HJ5.out; first | omega | exact Nat.le_refl _⟩, ⟨by (with_reducible repeat (first | apply Kd.R_alloc | apply Kd.R_drewN | apply Kd.R_drew)); exact Kd.R_mono (Kd.R_far (p := ⟨gb226, 2, none⟩) (Kd.R_far (p := ⟨gb226, 1, none⟩) (Kd.R_far (p := ⟨gb226, 0, none⟩) (Kd.R_types HO212.out BK226.out (by decide)) (fun _ hk => hk.2) (.int .i64 t218)) (fun _ hk => hk.2) (.slice Ao26 t219.length co26)) (fun _ hk => hk.2) (.slice Ao27 t222.length co27)) (fun _ hk => hk.1.2)⟩, ⟨by (with_reducible repeat (first | apply Kd.R_alloc | apply Kd.R_drewN | apply Kd.R_drew)); exact Kd.R_mono (Kd.R_far (p := ⟨gb226, 2, none⟩) (Kd.R_far (p := ⟨gb226, 1, none⟩) (Kd.R_far (p := ⟨gb226, 0, none⟩) (Kd.R_types HO215.out BK226.out (by decide)) (fun _ hk => hk.2) (.int .i64 t218)) (fun _ hk => hk.2) (.slice Ao26 t219.length co26)) (fun _ hk => hk.2) (.slice Ao27 t222.length co27)) (fun _ hk => hk.1.2)⟩, ⟨by (with_reducible repeat (first | apply Kd.R_alloc | apply Kd.R_drewN | apply Kd.R_drew)); exact Kd.R_mono (Kd.R_far (p := ⟨gb226, 2, none⟩) (Kd.R_far (p := ⟨gb226, 1, none⟩) (Kd.R_far (p := ⟨gb226, 0, none⟩) (Kd.R_types HO221.out BK226.out (by decide)) (fun _ hk => hk.2) (.int .i64 t218)) (fun _ hk => hk.2) (.slice Ao26 t219.length co26)) (fun _ hk => hk.2) (.slice Ao27 t222.length co27)) (fun _ hk => hk.1.2)⟩, ⟨by (with_reducible repeat (first | apply Kd.R_alloc | apply Kd.R_drewN | apply Kd.R_drew)); exact Kd.R_mono (Kd.R_far (p := ⟨gb226, 2, none⟩) (Kd.R_far (p := ⟨gb226, 1, none⟩) (Kd.R_far (p := ⟨gb226, 0, none⟩) (Kd.R_types HO224.out BK226.out (by decide)) (fun _ hk => hk.2) (.int .i64 t218)) (fun _ hk => hk.2) (.slice Ao26 t219.length co26)) (fun _ hk => hk.2) (.slice Ao27 t222.length co27)) (fun _ hk => hk.1.2)⟩, ⟨by (with_reducible repeat (first | refine blk_drewN ?_ _ | refine blk_drew ?_ | refine blk_alloc ?_ _)); refine blk_far ?_ NB217_226.out _; (with_reducible repeat (first | refine blk_drewN ?_ _ | refine blk_drew ?_ | refine blk_alloc ?_ _)); refine blk_far ?_ NB217_226.out _; (with_reducible repeat (first | refine blk_drewN ?_ _ | refine blk_drew ?_ | refine blk_alloc ?_ _)); refine blk_far ?_ NB217_226.out _; (with_reducible repeat (first | refine blk_drewN ?_ _ | refine blk_drew ?_ | refine blk_alloc ?_ _)); exact BK217.out⟩, ⟨by (with_reducible repeat (first | refine blk_drewN ?_ _ | refine blk_drew ?_ | refine blk_alloc ?_ _)); refine blk_put (cs := #[.int .i64 t218, .slice Ao26 t219.length co26, .slice none 0 0]) ?_ 2 _ rfl; (with_reducible repeat (first | refine blk_drewN ?_ _ | refine blk_drew ?_ | refine blk_alloc ?_ _)); refine blk_put (cs := #[.int .i64 t218, .slice none 0 0, .slice none 0 0]) ?_ 1 _ rfl; (with_reducible repeat (first | refine blk_drewN ?_ _ | refine blk_drew ?_ | refine blk_alloc ?_ _)); refine blk_put (cs := #[.int .i64 0, .slice none 0 0, .slice none 0 0]) ?_ 0 _ rfl; (with_reducible repeat (first | refine blk_drewN ?_ _ | refine blk_drew ?_ | refine blk_alloc ?_ _)); exact BK226.out⟩, ⟨by repeat (first | (with_reducible first | exact HB.out | apply below_alloc | apply pw_below_drewN | apply below_drew1 | refine below_set ?_ GE217.out | refine below_set ?_ GE226.out) | exact HB.out)⟩⟩
            · rw [if_neg c28] at H
              have c28b0 : (t216 == t225) = false := beq_eq_false_iff_ne.mpr c28
              have c28b1 : (t216 != t225) = true := bne_iff_ne.mpr c28
              (first | rw [c28b0] | (simp only [i64_w, i32_w]; rw [c28b0]) | skip)
              have H' := Aside0.mk H
              clear H
              go_wp2
              repeat (go_quiet (fail); try go_wp2)
              go_meet
              case rel => exact ⟨_, (true), (by first | rfl | (simp; done) | (simp [*]; done)), H', ⟨by have := HJ5.out; first | omega | exact Nat.le_refl _⟩, ⟨by (with_reducible repeat (first | apply Kd.R_alloc | apply Kd.R_drewN | apply Kd.R_drew)); exact Kd.R_mono (Kd.R_far (p := ⟨gb226, 2, none⟩) (Kd.R_far (p := ⟨gb226, 1, none⟩) (Kd.R_far (p := ⟨gb226, 0, none⟩) (Kd.R_types HO212.out BK226.out (by decide)) (fun _ hk => hk.2) (.int .i64 t218)) (fun _ hk => hk.2) (.slice Ao26 t219.length co26)) (fun _ hk => hk.2) (.slice Ao27 t222.length co27)) (fun _ hk => hk.1.2)⟩, ⟨by (with_reducible repeat (first | apply Kd.R_alloc | apply Kd.R_drewN | apply Kd.R_drew)); exact Kd.R_mono (Kd.R_far (p := ⟨gb226, 2, none⟩) (Kd.R_far (p := ⟨gb226, 1, none⟩) (Kd.R_far (p := ⟨gb226, 0, none⟩) (Kd.R_types HO215.out BK226.out (by decide)) (fun _ hk => hk.2) (.int .i64 t218)) (fun _ hk => hk.2) (.slice Ao26 t219.length co26)) (fun _ hk => hk.2) (.slice Ao27 t222.length co27)) (fun _ hk => hk.1.2)⟩, ⟨by (with_reducible repeat (first | apply Kd.R_alloc | apply Kd.R_drewN | apply Kd.R_drew)); exact Kd.R_mono (Kd.R_far (p := ⟨gb226, 2, none⟩) (Kd.R_far (p := ⟨gb226, 1, none⟩) (Kd.R_far (p := ⟨gb226, 0, none⟩) (Kd.R_types HO221.out BK226.out (by decide)) (fun _ hk => hk.2) (.int .i64 t218)) (fun _ hk => hk.2) (.slice Ao26 t219.length co26)) (fun _ hk => hk.2) (.slice Ao27 t222.length co27)) (fun _ hk => hk.1.2)⟩, ⟨by (with_reducible repeat (first | apply Kd.R_alloc | apply Kd.R_drewN | apply Kd.R_drew)); exact Kd.R_mono (Kd.R_far (p := ⟨gb226, 2, none⟩) (Kd.R_far (p := ⟨gb226, 1, none⟩) (Kd.R_far (p := ⟨gb226, 0, none⟩) (Kd.R_types HO224.out BK226.out (by decide)) (fun _ hk => hk.2) (.int .i64 t218)) (fun _ hk => hk.2) (.slice Ao26 t219.length co26)) (fun _ hk => hk.2) (.slice Ao27 t222.length co27)) (fun _ hk => hk.1.2)⟩, ⟨by (with_reducible repeat (first | refine blk_drewN ?_ _ | refine blk_drew ?_ | refine blk_alloc ?_ _)); refine blk_far ?_ NB217_226.out _; (with_reducible repeat (first | refine blk_drewN ?_ _ | refine blk_drew ?_ | refine blk_alloc ?_ _)); refine blk_far ?_ NB217_226.out _; (with_reducible repeat (first | refine blk_drewN ?_ _ | refine blk_drew ?_ | refine blk_alloc ?_ _)); refine blk_far ?_ NB217_226.out _; (with_reducible repeat (first | refine blk_drewN ?_ _ | refine blk_drew ?_ | refine blk_alloc ?_ _)); exact BK217.out⟩, ⟨by (with_reducible repeat (first | refine blk_drewN ?_ _ | refine blk_drew ?_ | refine blk_alloc ?_ _)); refine blk_put (cs := #[.int .i64 t218, .slice Ao26 t219.length co26, .slice none 0 0]) ?_ 2 _ rfl; (with_reducible repeat (first | refine blk_drewN ?_ _ | refine blk_drew ?_ | refine blk_alloc ?_ _)); refine blk_put (cs := #[.int .i64 t218, .slice none 0 0, .slice none 0 0]) ?_ 1 _ rfl; (with_reducible repeat (first | refine blk_drewN ?_ _ | refine blk_drew ?_ | refine blk_alloc ?_ _)); refine blk_put (cs := #[.int .i64 0, .slice none 0 0, .slice none 0 0]) ?_ 0 _ rfl; (with_reducible repeat (first | refine blk_drewN ?_ _ | refine blk_drew ?_ | refine blk_alloc ?_ _)); exact BK226.out⟩, ⟨by repeat (first | (with_reducible first | exact HB.out | apply below_alloc | apply pw_below_drewN | apply below_drew1 | refine below_set ?_ GE217.out | refine below_set ?_ GE226.out) | exact HB.out)⟩⟩
          case rest =>
            clear HC16
            try clear c1
            try clear c2
            try clear p2
            try clear c3
            try clear c5
            try clear c6
            try clear p6
            try clear c9
            try clear c10
            try clear c10b0
            try clear c10b1
            try clear c13
            try clear c24
            try clear c28
            try clear c28b0
            try clear c28b1
            try clear c29
            try clear c29b0
            try clear c29b1
            try clear c31
            try clear c32
            try clear c35
            try clear c38
            try clear hcz19_0
            try clear hcz19_1
            try clear hcz19_2
            try clear hcz25_0
            try clear hcz25_1
            try clear hcz25_2
            try clear hcz33_0
            try clear hcz33_1
            try clear hcz33_2
            try clear hcz34_0
            try clear hcz34_1
            try clear hcz34_2
            try clear hcz36_0
            try clear hcz36_1
            try clear hcz36_2
            try clear hcz37_0
            try clear hcz37_1
            try clear hcz37_2
            try clear hcz39_0
            try clear hcz39_1
            try clear hcz39_2
            try clear hcz40_0
            try clear hcz40_1
            try clear hcz40_2
            try clear hfz19_0
            try clear hfz19_1
            try clear hfz19_2
            try clear hfz25_0
            try clear hfz25_1
            try clear hfz25_2
            try clear hfz33_0
            try clear hfz33_1
            try clear hfz33_2
            try clear hfz34_0
            try clear hfz34_1
            try clear hfz34_2
            try clear hfz36_0
            try clear hfz36_1
            try clear hfz36_2
            try clear hfz37_0
            try clear hfz37_1
            try clear hfz37_2
            try clear hfz39_0
            try clear hfz39_1
            try clear hfz39_2
            try clear hfz40_0
            try clear hfz40_1
            try clear hfz40_2
            try clear p2
            obtain ⟨kq, x71_15, rfl, HA, HJ15, HO_218001, HO_218002, HO_227001, HO_227002, BK217, BK226, HB⟩ := hcut
            cases kq with
            | zero => exact absurd HA.out (by simp [crossbarlaw31_SettleSymmetric.j1])
            | succ kj15 =>
              have H := HA.out
              clear HA
              simp only [crossbarlaw31_SettleSymmetric.j1] at H
              by_cases c41 : x71_15 = true
              · subst c41
                have H1 : (some false) = some r := by rw [if_pos rfl] at H; exact H
                clear H
                have H := H1
                clear H1
                exact absurd ((Option.some.inj H).trans hr) (by decide)
              · replace c41 := Bool.eq_false_iff.mpr c41
                subst c41
                have H1 : (crossbarlaw31_SettleSymmetric.l0 kj15 0 t209 t210 t213 t218 t219 t222) = some r := by rw [if_neg (show ¬ (false = true) by decide)] at H; exact H
                clear H
                have H := H1
                clear H1
                have H' := Aside0.mk H
                clear H
                have hsC := (Kd.R_reads' HO_218002.out).2.2
                have htC := (Kd.R_reads' HO_227002.out).2.2
                have hB0 := HB.out
                have hS := BK217.out
                have hT := BK226.out
                have hnST := NB217_226.out
                clear HO_218001 HO_218002 HO_227001 HO_227002 BK217 BK226
                rename World => WCx
                go_wp2
                repeat (go_quiet (fail); try go_wp2)
                go_loopg [11] kj15 (fun kq v11 w' => ∃ (x11_3 : Int), v11 = .int .i64 x11_3 ∧ Aside0 (crossbarlaw31_SettleSymmetric.l0 kq x11_3 t209 t210 t213 t218 t219 t222 = some r) ∧ Aside0 (kq ≤ kj15) ∧ Aside0 (Below WCx.heap.size WCx w'))
                case atStart => exact ⟨0, (by first | rfl | (simp; done) | (simp [*]; done)), H', ⟨Nat.le_refl _⟩, ⟨Below.refl _ _⟩⟩
                case round =>
                  clear H'
                  obtain ⟨x11_3, rfl, HA, HK3, HBk⟩ := hrel
                  cases gk with
                  | zero => exact absurd HA.out (by simp [crossbarlaw31_SettleSymmetric.l0])
                  | succ k3 =>
                    have H := HA.out
                    clear HA
                    simp only [crossbarlaw31_SettleSymmetric.l0] at H
                    have hz := (HBk.out.block gb217 (blk_lt hS)).trans hS
                    have ht := (HBk.out.block gb226 (blk_lt hT)).trans hT
                    by_cases c42 : x11_3 < (t213.length : Int)
                    · rw [if_pos c42] at H
                      by_cases c43 : 0 ≤ x11_3
                      · rw [if_pos c43] at H
                        obtain ⟨ad, ea, hx0, hx1, hx2, hx3⟩ := at_T38 hsC x11_3 c43 c42
                        cases ea
                        have c45 : x11_3 < (t222.length : Int) := by
                          refine Classical.byContradiction fun hn => ?_
                          simp only [if_neg hn, ite_self] at H
                          exact absurd H (by simp)
                        simp only [if_pos c45] at H
                        obtain ⟨ae, ee, hy0, hy1, hy2, hy3⟩ := at_T38 htC x11_3 c43 c45
                        cases ee
                        have upC : ∀ {a : Addr} {v : Value}, WCx.cell? a = some v → wr.cell? a = some v := fun hv => (HBk.out.cell (World.block_lt_of_cell? WCx _ hv)).trans hv
                        replace hx0 := upC hx0
                        replace hx1 := upC hx1
                        replace hx2 := upC hx2
                        replace hx3 := upC hx3
                        replace hy0 := upC hy0
                        replace hy1 := upC hy1
                        replace hy2 := upC hy2
                        replace hy3 := upC hy3
                        generalize rd_T38 t213 x11_3 = m at *
                        generalize rd_T38 t222 x11_3 = n at *
                        have hst := store38
                        obtain ⟨W1, hW1⟩ : ∃ W1, wr.alloc (.cells #[.int .i64 m.f0, .int .i64 m.f1, .int .i64 m.f2, .int .i64 m.f3] 38) = W1 := ⟨_, rfl⟩
                        have k1 : W1.heap[wr.heap.size]? = some (.cells #[.int .i64 m.f0, .int .i64 m.f1, .int .i64 m.f2, .int .i64 m.f3] 38 (0, 0)) := by rw [← hW1]; exact heap_alloc_new wr _
                        have B1 : Below wr.heap.size wr W1 := by rw [← hW1]; exact (Below.refl _ _).alloc (Nat.le_refl _) _
                        obtain ⟨W2, hW2⟩ : ∃ W2, W1.setCell ⟨wr.heap.size, 2, none⟩ (.int .i64 m.f3) = W2 := ⟨_, rfl⟩
                        have k2 := heap_setCell_blk k1 2 (.int .i64 m.f3)
                        rw [hW2] at k2
                        have B2 : Below wr.heap.size wr W2 := by rw [← hW2]; exact B1.setCell (p := ⟨wr.heap.size, 2, none⟩) (Nat.le_refl _) _
                        obtain ⟨W3, hW3⟩ : ∃ W3, W2.setCell ⟨wr.heap.size, 3, none⟩ (.int .i64 m.f2) = W3 := ⟨_, rfl⟩
                        have k3_ := heap_setCell_blk k2 3 (.int .i64 m.f2)
                        rw [hW3] at k3_
                        have B3 : Below wr.heap.size wr W3 := by rw [← hW3]; exact B2.setCell (p := ⟨wr.heap.size, 3, none⟩) (Nat.le_refl _) _
                        have wz2 : wr.cell? ⟨gb217, 2, none⟩ = some (.slice (some ad) t213.length co21) := (blk_cell hz 2).trans rfl
                        have wzf := blk_frozen hz 2
                        have upW1 : ∀ {a : Addr} {v : Value}, wr.cell? a = some v → W1.cell? a = some v := fun hv => (B1.cell (World.block_lt_of_cell? wr _ hv)).trans hv
                        have W1hx0 := upW1 hx0
                        have W1hx1 := upW1 hx1
                        have W1hx2 := upW1 hx2
                        have W1hx3 := upW1 hx3
                        have W1hy0 := upW1 hy0
                        have W1hy1 := upW1 hy1
                        have W1hy2 := upW1 hy2
                        have W1hy3 := upW1 hy3
                        have W1z := (B1.block gb217 (blk_lt hz)).trans hz
                        have W1t := (B1.block gb226 (blk_lt ht)).trans ht
                        have W1z2 : W1.cell? ⟨gb217, 2, none⟩ = some (.slice (some ad) t213.length co21) := (blk_cell W1z 2).trans rfl
                        have W1t2 : W1.cell? ⟨gb226, 2, none⟩ = some (.slice (some ae) t222.length co27) := (blk_cell W1t 2).trans rfl
                        have W1zf := blk_frozen W1z 2
                        have W1tf := blk_frozen W1t 2
                        clear upW1 W1z W1t
                        have upW2 : ∀ {a : Addr} {v : Value}, wr.cell? a = some v → W2.cell? a = some v := fun hv => (B2.cell (World.block_lt_of_cell? wr _ hv)).trans hv
                        have W2hx0 := upW2 hx0
                        have W2hx1 := upW2 hx1
                        have W2hx2 := upW2 hx2
                        have W2hx3 := upW2 hx3
                        have W2hy0 := upW2 hy0
                        have W2hy1 := upW2 hy1
                        have W2hy2 := upW2 hy2
                        have W2hy3 := upW2 hy3
                        have W2z := (B2.block gb217 (blk_lt hz)).trans hz
                        have W2t := (B2.block gb226 (blk_lt ht)).trans ht
                        have W2z2 : W2.cell? ⟨gb217, 2, none⟩ = some (.slice (some ad) t213.length co21) := (blk_cell W2z 2).trans rfl
                        have W2t2 : W2.cell? ⟨gb226, 2, none⟩ = some (.slice (some ae) t222.length co27) := (blk_cell W2t 2).trans rfl
                        have W2zf := blk_frozen W2z 2
                        have W2tf := blk_frozen W2t 2
                        clear upW2 W2z W2t
                        have upW3 : ∀ {a : Addr} {v : Value}, wr.cell? a = some v → W3.cell? a = some v := fun hv => (B3.cell (World.block_lt_of_cell? wr _ hv)).trans hv
                        have W3hx0 := upW3 hx0
                        have W3hx1 := upW3 hx1
                        have W3hx2 := upW3 hx2
                        have W3hx3 := upW3 hx3
                        have W3hy0 := upW3 hy0
                        have W3hy1 := upW3 hy1
                        have W3hy2 := upW3 hy2
                        have W3hy3 := upW3 hy3
                        have W3z := (B3.block gb217 (blk_lt hz)).trans hz
                        have W3t := (B3.block gb226 (blk_lt ht)).trans ht
                        have W3z2 : W3.cell? ⟨gb217, 2, none⟩ = some (.slice (some ad) t213.length co21) := (blk_cell W3z 2).trans rfl
                        have W3t2 : W3.cell? ⟨gb226, 2, none⟩ = some (.slice (some ae) t222.length co27) := (blk_cell W3t 2).trans rfl
                        have W3zf := blk_frozen W3z 2
                        have W3tf := blk_frozen W3t 2
                        clear upW3 W3z W3t
                        have W1o0 := cell_of_blk k1 0 _ rfl
                        have W1o1 := cell_of_blk k1 1 _ rfl
                        have W1o2 := cell_of_blk k1 2 _ rfl
                        have W1o3 := cell_of_blk k1 3 _ rfl
                        have W1of := blk_frozen k1
                        have W2o0 := cell_of_blk k2 0 _ rfl
                        have W2o1 := cell_of_blk k2 1 _ rfl
                        have W2o2 := cell_of_blk k2 2 _ rfl
                        have W2o3 := cell_of_blk k2 3 _ rfl
                        have W2of := blk_frozen k2
                        have W3o0 := cell_of_blk k3_ 0 _ rfl
                        have W3o1 := cell_of_blk k3_ 1 _ rfl
                        have W3o2 := cell_of_blk k3_ 2 _ rfl
                        have W3o3 := cell_of_blk k3_ 3 _ rfl
                        have W3of := blk_frozen k3_
                        have C42 : decide (x11_3 < (t213.length : Int)) = true := decide_eq_true c42
                        have C43 : decide (0 ≤ x11_3) = true := decide_eq_true c43
                        have C45 : decide (x11_3 < (t222.length : Int)) = true := decide_eq_true c45
                        have D42 := eq_true c42
                        have D43 := eq_true c43
                        have D45 := eq_true c45
                        by_cases c44 : (m.f0) = 1
                        · rw [if_pos c44] at H
                          have c44b0 : ((m.f0) == 1) = true := beq_iff_eq.mpr c44
                          have c44b1 : ((m.f0) != 1) = false := bne_eq_false_iff_eq.mpr c44
                          clear c44
                          obtain ⟨W4, hW4⟩ : ∃ W4, W3.setCell ⟨wr.heap.size, 0, none⟩ (.int .i64 2) = W4 := ⟨_, rfl⟩
                          have k4 := heap_setCell_blk k3_ 0 (.int .i64 2)
                          rw [hW4] at k4
                          have B4 : Below wr.heap.size wr W4 := by rw [← hW4]; exact B3.setCell (p := ⟨wr.heap.size, 0, none⟩) (Nat.le_refl _) _
                          have upW4 : ∀ {a : Addr} {v : Value}, wr.cell? a = some v → W4.cell? a = some v := fun hv => (B4.cell (World.block_lt_of_cell? wr _ hv)).trans hv
                          have W4hx0 := upW4 hx0
                          have W4hx1 := upW4 hx1
                          have W4hx2 := upW4 hx2
                          have W4hx3 := upW4 hx3
                          have W4hy0 := upW4 hy0
                          have W4hy1 := upW4 hy1
                          have W4hy2 := upW4 hy2
                          have W4hy3 := upW4 hy3
                          have W4z := (B4.block gb217 (blk_lt hz)).trans hz
                          have W4t := (B4.block gb226 (blk_lt ht)).trans ht
                          have W4z2 : W4.cell? ⟨gb217, 2, none⟩ = some (.slice (some ad) t213.length co21) := (blk_cell W4z 2).trans rfl
                          have W4t2 : W4.cell? ⟨gb226, 2, none⟩ = some (.slice (some ae) t222.length co27) := (blk_cell W4t 2).trans rfl
                          have W4zf := blk_frozen W4z 2
                          have W4tf := blk_frozen W4t 2
                          clear upW4 W4z W4t
                          have W4o0 := cell_of_blk k4 0 _ rfl
                          have W4o1 := cell_of_blk k4 1 _ rfl
                          have W4o2 := cell_of_blk k4 2 _ rfl
                          have W4o3 := cell_of_blk k4 3 _ rfl
                          have W4of := blk_frozen k4
                          have hfin : Below WCx.heap.size WCx W4 := HBk.out.trans (B4.mono HBk.out.size)
                          have HF := Aside0.mk hfin
                          clear hfin B1 B2 B3 k1 k2 k3_ B4 k4 upC hz ht
                          by_cases c46 : (!((n.f0) == 2) || (!((n.f1) == (m.f1)) || (!((n.f2) == (m.f3)) || (!((n.f3) == (m.f2)))))) = true
                          · rw [if_pos c46] at H
                            exact absurd ((Option.some.inj H).trans hr) (by decide)
                          · rw [if_neg c46] at H
                            have c46b0 : (!((n.f0) == 2) || (!((n.f1) == (m.f1)) || (!((n.f2) == (m.f3)) || (!((n.f3) == (m.f2)))))) = false := by simpa using c46
                            clear c46
                            have H' := Aside0.mk H
                            clear H
                            go_wp2
                            repeat (go_quiet (fail); try go_wp2)
                            go_roundg k3
                            case measure => have := HJ5.out; have := HJ15.out; have := HK3.out; omega
                            case rel => exact ⟨(wrap64 (x11_3 + 1)), (by first | rfl | (simp; done) | (simp [*]; done)), H', ⟨by have := HJ5.out; have := HJ15.out; have := HK3.out; omega⟩, ⟨by repeat (first | exact HF.out | apply pw_below_drewN)⟩⟩
                        · rw [if_neg c44] at H
                          have c44b0 : ((m.f0) == 1) = false := beq_eq_false_iff_ne.mpr c44
                          have c44b1 : ((m.f0) != 1) = true := bne_iff_ne.mpr c44
                          clear c44
                          by_cases c63 : (m.f0) = 2
                          · rw [if_pos c63] at H
                            have c63b0 : ((m.f0) == 2) = true := beq_iff_eq.mpr c63
                            have c63b1 : ((m.f0) != 2) = false := bne_eq_false_iff_eq.mpr c63
                            clear c63
                            obtain ⟨W4, hW4⟩ : ∃ W4, W3.setCell ⟨wr.heap.size, 0, none⟩ (.int .i64 1) = W4 := ⟨_, rfl⟩
                            have k4 := heap_setCell_blk k3_ 0 (.int .i64 1)
                            rw [hW4] at k4
                            have B4 : Below wr.heap.size wr W4 := by rw [← hW4]; exact B3.setCell (p := ⟨wr.heap.size, 0, none⟩) (Nat.le_refl _) _
                            have upW4 : ∀ {a : Addr} {v : Value}, wr.cell? a = some v → W4.cell? a = some v := fun hv => (B4.cell (World.block_lt_of_cell? wr _ hv)).trans hv
                            have W4hx0 := upW4 hx0
                            have W4hx1 := upW4 hx1
                            have W4hx2 := upW4 hx2
                            have W4hx3 := upW4 hx3
                            have W4hy0 := upW4 hy0
                            have W4hy1 := upW4 hy1
                            have W4hy2 := upW4 hy2
                            have W4hy3 := upW4 hy3
                            have W4z := (B4.block gb217 (blk_lt hz)).trans hz
                            have W4t := (B4.block gb226 (blk_lt ht)).trans ht
                            have W4z2 : W4.cell? ⟨gb217, 2, none⟩ = some (.slice (some ad) t213.length co21) := (blk_cell W4z 2).trans rfl
                            have W4t2 : W4.cell? ⟨gb226, 2, none⟩ = some (.slice (some ae) t222.length co27) := (blk_cell W4t 2).trans rfl
                            have W4zf := blk_frozen W4z 2
                            have W4tf := blk_frozen W4t 2
                            clear upW4 W4z W4t
                            have W4o0 := cell_of_blk k4 0 _ rfl
                            have W4o1 := cell_of_blk k4 1 _ rfl
                            have W4o2 := cell_of_blk k4 2 _ rfl
                            have W4o3 := cell_of_blk k4 3 _ rfl
                            have W4of := blk_frozen k4
                            have hfin : Below WCx.heap.size WCx W4 := HBk.out.trans (B4.mono HBk.out.size)
                            have HF := Aside0.mk hfin
                            clear hfin B1 B2 B3 k1 k2 k3_ B4 k4 upC hz ht
                            by_cases c46 : (!((n.f0) == 1) || (!((n.f1) == (m.f1)) || (!((n.f2) == (m.f3)) || (!((n.f3) == (m.f2)))))) = true
                            · rw [if_pos c46] at H
                              exact absurd ((Option.some.inj H).trans hr) (by decide)
                            · rw [if_neg c46] at H
                              have c46b0 : (!((n.f0) == 1) || (!((n.f1) == (m.f1)) || (!((n.f2) == (m.f3)) || (!((n.f3) == (m.f2)))))) = false := by simpa using c46
                              clear c46
                              have H' := Aside0.mk H
                              clear H
                              go_wp2
                              repeat (go_quiet (fail); try go_wp2)
                              go_roundg k3
                              case measure => have := HJ5.out; have := HJ15.out; have := HK3.out; omega
                              case rel => exact ⟨(wrap64 (x11_3 + 1)), (by first | rfl | (simp; done) | (simp [*]; done)), H', ⟨by have := HJ5.out; have := HJ15.out; have := HK3.out; omega⟩, ⟨by repeat (first | exact HF.out | apply pw_below_drewN)⟩⟩
                          · rw [if_neg c63] at H
                            have c63b0 : ((m.f0) == 2) = false := beq_eq_false_iff_ne.mpr c63
                            have c63b1 : ((m.f0) != 2) = true := bne_iff_ne.mpr c63
                            clear c63
                            have hfin : Below WCx.heap.size WCx W3 := HBk.out.trans (B3.mono HBk.out.size)
                            have HF := Aside0.mk hfin
                            clear hfin B1 B2 B3 k1 k2 k3_ upC hz ht
                            by_cases c46 : (!((n.f0) == m.f0) || (!((n.f1) == (m.f1)) || (!((n.f2) == (m.f3)) || (!((n.f3) == (m.f2)))))) = true
                            · rw [if_pos c46] at H
                              exact absurd ((Option.some.inj H).trans hr) (by decide)
                            · rw [if_neg c46] at H
                              have c46b0 : (!((n.f0) == m.f0) || (!((n.f1) == (m.f1)) || (!((n.f2) == (m.f3)) || (!((n.f3) == (m.f2)))))) = false := by simpa using c46
                              clear c46
                              have H' := Aside0.mk H
                              clear H
                              go_wp2
                              repeat (go_quiet (fail); try go_wp2)
                              go_roundg k3
                              case measure => have := HJ5.out; have := HJ15.out; have := HK3.out; omega
                              case rel => exact ⟨(wrap64 (x11_3 + 1)), (by first | rfl | (simp; done) | (simp [*]; done)), H', ⟨by have := HJ5.out; have := HJ15.out; have := HK3.out; omega⟩, ⟨by repeat (first | exact HF.out | apply pw_below_drewN)⟩⟩
                      · rw [if_neg c43] at H
                        exact absurd H (by simp)
                    · rw [if_neg c42] at H
                      have C42 : decide (x11_3 < (t213.length : Int)) = false := decide_eq_false c42
                      have D42 := eq_false c42
                      obtain rfl := Option.some.inj H
                      have wz2 : wr.cell? ⟨gb217, 2, none⟩ = some (.slice Ao21 t213.length co21) := (blk_cell hz 2).trans rfl
                      have wzf := blk_frozen hz 2
                      have HF := Aside0.mk (hB0.trans (HBk.out.mono hB0.size))
                      clear hz ht hB0 hS hT
                      go_wp2
                      repeat (go_quiet (fail); try go_wp2)
                      go_ret
                      exact ⟨by first | rfl | (simp [errW_none, errW_some] <;> rfl) | (simp [*, errW_none, errW_some] <;> rfl), HF.out⟩
  · replace c5 := Bool.eq_false_iff.mpr c5
    subst c5
    have H1 : (some false) = some r := by rw [if_neg (show ¬ (false = true) by decide)] at H; exact H
    clear H
    have H := H1
    clear H1
    exact absurd ((Option.some.inj H).trans hr) (by decide)

end Go.Proofs.Ytggdanifobagpaa.Q
