/- Mismatch; the parts of Match. -/
import Derived.Test.YtggdanifobagpaaESum
import Derived.Test.YtggdanifobagpaaESort
import Derived.Test.YtggdanifobagpaaEAdd
import Derived.Control
namespace Go.Proofs.Ytggdanifobagpaa.Ext
set_option linter.unusedVariables false
set_option linter.unusedSimpArgs false
open Go.RowKit Go.Lib Go.Proofs.Ytggdanifobagpaa.Q Go.Proofs.YtggdanifobagpaaW.PrintWords

/-- The kind of a leg's mismatch, or 0: d: the durations' difference; b: one of the two is duplicated. -/
def misK (d tol : Int) (b : Bool) (rx ry : List Int) : Int :=
  if ry.length = 0 then 1 else if rx.length = 0 then 2 else if b = true then 5 else if tol < max d (-d) then 3 else if (rx == ry) = false then 4 else 0

theorem cells_ints {W : World} {base n : Nat} {v : Value} {zs : List Int} (h : W.ownsRow base 3 1 v n (zs.map encI64)) (hn : 0 < n) : ∃ g c, v = .slice (some ⟨g, 0, none⟩) n c ∧ n = zs.length ∧ ∀ j, j < zs.length → W.cell? ⟨g, 0 + j, none⟩ = some (.int .i64 (zs.getD j 0)) := by
  have hl : n = zs.length := by have := h.1; simpa using this.symm
  rcases h.2 with ⟨_, h0⟩ | ⟨g, cap, cur, rfl, hb, hg, h1, h2, h3, h4⟩
  · omega
  · refine ⟨g, cap, rfl, hl, fun j hj => ?_⟩
    have hc := h.cells (g := g) rfl j (encI64 (zs.getD j 0)) (by
      rw [List.getElem?_map, List.getElem?_eq_getElem hj, List.getD_eq_getElem?_getD, List.getElem?_eq_getElem hj]; rfl)
    have e : (⟨g, 0, none⟩ : Addr).add j = ⟨g, 0 + j, none⟩ := by unfold Addr.add; split <;> simp_all
    rw [e] at hc
    exact hc

theorem below_grow2 (w : World) (o1 o2 : Obj) : Below w.heap.size w ((w.alloc o1).alloc o2) := ((Below.refl _ _).alloc (Nat.le_refl _) _).alloc (by simp) _

set_option maxRecDepth 100000 in
set_option maxHeartbeats 4000000 in
theorem mismatch_any (ux dx : Int) (bx : Bool) (vx : Value) (rx : List Int) (uy dy : Int) (by_ : Bool) (vy : Value) (ry : List Int) (tol : Int) (lo : Nat) (w : World)
    (hx : w.ownsRow lo 3 1 vx rx.length (rx.map encI64)) (hy : w.ownsRow lo 3 1 vy ry.length (ry.map encI64)) (hdx : 0 ≤ dx ∧ dx ≤ 4611686018427387904) (hdy : 0 ≤ dy ∧ dy ≤ 4611686018427387904) (hlx : rx.length ≤ 100000) (hly : ry.length ≤ 100000) :
    Calls Try.prog 37 #[.agg #[.int .i64 ux, .int .i64 dx, .bool bx, vx], .agg #[.int .i64 uy, .int .i64 dy, .bool by_, vy], .int .i64 tol] w fun e w' => e = .returned (.int .i64 (misK (dx - dy) tol (bx || by_) rx ry)) ∧ Below w.heap.size w w' := by
  have hw1 := wrap_id (dx - dy) (by omega) (by omega)
  have hw2 := wrap_id (-(dx - dy)) (by omega) (by omega)
  obtain ⟨px, cx, rfl⟩ := row_slice hx
  obtain ⟨py, cy, rfl⟩ := row_slice hy
  have hB := below_grow2 w (.cells #[.int .i64 ux, .int .i64 dx, .bool bx, .slice px rx.length cx] 68) (.cells #[.int .i64 uy, .int .i64 dy, .bool by_, .slice py ry.length cy] 68)
  unfold misK
  by_cases h1 : ry.length = 0
  · rw [if_pos h1]
    have HB := Lib.hid hB
    rw [h1] at HB ⊢
    clear hB hx hy hdx hdy
    go_enter Try.func37, Try.ntmps37
    go_wp2
    go_ret
    exact ⟨rfl, HB.out⟩
  · rw [if_neg h1]
    obtain ⟨gy, cy', ey, _, hcy⟩ := cells_ints hy (by omega)
    simp only [Value.slice.injEq] at ey
    obtain ⟨rfl, _, rfl⟩ := ey
    have n1 : decide (ry.length = 0) = false := decide_eq_false h1
    have n1' : decide ((ry.length : Int) = 0) = false := decide_eq_false (by omega)
    by_cases h2 : rx.length = 0
    · rw [if_pos h2]
      have HB := Lib.hid hB
      rw [h2] at HB ⊢
      clear hB hx hy hdx hdy hcy
      go_enter Try.func37, Try.ntmps37
      go_wp2
      go_ret
      exact ⟨rfl, HB.out⟩
    · rw [if_neg h2]
      obtain ⟨gx, cx', ex, _, hcx⟩ := cells_ints hx (by omega)
      simp only [Value.slice.injEq] at ex
      obtain ⟨rfl, _, rfl⟩ := ex
      have n2 : decide (rx.length = 0) = false := decide_eq_false h2
      have n2' : decide ((rx.length : Int) = 0) = false := decide_eq_false (by omega)
      have heq := fun W' (hb : Below w.heap.size w W') => Try.slices_Equal_int gx 0 rx.length cx gy 0 ry.length cy rx ry W' (Nat.le_refl _) (Nat.le_refl _) (by omega) (by omega) (fun j hj => (hb.cell (World.block_lt_of_cell? _ _ (hcx j hj))).trans (hcx j hj)) (fun j hj => (hb.cell (World.block_lt_of_cell? _ _ (hcy j hj))).trans (hcy j hj))
      have heq1 := heq _ hB
      rw [List.take_length, List.take_length] at heq1
      have HB := Lib.hid hB
      clear hB hx hy hdx hdy hcx hcy heq
      cases bx
      · cases by_
        · rw [if_neg (by simp)]
          by_cases h3 : tol < max (dx - dy) (-(dx - dy))
          · rw [if_pos h3]
            have n3 : decide (tol < max (dx - dy) (-(dx - dy))) = true := decide_eq_true h3
            clear heq1
            go_enter Try.func37, Try.ntmps37
            go_wp2
            go_ret
            exact ⟨rfl, HB.out⟩
          · rw [if_neg h3]
            have n3 : decide (tol < max (dx - dy) (-(dx - dy))) = false := decide_eq_false h3
            generalize (rx == ry) = eq at heq1 ⊢
            cases eq
            · go_enter Try.func37, Try.ntmps37
              go_wp2_with (go_at_call 48; refine heq1.mono ?_; rintro e w' ⟨rfl, q, rfl⟩)
              go_ret
              exact ⟨rfl, pw_below_drewN HB.out q⟩
            · go_enter Try.func37, Try.ntmps37
              go_wp2_with (go_at_call 48; refine heq1.mono ?_; rintro e w' ⟨rfl, q, rfl⟩)
              go_ret
              exact ⟨rfl, pw_below_drewN HB.out q⟩
        · rw [if_pos (by simp)]
          clear heq1
          go_enter Try.func37, Try.ntmps37
          go_wp2
          go_ret
          exact ⟨rfl, HB.out⟩
      · rw [if_pos (by simp)]
        clear heq1
        go_enter Try.func37, Try.ntmps37
        go_wp2
        go_ret
        exact ⟨rfl, HB.out⟩
end Go.Proofs.Ytggdanifobagpaa.Ext
namespace Go.Proofs.Ytggdanifobagpaa.Ext
set_option linter.unusedVariables false
set_option linter.unusedSimpArgs false
open Go.RowKit Go.Lib Go.Proofs.Ytggdanifobagpaa.Q Go.Proofs.YtggdanifobagpaaW.PrintWords

/-- All loops of a piece of code, outer ones first. -/
def loops : Code → List Code
  | .loop c => .loop c :: loops c
  | .seq a b => loops a ++ loops b
  | .block _ c => loops c
  | .scope c => loops c
  | .cond _ a b => loops a ++ loops b
  | _ => []
noncomputable def lp (i : Nat) : Code := (((Try.f12.body.map loops).getD [])[i]?).getD .skip

def sumB (l : List S36) : Bool := (acc (l.mergeSort fun a b => decide (a.f4 ≤ b.f4))).b
def sumR (l : List S36) : List Int := Lib.compact ((l.mergeSort fun a b => decide (a.f4 ≤ b.f4)).map (·.f6))
/-- The kind of the mismatch of a leg, or 0. -/
def kindOf (tol : Int) (x y : List S36) : Int := misK (durOf x - durOf y) tol (sumB x || sumB y) (sumR x) (sumR y)
structure SetL where
  u : Int
  calls : List Int
  mis : List S38
def setStep (tol : Int) (L : LegsL) (s : SetL) (k : Key) : SetL :=
  if kindOf tol (L k false) (L k true) ≠ 0 then ⟨s.u, s.calls, s.mis ++ [⟨kindOf tol (L k false) (L k true), k.1, unitsOf (L k false), unitsOf (L k true)⟩]⟩
  else ⟨s.u + (if k.2 = 3 then -(min (unitsOf (L k false)) (unitsOf (L k true))) else min (unitsOf (L k false)) (unitsOf (L k true))), s.calls ++ [k.1], s.mis⟩
def setL (tol : Int) (L : LegsL) (ks : List Key) : SetL := ks.foldl (setStep tol L) ⟨0, [], []⟩
theorem setL_snoc (tol : Int) (L : LegsL) (ks : List Key) (k : Key) : setL tol L (ks ++ [k]) = setStep tol L (setL tol L ks) k := by simp [setL, List.foldl_append]
def cells38 (x : S38) : List Value := [.int .i64 x.f0, .int .i64 x.f1, .int .i64 x.f2, .int .i64 x.f3]

/-- The settlement in block S behind a list of keys. -/
structure SetAt (W0 : World) (s : SetL) (W : World) : Prop where
  blk : ∃ vc vm, W.heap[W0.heap.size]? = some (.cells #[.int .i64 (IntKind.i64.wrap s.u), vc, vm] 28 (0, 0)) ∧ W.ownsRow W0.heap.size 3 1 vc s.calls.length (s.calls.map encI64) ∧ W.ownsRow W0.heap.size 38 4 vm s.mis.length (s.mis.flatMap cells38)
  low : Below W0.heap.size W0 W
end Go.Proofs.Ytggdanifobagpaa.Ext
