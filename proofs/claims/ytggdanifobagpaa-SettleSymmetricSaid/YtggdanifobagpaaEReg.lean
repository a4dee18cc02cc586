/- The statement with two calls of summarize, in whatever order. -/
import Derived.Test.YtggdanifobagpaaEMisA
import Derived.OrdersHeld
namespace Go.Proofs.Ytggdanifobagpaa.Ext
set_option linter.unusedVariables false
set_option linter.unusedSimpArgs false
open Go.RowKit Go.Lib Go.Proofs.Ytggdanifobagpaa.Q Go.Proofs.YtggdanifobagpaaW.PrintWords

/-- The regions of a piece of code. -/
def regs : Code → List (Nat × Array Oper)
  | .region i o _ => [(i, o)]
  | .loop c => regs c
  | .seq a b => regs a ++ regs b
  | .block _ c => regs c
  | .scope c => regs c
  | .cond _ a b => regs a ++ regs b
  | _ => []
noncomputable def ops14 : Array Oper := ((((Try.f12.body.map regs).getD []).find? (fun x => x.1 == 14)).map (·.2)).getD #[]
noncomputable def o14 (i : Nat) : Oper := (ops14[i]?).getD ⟨none, .move (.tmp 0), 0, "", #[], none⟩

theorem ops14_size : ops14.size = 14 := by kernel_rfl
theorem ops14_nosel : Region.noSelect ops14 = true := by kernel_rfl
theorem o14_at0 : ops14[0]? = some (o14 0) := by kernel_rfl
theorem o14_at1 : ops14[1]? = some (o14 1) := by kernel_rfl
theorem o14_at2 : ops14[2]? = some (o14 2) := by kernel_rfl
theorem o14_at3 : ops14[3]? = some (o14 3) := by kernel_rfl
theorem o14_at4 : ops14[4]? = some (o14 4) := by kernel_rfl
theorem o14_at5 : ops14[5]? = some (o14 5) := by kernel_rfl
theorem o14_at6 : ops14[6]? = some (o14 6) := by kernel_rfl
theorem o14_at7 : ops14[7]? = some (o14 7) := by kernel_rfl
theorem o14_at8 : ops14[8]? = some (o14 8) := by kernel_rfl
theorem o14_at9 : ops14[9]? = some (o14 9) := by kernel_rfl
theorem o14_at10 : ops14[10]? = some (o14 10) := by kernel_rfl
theorem o14_at11 : ops14[11]? = some (o14 11) := by kernel_rfl
theorem o14_at12 : ops14[12]? = some (o14 12) := by kernel_rfl
theorem o14_at13 : ops14[13]? = some (o14 13) := by kernel_rfl
/-- An operation's parts that count here. -/
structure Is (o : Oper) (d : Option Tmp) (p : Op) : Prop where
  dst : o.dst = d
  op : o.op = p
  guard : o.guard = none
theorem is0 : Is (o14 0) (some 60) (.move (.tmp 9)) := ⟨by kernel_rfl, by kernel_rfl, by kernel_rfl⟩
theorem is1 : Is (o14 1) (some 61) (.load 59 (.tmp 13)) := ⟨by kernel_rfl, by kernel_rfl, by kernel_rfl⟩
theorem is2 : Is (o14 2) (some 62) (.lookup 53 (.tmp 60) (.tmp 61) false) := ⟨by kernel_rfl, by kernel_rfl, by kernel_rfl⟩
theorem is3 : Is (o14 3) (some 63) (.index 63 (.tmp 62) (.const (.int .i64 0))) := ⟨by kernel_rfl, by kernel_rfl, by kernel_rfl⟩
theorem is4 : Is (o14 4) (some 64) (.call { callee := .value (.func 36), args := #[.tmp 63], argTypes := #[22] }) := ⟨by kernel_rfl, by kernel_rfl, by kernel_rfl⟩
theorem is5 : Is (o14 5) (some 65) (.move (.tmp 9)) := ⟨by kernel_rfl, by kernel_rfl, by kernel_rfl⟩
theorem is6 : Is (o14 6) (some 66) (.load 59 (.tmp 13)) := ⟨by kernel_rfl, by kernel_rfl, by kernel_rfl⟩
theorem is7 : Is (o14 7) (some 67) (.lookup 53 (.tmp 65) (.tmp 66) false) := ⟨by kernel_rfl, by kernel_rfl, by kernel_rfl⟩
theorem is8 : Is (o14 8) (some 68) (.index 63 (.tmp 67) (.const (.int .i64 1))) := ⟨by kernel_rfl, by kernel_rfl, by kernel_rfl⟩
theorem is9 : Is (o14 9) (some 69) (.call { callee := .value (.func 36), args := #[.tmp 68], argTypes := #[22] }) := ⟨by kernel_rfl, by kernel_rfl, by kernel_rfl⟩
theorem is10 : Is (o14 10) (some 14) (.alloc 68) := ⟨by kernel_rfl, by kernel_rfl, by kernel_rfl⟩
theorem is11 : Is (o14 11) (some 15) (.alloc 68) := ⟨by kernel_rfl, by kernel_rfl, by kernel_rfl⟩
theorem is12 : Is (o14 12) none (.store 68 (.tmp 14) (.tmp 64)) := ⟨by kernel_rfl, by kernel_rfl, by kernel_rfl⟩
theorem is13 : Is (o14 13) none (.store 68 (.tmp 15) (.tmp 69)) := ⟨by kernel_rfl, by kernel_rfl, by kernel_rfl⟩

/-! ### frames: only these slots are written -/
def slots14 : List Nat := [14, 15, 60, 61, 62, 63, 64, 65, 66, 67, 68, 69]
structure Fr (a0 a : Act) : Prop where
  size : a.tmps.size = a0.tmps.size
  out : ∀ t, t ∉ slots14 → a.tmps[t]? = a0.tmps[t]?
  defers : a.defers = a0.defers
theorem Fr.refl (a0 : Act) : Fr a0 a0 := ⟨rfl, fun _ _ => rfl, rfl⟩
theorem Fr.put {a0 a : Act} (h : Fr a0 a) {d : Nat} (hd : d ∈ slots14) (v : Value) : Fr a0 (a.put (some d) v) where
  size := by simp [Act.put, h.size]
  out := fun t ht => by
    have : d ≠ t := fun e => ht (e ▸ hd)
    simp [Act.put, Array.getElem?_setIfInBounds, this, h.out t ht]
  defers := h.defers
theorem eval_put_same {a : Act} {d : Nat} (h : d < a.tmps.size) (v : Value) : (a.put (some d) v).eval (.tmp d) = v := by
  simp [Act.put, Act.eval, h]
theorem eval_put_ne {a : Act} {d t : Nat} (h : d ≠ t) (v : Value) : (a.put (some d) v).eval (.tmp t) = a.eval (.tmp t) := by
  simp [Act.put, Act.eval, Array.getD_eq_getD_getElem?, Array.getElem?_setIfInBounds, h]
theorem put_none (a : Act) (v : Value) : a.put none v = a := rfl

section
variable {P : Program} {ops : Array Oper} {a : Act} {w : World} {S : World → Prop}
theorem yields_move {o : Oper} {d : Option Tmp} {x : Operand} (h : Is o d (.move x)) : YieldsIf P ops S o (a.eval x) a :=
  .inl ⟨by simp [Region.wanted, h.guard], fun w _ => by simp [execOp, h.op, Sem.run_pure]⟩
theorem yields_load {o : Oper} {d : Option Tmp} {t : TypeId} {x : Operand} {v : Value} (h : Is o d (.load t x)) (hr : ∀ w, S w → (Instr.loadAt t (a.eval x)).run P w = .ok v w) : YieldsIf P ops S o v a :=
  .inl ⟨by simp [Region.wanted, h.guard], fun w hS => by simp [execOp, h.op, Sem.run_bind, Sem.run_pure, hr w hS, Result.andThen]⟩
theorem yields_lookup {o : Oper} {d : Option Tmp} {t : TypeId} {x y : Operand} {v : Value} (h : Is o d (.lookup t x y false)) (hr : ∀ w, S w → (Instr.lookup t (a.eval x) (a.eval y) false).run P w = .ok v w) : YieldsIf P ops S o v a :=
  .inl ⟨by simp [Region.wanted, h.guard], fun w hS => by simp [execOp, h.op, Sem.run_bind, Sem.run_pure, hr w hS, Result.andThen]⟩
theorem yields_index {o : Oper} {d : Option Tmp} {t : TypeId} {x y : Operand} {v : Value} (h : Is o d (.index t x y)) (hr : ∀ w, S w → (Instr.index t (a.eval x) (a.eval y)).run P w = .ok v w) : YieldsIf P ops S o v a :=
  .inl ⟨by simp [Region.wanted, h.guard], fun w hS => by simp [execOp, h.op, Sem.run_bind, Sem.run_pure, hr w hS, Result.andThen]⟩
end

theorem loadAt_blk {P : Program} {W : World} {g : Nat} {cs : Array Value} {t : TypeId} {fs : Array Field} (hb : W.heap[g]? = some (.cells cs t (0, 0))) (hu : P.underlying t = some (.struct fs)) (hi : (P.info? t).map (·.size) = some cs.size) :
    (Instr.loadAt t (.pointer (some ⟨g, 0, none⟩))).run P W = .ok (.agg cs) W := by
  simp only [Instr.loadAt, Instr.sureAddr, Sem.run_bind, Sem.run_pure, Result.andThen]
  exact run_loadVar_row _ g t t cs (0, 0) _ hb hu rfl hi
theorem info59s : (Try.prog.info? 59).map (·.size) = some 2 := by kernel_rfl
theorem index63 (va vb : Value) (w : World) : (Instr.index 63 (.agg #[va, vb]) (.int .i64 0)).run Try.prog w = .ok va w ∧ (Instr.index 63 (.agg #[va, vb]) (.int .i64 1)).run Try.prog w = .ok vb w := by
  have hu := Try.underlying63
  have hz := Try.sizeOf22
  have ha := Try.isAgg22
  constructor
  · simp [Instr.index, run_underlying Try.underlying63, asIntOf, go_sem, part, hz, ha]
  · simp [Instr.index, run_underlying Try.underlying63, asIntOf, go_sem, part, hz, ha]

/-! ### the world between two operations -/
def Z68 : Array Value := #[.int .i64 0, .int .i64 0, .bool false, .slice none 0 0]
/-- x is the summary of l. -/
def Sm (lo : Nat) (l : List S36) (x : Value) (w : World) : Prop :=
  ∃ (ts : List S36) (vr : Value), ts.Perm l ∧ ts.Pairwise (fun a b => a.f4 ≤ b.f4) ∧ x = .agg #[.int .i64 (acc ts).u, .int .i64 (acc ts).d, .bool (acc ts).b, vr] ∧ w.ownsRow lo 3 1 vr (Lib.compact (acc ts).rs).length ((Lib.compact (acc ts).rs).map encI64)
/-- x points at a new variable of a summary's type. -/
def Zb (lo : Nat) (x : Value) (w : World) : Prop := ∃ g, x = .pointer (some ⟨g, 0, none⟩) ∧ lo ≤ g ∧ w.heap[g]? = some (.cells Z68 68 (0, 0))
theorem Sm.kept {lo : Nat} {l : List S36} {x : Value} {w w' : World} (h : Sm lo l x w) (hb : Below w.heap.size w w') : Sm lo l x w' := by
  obtain ⟨ts, vr, h1, h2, h3, h4⟩ := h
  exact ⟨ts, vr, h1, h2, h3, own_move h4 (fun k hk => hb.block k (h4.lt k hk).2)⟩
theorem Zb.kept {lo : Nat} {x : Value} {w w' : World} (h : Zb lo x w) (hb : Below w.heap.size w w') : Zb lo x w' := by
  obtain ⟨g, h1, h2, h3⟩ := h
  exact ⟨g, h1, h2, (hb.block g (Array.getElem?_eq_some_iff.1 h3).1).trans h3⟩
theorem Zb.lt {lo g : Nat} {w : World} (h : Zb lo (.pointer (some ⟨g, 0, none⟩)) w) : g < w.heap.size := by
  obtain ⟨g', h1, h2, h3⟩ := h
  cases h1
  exact (Array.getElem?_eq_some_iff.1 h3).1

structure In14 (W1 : World) (lx ly : List S36) (f4 f9 f10 f11 : Bool) (a0 a : Act) (w : World) (va vb : Value) : Prop where
  low : Below W1.heap.size W1 w
  fr : Fr a0 a
  t63 : a.eval (.tmp 63) = va
  t68 : a.eval (.tmp 68) = vb
  s64 : f4 = true → Sm W1.heap.size lx (a.eval (.tmp 64)) w
  s69 : f9 = true → Sm W1.heap.size ly (a.eval (.tmp 69)) w
  z14 : f10 = true → Zb W1.heap.size (a.eval (.tmp 14)) w
  z15 : f11 = true → Zb W1.heap.size (a.eval (.tmp 15)) w
  ne : f10 = true → f11 = true → a.eval (.tmp 14) ≠ a.eval (.tmp 15)

section
variable {W1 : World} {lx ly : List S36} {f4 f9 f10 f11 : Bool} {a0 a : Act} {w : World} {va vb : Value}
theorem In14.sz (h : In14 W1 lx ly f4 f9 f10 f11 a0 a w va vb) (h0 : a0.tmps.size = 113) : a.tmps.size = 113 := h.fr.size.trans h0

theorem In14.alloc14 (h : In14 W1 lx ly f4 f9 false f11 a0 a w va vb) (h0 : a0.tmps.size = 113) : In14 W1 lx ly f4 f9 true f11 a0 (a.put (some 14) (.pointer (some ⟨w.heap.size, 0, none⟩))) (w.alloc (.cells Z68 68)) va vb := by
  have hb : Below w.heap.size w (w.alloc (.cells Z68 68)) := (Below.refl _ _).alloc (Nat.le_refl _) _
  have hz := h.sz h0
  have e14 := eval_put_same (a := a) (d := 14) (by omega) (.pointer (some ⟨w.heap.size, 0, none⟩))
  refine ⟨h.low.alloc h.low.size _, h.fr.put (by decide) _, ?_, ?_, fun hf => ?_, fun hf => ?_, fun _ => ?_, fun hf => ?_, fun _ hf => ?_⟩
  · rw [eval_put_ne (by decide)]; exact h.t63
  · rw [eval_put_ne (by decide)]; exact h.t68
  · rw [eval_put_ne (by decide)]; exact (h.s64 hf).kept hb
  · rw [eval_put_ne (by decide)]; exact (h.s69 hf).kept hb
  · rw [e14]; exact ⟨_, rfl, h.low.size, heap_alloc_new w _⟩
  · rw [eval_put_ne (by decide)]; exact (h.z15 hf).kept hb
  · rw [e14, eval_put_ne (by decide)]
    obtain ⟨g, e, _, hg⟩ := h.z15 hf
    rw [e]
    intro e'
    have := (Array.getElem?_eq_some_iff.1 hg).1
    have e2 : w.heap.size = g := by injection e' with e1; injection e1 with e1; injection e1
    omega

theorem In14.alloc15 (h : In14 W1 lx ly f4 f9 f10 false a0 a w va vb) (h0 : a0.tmps.size = 113) : In14 W1 lx ly f4 f9 f10 true a0 (a.put (some 15) (.pointer (some ⟨w.heap.size, 0, none⟩))) (w.alloc (.cells Z68 68)) va vb := by
  have hb : Below w.heap.size w (w.alloc (.cells Z68 68)) := (Below.refl _ _).alloc (Nat.le_refl _) _
  have hz := h.sz h0
  have e15 := eval_put_same (a := a) (d := 15) (by omega) (.pointer (some ⟨w.heap.size, 0, none⟩))
  refine ⟨h.low.alloc h.low.size _, h.fr.put (by decide) _, ?_, ?_, fun hf => ?_, fun hf => ?_, fun hf => ?_, fun _ => ?_, fun hf _ => ?_⟩
  · rw [eval_put_ne (by decide)]; exact h.t63
  · rw [eval_put_ne (by decide)]; exact h.t68
  · rw [eval_put_ne (by decide)]; exact (h.s64 hf).kept hb
  · rw [eval_put_ne (by decide)]; exact (h.s69 hf).kept hb
  · rw [eval_put_ne (by decide)]; exact (h.z14 hf).kept hb
  · rw [e15]; exact ⟨_, rfl, h.low.size, heap_alloc_new w _⟩
  · rw [e15, eval_put_ne (by decide)]
    obtain ⟨g, e, _, hg⟩ := h.z14 hf
    rw [e]
    intro e'
    have := (Array.getElem?_eq_some_iff.1 hg).1
    have e2 : g = w.heap.size := by injection e' with e1; injection e1 with e1; injection e1
    omega

theorem In14.call64 (h : In14 W1 lx ly false f9 f10 f11 a0 a w va vb) (h0 : a0.tmps.size = 113) {x : Value} {w' : World} (hb : Below w.heap.size w w') (hx : Sm W1.heap.size lx x w') : In14 W1 lx ly true f9 f10 f11 a0 (a.put (some 64) x) w' va vb := by
  have hz := h.sz h0
  have e64 := eval_put_same (a := a) (d := 64) (by omega) x
  refine ⟨h.low.trans (hb.mono h.low.size), h.fr.put (by decide) _, ?_, ?_, fun _ => ?_, fun hf => ?_, fun hf => ?_, fun hf => ?_, fun h1 h2 => ?_⟩
  · rw [eval_put_ne (by decide)]; exact h.t63
  · rw [eval_put_ne (by decide)]; exact h.t68
  · rw [e64]; exact hx
  · rw [eval_put_ne (by decide)]; exact (h.s69 hf).kept hb
  · rw [eval_put_ne (by decide)]; exact (h.z14 hf).kept hb
  · rw [eval_put_ne (by decide)]; exact (h.z15 hf).kept hb
  · rw [eval_put_ne (by decide), eval_put_ne (by decide)]; exact h.ne h1 h2

theorem In14.call69 (h : In14 W1 lx ly f4 false f10 f11 a0 a w va vb) (h0 : a0.tmps.size = 113) {x : Value} {w' : World} (hb : Below w.heap.size w w') (hx : Sm W1.heap.size ly x w') : In14 W1 lx ly f4 true f10 f11 a0 (a.put (some 69) x) w' va vb := by
  have hz := h.sz h0
  have e69 := eval_put_same (a := a) (d := 69) (by omega) x
  refine ⟨h.low.trans (hb.mono h.low.size), h.fr.put (by decide) _, ?_, ?_, fun hf => ?_, fun _ => ?_, fun hf => ?_, fun hf => ?_, fun h1 h2 => ?_⟩
  · rw [eval_put_ne (by decide)]; exact h.t63
  · rw [eval_put_ne (by decide)]; exact h.t68
  · rw [eval_put_ne (by decide)]; exact (h.s64 hf).kept hb
  · rw [e69]; exact hx
  · rw [eval_put_ne (by decide)]; exact (h.z14 hf).kept hb
  · rw [eval_put_ne (by decide)]; exact (h.z15 hf).kept hb
  · rw [eval_put_ne (by decide), eval_put_ne (by decide)]; exact h.ne h1 h2

/-! ### one operation -/
variable {Q : Exit → Act → World → Prop} {K : Act → World → Prop}
theorem op_alloc {i : Nat} {d : Nat} (hi : ops14[i]? = some (o14 i)) (h : Is (o14 i) (some d) (.alloc 68)) (hK : K (a.put (some d) (.pointer (some ⟨w.heap.size, 0, none⟩))) (w.alloc (.cells Z68 68))) : wpOp Try.prog ops14 Q i K a w := by
  refine wpOp_step hi (fun K' hK' => ?_)
  rw [if_pos (by simp [Region.wanted, h.guard])]
  unfold Oper.wp execOp
  have hzv := Try.zeroValue68
  simp only [h.op]
  go_simp
  rw [h.dst]
  exact hK' _ _ hK
theorem func36_enters : ∀ args w, (callFunc 36 args).run Try.prog w = .ok (.enter 36 args) w := enters_of Try.func36 (by kernel_rfl) rfl
theorem op_call {i : Nat} {d t : Nat} (hi : ops14[i]? = some (o14 i)) (h : Is (o14 i) (some d) (.call { callee := .value (.func 36), args := #[.tmp t], argTypes := #[22] }))
    {R : Ending → World → Prop} (hC : Calls Try.prog 36 #[a.eval (.tmp t)] w R) (hK : ∀ e w', R e w' → ∃ v, e = .returned v ∧ K (a.put (some d) v) w') : wpOp Try.prog ops14 Q i K a w := by
  refine wpOp_step hi (fun K' hK' => ?_)
  rw [if_pos (by simp [Region.wanted, h.guard])]
  have hrun : (execOp a.eval (o14 i)).run Try.prog w = .ok (.enter 36 #[a.eval (.tmp t)]) w := by
    have h0 : #[a.eval (.tmp t)] = (#[Operand.tmp t]).map a.eval := by simp
    rw [h0]
    obtain ⟨args, hargs⟩ : ∃ args, (#[Operand.tmp t]).map a.eval = args := ⟨_, rfl⟩
    rw [hargs]
    have he := func36_enters args w
    unfold execOp
    simp [h.op, resolve, Deferred.ofValue, invoke, Act.eval, hargs, he]
  unfold Oper.wp
  rw [hrun, Oper.upon_enter]
  refine hC.mono ?_
  intro e w' hR
  obtain ⟨v, rfl, hk⟩ := hK e w' hR
  rw [h.dst]
  exact hK' _ _ hk

theorem op_store {i : Nat} {t u g : Nat} {cs : Array Value} (hi : ops14[i]? = some (o14 i)) (h : Is (o14 i) none (.store 68 (.tmp t) (.tmp u))) (ht : a.eval (.tmp t) = .pointer (some ⟨g, 0, none⟩)) (hu : a.eval (.tmp u) = .agg cs)
    (hb : w.heap[g]? = some (.cells Z68 68 (0, 0))) (hs : cs.size = 4) (h1 : cs.all (·.oneCell') = true) (hK : K a (w.setRow g cs)) : wpOp Try.prog ops14 Q i K a w := by
  refine wpOp_step hi (fun K' hK' => ?_)
  rw [if_pos (by simp [Region.wanted, h.guard])]
  have hrun : (execOp a.eval (o14 i)).run Try.prog w = .ok .skip (w.setRow g cs) := by
    have hst : (Instr.storeAt 68 (.pointer (some ⟨g, 0, none⟩)) (.agg cs)).run Try.prog w = .ok () (w.setRow g cs) := by
      simp only [Instr.storeAt, Instr.sureAddr, Sem.run_bind, Sem.run_pure, Result.andThen]
      exact run_storeVar_row w g 68 68 Z68 cs hb (by rw [info68s, hs]) (by rw [hs]; rfl) h1
    unfold execOp
    simp [h.op, ht, hu, hst, Result.andThen]
  unfold Oper.wp
  rw [hrun]
  show K' (a.put (o14 i).dst undef) _
  rw [h.dst]
  exact hK' _ _ hK
end
/-! ### the states -/

def LS (is : List Nat) : Array Bool := is.foldl (fun l i => l.setIfInBounds i true) (Array.replicate 14 false)

/-- Behind the region. -/
def Fin14 (W1 : World) (lx ly : List S36) (a0 a : Act) (w : World) : Prop :=
  Fr a0 a ∧ Below W1.heap.size W1 w ∧ ∃ g14 g15 cx cy, a.eval (.tmp 14) = .pointer (some ⟨g14, 0, none⟩) ∧ a.eval (.tmp 15) = .pointer (some ⟨g15, 0, none⟩) ∧ W1.heap.size ≤ g14 ∧ W1.heap.size ≤ g15 ∧
    w.heap[g14]? = some (.cells cx 68 (0, 0)) ∧ w.heap[g15]? = some (.cells cy 68 (0, 0)) ∧ Sm W1.heap.size lx (.agg cx) w ∧ Sm W1.heap.size ly (.agg cy) w

theorem setRow_heap_ne (w : World) (g : Nat) (cs : Array Value) (j : Nat) (h : j ≠ g) : (w.setRow g cs).heap[j]? = w.heap[j]? := by
  unfold World.setRow
  simp [Array.getElem?_modify, Ne.symm h]
theorem setRow_size (w : World) (g : Nat) (cs : Array Value) : (w.setRow g cs).heap.size = w.heap.size := by unfold World.setRow; simp
theorem below_setRow {n : Nat} {w w' : World} (h : Below n w w') {g : Nat} (hg : n ≤ g) (cs : Array Value) : Below n w (w'.setRow g cs) := by
  refine ⟨h.os, h.tape, h.output, by rw [setRow_size]; exact h.size, fun k hk => ?_⟩
  rw [setRow_heap_ne _ _ _ _ (by omega)]
  exact h.block k hk
theorem Sm.setRow {lo : Nat} {l : List S36} {x : Value} {w : World} (h : Sm lo l x w) {g : Nat} {old cs : Array Value} (hb : w.heap[g]? = some (.cells old 68 (0, 0))) : Sm lo l x (w.setRow g cs) := by
  obtain ⟨ts, vr, h1, h2, h3, h4⟩ := h
  refine ⟨ts, vr, h1, h2, h3, own_move h4 (fun k hk => setRow_heap_ne _ _ _ _ (fun e => ?_))⟩
  obtain ⟨cells, hc⟩ := own_typed h4 k hk
  rw [e, hb] at hc; cases hc
theorem Sm.agg {lo : Nat} {l : List S36} {x : Value} {w : World} (h : Sm lo l x w) : ∃ cs, x = .agg cs ∧ cs.size = 4 ∧ cs.all (·.oneCell') = true := by
  obtain ⟨ts, vr, h1, h2, h3, h4⟩ := h
  obtain ⟨q, c, rfl⟩ := row_slice h4
  exact ⟨_, h3, rfl, by simp [Value.oneCell']⟩

/-- The two stores at the end. -/
theorem stores14 {W1 : World} {lx ly : List S36} {a0 : Act} {va vb : Value} {Q : Exit → Act → World → Prop} (h0 : a0.tmps.size = 113)
    (hcx : ∀ w, Below W1.heap.size W1 w → Calls Try.prog 36 #[va] w fun e w' => ∃ x, e = .returned x ∧ Sm W1.heap.size lx x w' ∧ Below w.heap.size w w')
    (hcy : ∀ w, Below W1.heap.size W1 w → Calls Try.prog 36 #[vb] w fun e w' => ∃ x, e = .returned x ∧ Sm W1.heap.size ly x w' ∧ Below w.heap.size w w')
    (hQ : ∀ a w, Fin14 W1 lx ly a0 a w → Q .normal a w) (a : Act) (w : World) (h : In14 W1 lx ly true true true true a0 a w va vb) (fuel : Nat) : wpAnyH Try.prog .any ops14 Q (Below W1.heap.size W1) (fuel + 2) (LS [0, 1, 2, 3, 4, 5, 6, 7, 8, 9, 10, 11]) a w := by
  obtain ⟨g14, e14, l14, b14⟩ := h.z14 rfl
  obtain ⟨g15, e15, l15, b15⟩ := h.z15 rfl
  have hne : g14 ≠ g15 := fun e => h.ne rfl rfl (by rw [e14, e15, e])
  obtain ⟨cx, ex, sx, ox⟩ := (h.s64 rfl).agg
  obtain ⟨cy, ey, sy, oy⟩ := (h.s69 rfl).agg
  have hX := h.s64 rfl
  have hY := h.s69 rfl
  rw [ex] at hX
  rw [ey] at hY
  have hB1 := below_setRow h.low l14 cx
  have hB2 := below_setRow hB1 l15 cy
  have b15' : (w.setRow g14 cx).heap[g15]? = some (.cells Z68 68 (0, 0)) := (setRow_heap_ne _ _ _ _ (Ne.symm hne)).trans b15
  have hX1 := hX.setRow (cs := cx) b14
  have hY1 := hY.setRow (cs := cx) b14
  have hX2 := hX1.setRow (cs := cy) b15'
  have hY2 := hY1.setRow (cs := cy) b15'
  have f14 : ((w.setRow g14 cx).setRow g15 cy).heap[g14]? = some (.cells cx 68 (0, 0)) := (setRow_heap_ne _ _ _ _ hne).trans (setRow_heap w g14 Z68 cx 68 (0, 0) b14)
  have f15 : ((w.setRow g14 cx).setRow g15 cy).heap[g15]? = some (.cells cy 68 (0, 0)) := setRow_heap _ g15 Z68 cy 68 (0, 0) b15'
  refine wpAnyH_all (rs := [12]) (by kernel_rfl) (by simp) (fun i hi => ?_)
  obtain rfl : i = 12 := by simpa using hi
  refine op_store o14_at12 is12 e14 ex b14 sx ox ⟨hB1, ?_⟩
  have e1 : (LS [0, 1, 2, 3, 4, 5, 6, 7, 8, 9, 10, 11]).setIfInBounds 12 true = LS [0, 1, 2, 3, 4, 5, 6, 7, 8, 9, 10, 11, 12] := by kernel_rfl
  rw [e1]
  refine wpAnyH_all (rs := [13]) (by kernel_rfl) (by simp) (fun i hi => ?_)
  obtain rfl : i = 13 := by simpa using hi
  refine op_store o14_at13 is13 e15 ey b15' sy oy ⟨hB2, ?_⟩
  exact wpAnyH_done (by kernel_rfl) (hQ _ _ ⟨h.fr, hB2, g14, g15, cx, cy, e14, e15, l14, l15, f14, f15, hX2, hY2⟩) _

theorem st_4_9_10 {W1 : World} {lx ly : List S36} {a0 : Act} {va vb : Value} {Q : Exit → Act → World → Prop} (h0 : a0.tmps.size = 113)
    (hcx : ∀ w, Below W1.heap.size W1 w → Calls Try.prog 36 #[va] w fun e w' => ∃ x, e = .returned x ∧ Sm W1.heap.size lx x w' ∧ Below w.heap.size w w')
    (hcy : ∀ w, Below W1.heap.size W1 w → Calls Try.prog 36 #[vb] w fun e w' => ∃ x, e = .returned x ∧ Sm W1.heap.size ly x w' ∧ Below w.heap.size w w')
    (hQ : ∀ a w, Fin14 W1 lx ly a0 a w → Q .normal a w) (a : Act) (w : World) (h : In14 W1 lx ly true true true false a0 a w va vb) : wpAnyH Try.prog .any ops14 Q (Below W1.heap.size W1) 3 (LS [0, 1, 2, 3, 4, 5, 6, 7, 8, 9, 10]) a w := by
  refine wpAnyH_all (rs := [11]) (by kernel_rfl) (by simp) (fun i hi => ?_)
  have hi' : i = 11 := by simpa using hi
  obtain rfl := hi'
  have hn := h.alloc15 h0
  refine op_alloc o14_at11 is11 ⟨hn.low, ?_⟩
  have e1 : (LS [0, 1, 2, 3, 4, 5, 6, 7, 8, 9, 10]).setIfInBounds 11 true = LS [0, 1, 2, 3, 4, 5, 6, 7, 8, 9, 10, 11] := by kernel_rfl
  rw [e1]
  exact stores14 h0 hcx hcy hQ _ _ hn 0

theorem st_4_9_11 {W1 : World} {lx ly : List S36} {a0 : Act} {va vb : Value} {Q : Exit → Act → World → Prop} (h0 : a0.tmps.size = 113)
    (hcx : ∀ w, Below W1.heap.size W1 w → Calls Try.prog 36 #[va] w fun e w' => ∃ x, e = .returned x ∧ Sm W1.heap.size lx x w' ∧ Below w.heap.size w w')
    (hcy : ∀ w, Below W1.heap.size W1 w → Calls Try.prog 36 #[vb] w fun e w' => ∃ x, e = .returned x ∧ Sm W1.heap.size ly x w' ∧ Below w.heap.size w w')
    (hQ : ∀ a w, Fin14 W1 lx ly a0 a w → Q .normal a w) (a : Act) (w : World) (h : In14 W1 lx ly true true false true a0 a w va vb) : wpAnyH Try.prog .any ops14 Q (Below W1.heap.size W1) 3 (LS [0, 1, 2, 3, 4, 5, 6, 7, 8, 9, 11]) a w := by
  refine wpAnyH_all (rs := [10]) (by kernel_rfl) (by simp) (fun i hi => ?_)
  have hi' : i = 10 := by simpa using hi
  obtain rfl := hi'
  have hn := h.alloc14 h0
  refine op_alloc o14_at10 is10 ⟨hn.low, ?_⟩
  have e1 : (LS [0, 1, 2, 3, 4, 5, 6, 7, 8, 9, 11]).setIfInBounds 10 true = LS [0, 1, 2, 3, 4, 5, 6, 7, 8, 9, 10, 11] := by kernel_rfl
  rw [e1]
  exact stores14 h0 hcx hcy hQ _ _ hn 0

theorem st_4_10_11 {W1 : World} {lx ly : List S36} {a0 : Act} {va vb : Value} {Q : Exit → Act → World → Prop} (h0 : a0.tmps.size = 113)
    (hcx : ∀ w, Below W1.heap.size W1 w → Calls Try.prog 36 #[va] w fun e w' => ∃ x, e = .returned x ∧ Sm W1.heap.size lx x w' ∧ Below w.heap.size w w')
    (hcy : ∀ w, Below W1.heap.size W1 w → Calls Try.prog 36 #[vb] w fun e w' => ∃ x, e = .returned x ∧ Sm W1.heap.size ly x w' ∧ Below w.heap.size w w')
    (hQ : ∀ a w, Fin14 W1 lx ly a0 a w → Q .normal a w) (a : Act) (w : World) (h : In14 W1 lx ly true false true true a0 a w va vb) : wpAnyH Try.prog .any ops14 Q (Below W1.heap.size W1) 3 (LS [0, 1, 2, 3, 4, 5, 6, 7, 8, 10, 11]) a w := by
  refine wpAnyH_all (rs := [9]) (by kernel_rfl) (by simp) (fun i hi => ?_)
  have hi' : i = 9 := by simpa using hi
  obtain rfl := hi'
  refine op_call o14_at9 is9 (by rw [h.t68]; exact hcy w h.low) (fun e w' hR => ?_)
  obtain ⟨v, rfl, hs, hb⟩ := hR
  have hn := h.call69 h0 hb hs
  refine ⟨v, rfl, hn.low, ?_⟩
  have e1 : (LS [0, 1, 2, 3, 4, 5, 6, 7, 8, 10, 11]).setIfInBounds 9 true = LS [0, 1, 2, 3, 4, 5, 6, 7, 8, 9, 10, 11] := by kernel_rfl
  rw [e1]
  exact stores14 h0 hcx hcy hQ _ _ hn 0

theorem st_4_9 {W1 : World} {lx ly : List S36} {a0 : Act} {va vb : Value} {Q : Exit → Act → World → Prop} (h0 : a0.tmps.size = 113)
    (hcx : ∀ w, Below W1.heap.size W1 w → Calls Try.prog 36 #[va] w fun e w' => ∃ x, e = .returned x ∧ Sm W1.heap.size lx x w' ∧ Below w.heap.size w w')
    (hcy : ∀ w, Below W1.heap.size W1 w → Calls Try.prog 36 #[vb] w fun e w' => ∃ x, e = .returned x ∧ Sm W1.heap.size ly x w' ∧ Below w.heap.size w w')
    (hQ : ∀ a w, Fin14 W1 lx ly a0 a w → Q .normal a w) (a : Act) (w : World) (h : In14 W1 lx ly true true false false a0 a w va vb) : wpAnyH Try.prog .any ops14 Q (Below W1.heap.size W1) 4 (LS [0, 1, 2, 3, 4, 5, 6, 7, 8, 9]) a w := by
  refine wpAnyH_all (rs := [10, 11]) (by kernel_rfl) (by simp) (fun i hi => ?_)
  have hi' : i = 10 ∨ i = 11 := by simpa using hi
  rcases hi' with rfl | rfl
  · have hn := h.alloc14 h0
    refine op_alloc o14_at10 is10 ⟨hn.low, ?_⟩
    have e1 : (LS [0, 1, 2, 3, 4, 5, 6, 7, 8, 9]).setIfInBounds 10 true = LS [0, 1, 2, 3, 4, 5, 6, 7, 8, 9, 10] := by kernel_rfl
    rw [e1]
    exact st_4_9_10 h0 hcx hcy hQ _ _ hn
  · have hn := h.alloc15 h0
    refine op_alloc o14_at11 is11 ⟨hn.low, ?_⟩
    have e1 : (LS [0, 1, 2, 3, 4, 5, 6, 7, 8, 9]).setIfInBounds 11 true = LS [0, 1, 2, 3, 4, 5, 6, 7, 8, 9, 11] := by kernel_rfl
    rw [e1]
    exact st_4_9_11 h0 hcx hcy hQ _ _ hn

theorem st_4_10 {W1 : World} {lx ly : List S36} {a0 : Act} {va vb : Value} {Q : Exit → Act → World → Prop} (h0 : a0.tmps.size = 113)
    (hcx : ∀ w, Below W1.heap.size W1 w → Calls Try.prog 36 #[va] w fun e w' => ∃ x, e = .returned x ∧ Sm W1.heap.size lx x w' ∧ Below w.heap.size w w')
    (hcy : ∀ w, Below W1.heap.size W1 w → Calls Try.prog 36 #[vb] w fun e w' => ∃ x, e = .returned x ∧ Sm W1.heap.size ly x w' ∧ Below w.heap.size w w')
    (hQ : ∀ a w, Fin14 W1 lx ly a0 a w → Q .normal a w) (a : Act) (w : World) (h : In14 W1 lx ly true false true false a0 a w va vb) : wpAnyH Try.prog .any ops14 Q (Below W1.heap.size W1) 4 (LS [0, 1, 2, 3, 4, 5, 6, 7, 8, 10]) a w := by
  refine wpAnyH_all (rs := [9, 11]) (by kernel_rfl) (by simp) (fun i hi => ?_)
  have hi' : i = 9 ∨ i = 11 := by simpa using hi
  rcases hi' with rfl | rfl
  · refine op_call o14_at9 is9 (by rw [h.t68]; exact hcy w h.low) (fun e w' hR => ?_)
    obtain ⟨v, rfl, hs, hb⟩ := hR
    have hn := h.call69 h0 hb hs
    refine ⟨v, rfl, hn.low, ?_⟩
    have e1 : (LS [0, 1, 2, 3, 4, 5, 6, 7, 8, 10]).setIfInBounds 9 true = LS [0, 1, 2, 3, 4, 5, 6, 7, 8, 9, 10] := by kernel_rfl
    rw [e1]
    exact st_4_9_10 h0 hcx hcy hQ _ _ hn
  · have hn := h.alloc15 h0
    refine op_alloc o14_at11 is11 ⟨hn.low, ?_⟩
    have e1 : (LS [0, 1, 2, 3, 4, 5, 6, 7, 8, 10]).setIfInBounds 11 true = LS [0, 1, 2, 3, 4, 5, 6, 7, 8, 10, 11] := by kernel_rfl
    rw [e1]
    exact st_4_10_11 h0 hcx hcy hQ _ _ hn

theorem st_4_11 {W1 : World} {lx ly : List S36} {a0 : Act} {va vb : Value} {Q : Exit → Act → World → Prop} (h0 : a0.tmps.size = 113)
    (hcx : ∀ w, Below W1.heap.size W1 w → Calls Try.prog 36 #[va] w fun e w' => ∃ x, e = .returned x ∧ Sm W1.heap.size lx x w' ∧ Below w.heap.size w w')
    (hcy : ∀ w, Below W1.heap.size W1 w → Calls Try.prog 36 #[vb] w fun e w' => ∃ x, e = .returned x ∧ Sm W1.heap.size ly x w' ∧ Below w.heap.size w w')
    (hQ : ∀ a w, Fin14 W1 lx ly a0 a w → Q .normal a w) (a : Act) (w : World) (h : In14 W1 lx ly true false false true a0 a w va vb) : wpAnyH Try.prog .any ops14 Q (Below W1.heap.size W1) 4 (LS [0, 1, 2, 3, 4, 5, 6, 7, 8, 11]) a w := by
  refine wpAnyH_all (rs := [9, 10]) (by kernel_rfl) (by simp) (fun i hi => ?_)
  have hi' : i = 9 ∨ i = 10 := by simpa using hi
  rcases hi' with rfl | rfl
  · refine op_call o14_at9 is9 (by rw [h.t68]; exact hcy w h.low) (fun e w' hR => ?_)
    obtain ⟨v, rfl, hs, hb⟩ := hR
    have hn := h.call69 h0 hb hs
    refine ⟨v, rfl, hn.low, ?_⟩
    have e1 : (LS [0, 1, 2, 3, 4, 5, 6, 7, 8, 11]).setIfInBounds 9 true = LS [0, 1, 2, 3, 4, 5, 6, 7, 8, 9, 11] := by kernel_rfl
    rw [e1]
    exact st_4_9_11 h0 hcx hcy hQ _ _ hn
  · have hn := h.alloc14 h0
    refine op_alloc o14_at10 is10 ⟨hn.low, ?_⟩
    have e1 : (LS [0, 1, 2, 3, 4, 5, 6, 7, 8, 11]).setIfInBounds 10 true = LS [0, 1, 2, 3, 4, 5, 6, 7, 8, 10, 11] := by kernel_rfl
    rw [e1]
    exact st_4_10_11 h0 hcx hcy hQ _ _ hn

theorem st_10_11 {W1 : World} {lx ly : List S36} {a0 : Act} {va vb : Value} {Q : Exit → Act → World → Prop} (h0 : a0.tmps.size = 113)
    (hcx : ∀ w, Below W1.heap.size W1 w → Calls Try.prog 36 #[va] w fun e w' => ∃ x, e = .returned x ∧ Sm W1.heap.size lx x w' ∧ Below w.heap.size w w')
    (hcy : ∀ w, Below W1.heap.size W1 w → Calls Try.prog 36 #[vb] w fun e w' => ∃ x, e = .returned x ∧ Sm W1.heap.size ly x w' ∧ Below w.heap.size w w')
    (hQ : ∀ a w, Fin14 W1 lx ly a0 a w → Q .normal a w) (a : Act) (w : World) (h : In14 W1 lx ly false false true true a0 a w va vb) : wpAnyH Try.prog .any ops14 Q (Below W1.heap.size W1) 4 (LS [0, 1, 2, 3, 5, 6, 7, 8, 10, 11]) a w := by
  refine wpAnyH_all (rs := [4]) (by kernel_rfl) (by simp) (fun i hi => ?_)
  have hi' : i = 4 := by simpa using hi
  obtain rfl := hi'
  refine op_call o14_at4 is4 (by rw [h.t63]; exact hcx w h.low) (fun e w' hR => ?_)
  obtain ⟨v, rfl, hs, hb⟩ := hR
  have hn := h.call64 h0 hb hs
  refine ⟨v, rfl, hn.low, ?_⟩
  have e1 : (LS [0, 1, 2, 3, 5, 6, 7, 8, 10, 11]).setIfInBounds 4 true = LS [0, 1, 2, 3, 4, 5, 6, 7, 8, 10, 11] := by kernel_rfl
  rw [e1]
  exact st_4_10_11 h0 hcx hcy hQ _ _ hn

theorem st_4 {W1 : World} {lx ly : List S36} {a0 : Act} {va vb : Value} {Q : Exit → Act → World → Prop} (h0 : a0.tmps.size = 113)
    (hcx : ∀ w, Below W1.heap.size W1 w → Calls Try.prog 36 #[va] w fun e w' => ∃ x, e = .returned x ∧ Sm W1.heap.size lx x w' ∧ Below w.heap.size w w')
    (hcy : ∀ w, Below W1.heap.size W1 w → Calls Try.prog 36 #[vb] w fun e w' => ∃ x, e = .returned x ∧ Sm W1.heap.size ly x w' ∧ Below w.heap.size w w')
    (hQ : ∀ a w, Fin14 W1 lx ly a0 a w → Q .normal a w) (a : Act) (w : World) (h : In14 W1 lx ly true false false false a0 a w va vb) : wpAnyH Try.prog .any ops14 Q (Below W1.heap.size W1) 5 (LS [0, 1, 2, 3, 4, 5, 6, 7, 8]) a w := by
  refine wpAnyH_all (rs := [9, 10, 11]) (by kernel_rfl) (by simp) (fun i hi => ?_)
  have hi' : i = 9 ∨ i = 10 ∨ i = 11 := by simpa using hi
  rcases hi' with rfl | rfl | rfl
  · refine op_call o14_at9 is9 (by rw [h.t68]; exact hcy w h.low) (fun e w' hR => ?_)
    obtain ⟨v, rfl, hs, hb⟩ := hR
    have hn := h.call69 h0 hb hs
    refine ⟨v, rfl, hn.low, ?_⟩
    have e1 : (LS [0, 1, 2, 3, 4, 5, 6, 7, 8]).setIfInBounds 9 true = LS [0, 1, 2, 3, 4, 5, 6, 7, 8, 9] := by kernel_rfl
    rw [e1]
    exact st_4_9 h0 hcx hcy hQ _ _ hn
  · have hn := h.alloc14 h0
    refine op_alloc o14_at10 is10 ⟨hn.low, ?_⟩
    have e1 : (LS [0, 1, 2, 3, 4, 5, 6, 7, 8]).setIfInBounds 10 true = LS [0, 1, 2, 3, 4, 5, 6, 7, 8, 10] := by kernel_rfl
    rw [e1]
    exact st_4_10 h0 hcx hcy hQ _ _ hn
  · have hn := h.alloc15 h0
    refine op_alloc o14_at11 is11 ⟨hn.low, ?_⟩
    have e1 : (LS [0, 1, 2, 3, 4, 5, 6, 7, 8]).setIfInBounds 11 true = LS [0, 1, 2, 3, 4, 5, 6, 7, 8, 11] := by kernel_rfl
    rw [e1]
    exact st_4_11 h0 hcx hcy hQ _ _ hn

theorem st_10 {W1 : World} {lx ly : List S36} {a0 : Act} {va vb : Value} {Q : Exit → Act → World → Prop} (h0 : a0.tmps.size = 113)
    (hcx : ∀ w, Below W1.heap.size W1 w → Calls Try.prog 36 #[va] w fun e w' => ∃ x, e = .returned x ∧ Sm W1.heap.size lx x w' ∧ Below w.heap.size w w')
    (hcy : ∀ w, Below W1.heap.size W1 w → Calls Try.prog 36 #[vb] w fun e w' => ∃ x, e = .returned x ∧ Sm W1.heap.size ly x w' ∧ Below w.heap.size w w')
    (hQ : ∀ a w, Fin14 W1 lx ly a0 a w → Q .normal a w) (a : Act) (w : World) (h : In14 W1 lx ly false false true false a0 a w va vb) : wpAnyH Try.prog .any ops14 Q (Below W1.heap.size W1) 5 (LS [0, 1, 2, 3, 5, 6, 7, 8, 10]) a w := by
  refine wpAnyH_all (rs := [4, 11]) (by kernel_rfl) (by simp) (fun i hi => ?_)
  have hi' : i = 4 ∨ i = 11 := by simpa using hi
  rcases hi' with rfl | rfl
  · refine op_call o14_at4 is4 (by rw [h.t63]; exact hcx w h.low) (fun e w' hR => ?_)
    obtain ⟨v, rfl, hs, hb⟩ := hR
    have hn := h.call64 h0 hb hs
    refine ⟨v, rfl, hn.low, ?_⟩
    have e1 : (LS [0, 1, 2, 3, 5, 6, 7, 8, 10]).setIfInBounds 4 true = LS [0, 1, 2, 3, 4, 5, 6, 7, 8, 10] := by kernel_rfl
    rw [e1]
    exact st_4_10 h0 hcx hcy hQ _ _ hn
  · have hn := h.alloc15 h0
    refine op_alloc o14_at11 is11 ⟨hn.low, ?_⟩
    have e1 : (LS [0, 1, 2, 3, 5, 6, 7, 8, 10]).setIfInBounds 11 true = LS [0, 1, 2, 3, 5, 6, 7, 8, 10, 11] := by kernel_rfl
    rw [e1]
    exact st_10_11 h0 hcx hcy hQ _ _ hn

theorem st_11 {W1 : World} {lx ly : List S36} {a0 : Act} {va vb : Value} {Q : Exit → Act → World → Prop} (h0 : a0.tmps.size = 113)
    (hcx : ∀ w, Below W1.heap.size W1 w → Calls Try.prog 36 #[va] w fun e w' => ∃ x, e = .returned x ∧ Sm W1.heap.size lx x w' ∧ Below w.heap.size w w')
    (hcy : ∀ w, Below W1.heap.size W1 w → Calls Try.prog 36 #[vb] w fun e w' => ∃ x, e = .returned x ∧ Sm W1.heap.size ly x w' ∧ Below w.heap.size w w')
    (hQ : ∀ a w, Fin14 W1 lx ly a0 a w → Q .normal a w) (a : Act) (w : World) (h : In14 W1 lx ly false false false true a0 a w va vb) : wpAnyH Try.prog .any ops14 Q (Below W1.heap.size W1) 5 (LS [0, 1, 2, 3, 5, 6, 7, 8, 11]) a w := by
  refine wpAnyH_all (rs := [4, 10]) (by kernel_rfl) (by simp) (fun i hi => ?_)
  have hi' : i = 4 ∨ i = 10 := by simpa using hi
  rcases hi' with rfl | rfl
  · refine op_call o14_at4 is4 (by rw [h.t63]; exact hcx w h.low) (fun e w' hR => ?_)
    obtain ⟨v, rfl, hs, hb⟩ := hR
    have hn := h.call64 h0 hb hs
    refine ⟨v, rfl, hn.low, ?_⟩
    have e1 : (LS [0, 1, 2, 3, 5, 6, 7, 8, 11]).setIfInBounds 4 true = LS [0, 1, 2, 3, 4, 5, 6, 7, 8, 11] := by kernel_rfl
    rw [e1]
    exact st_4_11 h0 hcx hcy hQ _ _ hn
  · have hn := h.alloc14 h0
    refine op_alloc o14_at10 is10 ⟨hn.low, ?_⟩
    have e1 : (LS [0, 1, 2, 3, 5, 6, 7, 8, 11]).setIfInBounds 10 true = LS [0, 1, 2, 3, 5, 6, 7, 8, 10, 11] := by kernel_rfl
    rw [e1]
    exact st_10_11 h0 hcx hcy hQ _ _ hn

theorem st_ {W1 : World} {lx ly : List S36} {a0 : Act} {va vb : Value} {Q : Exit → Act → World → Prop} (h0 : a0.tmps.size = 113)
    (hcx : ∀ w, Below W1.heap.size W1 w → Calls Try.prog 36 #[va] w fun e w' => ∃ x, e = .returned x ∧ Sm W1.heap.size lx x w' ∧ Below w.heap.size w w')
    (hcy : ∀ w, Below W1.heap.size W1 w → Calls Try.prog 36 #[vb] w fun e w' => ∃ x, e = .returned x ∧ Sm W1.heap.size ly x w' ∧ Below w.heap.size w w')
    (hQ : ∀ a w, Fin14 W1 lx ly a0 a w → Q .normal a w) (a : Act) (w : World) (h : In14 W1 lx ly false false false false a0 a w va vb) : wpAnyH Try.prog .any ops14 Q (Below W1.heap.size W1) 6 (LS [0, 1, 2, 3, 5, 6, 7, 8]) a w := by
  refine wpAnyH_all (rs := [4, 10, 11]) (by kernel_rfl) (by simp) (fun i hi => ?_)
  have hi' : i = 4 ∨ i = 10 ∨ i = 11 := by simpa using hi
  rcases hi' with rfl | rfl | rfl
  · refine op_call o14_at4 is4 (by rw [h.t63]; exact hcx w h.low) (fun e w' hR => ?_)
    obtain ⟨v, rfl, hs, hb⟩ := hR
    have hn := h.call64 h0 hb hs
    refine ⟨v, rfl, hn.low, ?_⟩
    have e1 : (LS [0, 1, 2, 3, 5, 6, 7, 8]).setIfInBounds 4 true = LS [0, 1, 2, 3, 4, 5, 6, 7, 8] := by kernel_rfl
    rw [e1]
    exact st_4 h0 hcx hcy hQ _ _ hn
  · have hn := h.alloc14 h0
    refine op_alloc o14_at10 is10 ⟨hn.low, ?_⟩
    have e1 : (LS [0, 1, 2, 3, 5, 6, 7, 8]).setIfInBounds 10 true = LS [0, 1, 2, 3, 5, 6, 7, 8, 10] := by kernel_rfl
    rw [e1]
    exact st_10 h0 hcx hcy hQ _ _ hn
  · have hn := h.alloc15 h0
    refine op_alloc o14_at11 is11 ⟨hn.low, ?_⟩
    have e1 : (LS [0, 1, 2, 3, 5, 6, 7, 8]).setIfInBounds 11 true = LS [0, 1, 2, 3, 5, 6, 7, 8, 11] := by kernel_rfl
    rw [e1]
    exact st_11 h0 hcx hcy hQ _ _ hn

end Go.Proofs.Ytggdanifobagpaa.Ext
namespace Go.Proofs.Ytggdanifobagpaa.Ext
set_option linter.unusedVariables false
set_option linter.unusedSimpArgs false
open Go.RowKit Go.Lib Go.Proofs.Ytggdanifobagpaa.Q Go.Proofs.YtggdanifobagpaaW.PrintWords

theorem sum_call (W1 : World) (lo : Nat) (v : Value) (l : List S36) (hrow : W1.ownsRow lo 36 8 v l.length (l.flatMap cells36)) (hgood : ∀ r ∈ l, Good r) (hu : unitsOf l ≤ 1152921504606846976) (hlen : l.length ≤ 2048) (w : World) (hb : Below W1.heap.size W1 w) :
    Calls Try.prog 36 #[v] w fun e w' => ∃ x, e = .returned x ∧ Sm W1.heap.size l x w' ∧ Below w.heap.size w w' := by
  have hr : w.ownsRow lo 36 8 v l.length (l.flatMap cells36) := own_move hrow (fun k hk => hb.block k (hrow.lt k hk).2)
  refine (summarize_any lo v l w hr hgood hu hlen).mono ?_
  rintro e w' ⟨ts, vr, h1, h2, rfl, h4, h5⟩
  refine ⟨_, rfl, ⟨ts, vr, h1, h2, rfl, h4.1, h4.2.imp id ?_⟩, h5⟩
  rintro ⟨g, cap, cur, k1, k2, k3⟩
  exact ⟨g, cap, cur, k1, Nat.le_trans hb.size k2, k3⟩

theorem LS0 : Array.replicate 14 false = LS [] := rfl

set_option maxHeartbeats 2000000 in
theorem reg14 (a0 : Act) (W1 : World) (h0 : a0.tmps.size = 113) (lo b n kb : Nat) (L : LegsL) (D : DataW Value) (V : Key → Bool → Value) (q : Key) (h9 : a0.eval (.tmp 9) = .map (some b)) (h13 : a0.eval (.tmp 13) = .pointer (some ⟨kb, 0, none⟩))
    (hk : W1.heap[kb]? = some (.cells #[.int .i64 q.1, .int .i64 q.2] 59 (0, 0))) (hV : LegsV W1 lo b n L D V) (hq : KeyWf q) (hgood : ∀ c, ∀ r ∈ L q c, Good r) (hu : ∀ c, unitsOf (L q c) ≤ 1152921504606846976) (hlen : ∀ c, (L q c).length ≤ 2048) :
    (Code.region 14 ops14 true).wp Try.prog (OnEnd (Fin14 W1 (L q false) (L q true) a0)) a0 W1 := by
  have hcx := sum_call W1 lo (V q false) (L q false) (hV.row q false) (hgood false) (hu false) (hlen false)
  have hcy := sum_call W1 lo (V q true) (L q true) (hV.row q true) (hgood true) (hu true) (hlen true)
  have hload : ∀ w, Below W1.heap.size W1 w → (Instr.loadAt 59 (.pointer (some ⟨kb, 0, none⟩))).run Try.prog w = .ok (encKey q) w := fun w hb =>
    loadAt_blk ((hb.block kb (Array.getElem?_eq_some_iff.1 hk).1).trans hk) Try.underlying59 (by rw [info59s]; rfl)
  have hlook : ∀ w, Below W1.heap.size W1 w → (Instr.lookup 53 (.map (some b)) (encKey q) false).run Try.prog w = .ok (.agg #[V q false, V q true]) w := fun w hb => (hV.kept hb).look hq
  have hS : Below W1.heap.size W1 W1.drew := below_drew1 (Below.refl _ _)
  refine wp_region_held (S := Below W1.heap.size W1) (by kernel_rfl) ?_
  rw [ops14_size, LS0]
  change wpAnyH Try.prog .any ops14 _ _ 14 (LS []) a0 W1.drew
  -- 0: the map
  refine wpAnyH_take (i := 0) (oi := o14 0) (v := a0.eval (.tmp 9)) o14_at0 ops14_nosel (by kernel_rfl) (by kernel_rfl) (fun _ _ _ h => h) (yields_move is0) hS ?_
  rw [is0.dst, h9, show (LS []).setIfInBounds 0 true = LS [0] from by kernel_rfl]
  have s0 : (a0.put (some 60) (.map (some b))).tmps.size = 113 := by simp [Act.put, h0]
  have e60 : (a0.put (some 60) (.map (some b))).eval (.tmp 60) = .map (some b) := eval_put_same (by omega) _
  have e13 : (a0.put (some 60) (.map (some b))).eval (.tmp 13) = .pointer (some ⟨kb, 0, none⟩) := by rw [eval_put_ne (by decide)]; exact h13
  have e9 : (a0.put (some 60) (.map (some b))).eval (.tmp 9) = .map (some b) := by rw [eval_put_ne (by decide)]; exact h9
  have f1 : Fr a0 (a0.put (some 60) (.map (some b))) := (Fr.refl a0).put (by decide) _
  generalize a0.put (some 60) (.map (some b)) = a1 at *
  -- 1: the key
  refine wpAnyH_take (i := 1) (oi := o14 1) (v := encKey q) o14_at1 ops14_nosel (by kernel_rfl) (by kernel_rfl) (fun _ _ _ h => h) (yields_load is1 (fun w hb => by rw [e13]; exact hload w hb)) hS ?_
  rw [is1.dst, show (LS [0]).setIfInBounds 1 true = LS [0, 1] from by kernel_rfl]
  have s1 : (a1.put (some 61) (encKey q)).tmps.size = 113 := by simp [Act.put, s0]
  have d61 : (a1.put (some 61) (encKey q)).eval (.tmp 61) = encKey q := eval_put_same (by omega) _
  have d60 : (a1.put (some 61) (encKey q)).eval (.tmp 60) = .map (some b) := by rw [eval_put_ne (by decide)]; exact e60
  have d13 : (a1.put (some 61) (encKey q)).eval (.tmp 13) = .pointer (some ⟨kb, 0, none⟩) := by rw [eval_put_ne (by decide)]; exact e13
  have d9 : (a1.put (some 61) (encKey q)).eval (.tmp 9) = .map (some b) := by rw [eval_put_ne (by decide)]; exact e9
  have f2 := f1.put (d := 61) (by decide) (encKey q)
  generalize a1.put (some 61) (encKey q) = a2 at *
  clear e60 e13 e9 f1 s0
  -- 2: the look-up
  refine wpAnyH_take (i := 2) (oi := o14 2) (v := .agg #[V q false, V q true]) o14_at2 ops14_nosel (by kernel_rfl) (by kernel_rfl) (fun _ _ _ h => h) (yields_lookup is2 (fun w hb => by rw [d60, d61]; exact hlook w hb)) hS ?_
  rw [is2.dst, show (LS [0, 1]).setIfInBounds 2 true = LS [0, 1, 2] from by kernel_rfl]
  have s2 : (a2.put (some 62) (.agg #[V q false, V q true])).tmps.size = 113 := by simp [Act.put, s1]
  have e62 : (a2.put (some 62) (.agg #[V q false, V q true])).eval (.tmp 62) = .agg #[V q false, V q true] := eval_put_same (by omega) _
  have e13 : (a2.put (some 62) (.agg #[V q false, V q true])).eval (.tmp 13) = .pointer (some ⟨kb, 0, none⟩) := by rw [eval_put_ne (by decide)]; exact d13
  have e9 : (a2.put (some 62) (.agg #[V q false, V q true])).eval (.tmp 9) = .map (some b) := by rw [eval_put_ne (by decide)]; exact d9
  have f3 := f2.put (d := 62) (by decide) (.agg #[V q false, V q true])
  generalize a2.put (some 62) (.agg #[V q false, V q true]) = a3 at *
  clear d61 d60 d13 d9 f2 s1
  -- 3: the first slice
  refine wpAnyH_take (i := 3) (oi := o14 3) (v := V q false) o14_at3 ops14_nosel (by kernel_rfl) (by kernel_rfl) (fun _ _ _ h => h) (yields_index is3 (fun w hb => by rw [e62]; exact (index63 _ _ w).1)) hS ?_
  rw [is3.dst, show (LS [0, 1, 2]).setIfInBounds 3 true = LS [0, 1, 2, 3] from by kernel_rfl]
  have s3 : (a3.put (some 63) (V q false)).tmps.size = 113 := by simp [Act.put, s2]
  have d63 : (a3.put (some 63) (V q false)).eval (.tmp 63) = V q false := eval_put_same (by omega) _
  have d13 : (a3.put (some 63) (V q false)).eval (.tmp 13) = .pointer (some ⟨kb, 0, none⟩) := by rw [eval_put_ne (by decide)]; exact e13
  have d9 : (a3.put (some 63) (V q false)).eval (.tmp 9) = .map (some b) := by rw [eval_put_ne (by decide)]; exact e9
  have f4 := f3.put (d := 63) (by decide) (V q false)
  generalize a3.put (some 63) (V q false) = a4 at *
  clear e62 e13 e9 f3 s2
  -- 5: the map again
  refine wpAnyH_take (i := 5) (oi := o14 5) (v := a4.eval (.tmp 9)) o14_at5 ops14_nosel (by kernel_rfl) (by kernel_rfl) (fun _ _ _ h => h) (yields_move is5) hS ?_
  rw [is5.dst, d9, show (LS [0, 1, 2, 3]).setIfInBounds 5 true = LS [0, 1, 2, 3, 5] from by kernel_rfl]
  have s4 : (a4.put (some 65) (.map (some b))).tmps.size = 113 := by simp [Act.put, s3]
  have e65 : (a4.put (some 65) (.map (some b))).eval (.tmp 65) = .map (some b) := eval_put_same (by omega) _
  have e63 : (a4.put (some 65) (.map (some b))).eval (.tmp 63) = V q false := by rw [eval_put_ne (by decide)]; exact d63
  have e13 : (a4.put (some 65) (.map (some b))).eval (.tmp 13) = .pointer (some ⟨kb, 0, none⟩) := by rw [eval_put_ne (by decide)]; exact d13
  have f5 := f4.put (d := 65) (by decide) (.map (some b))
  generalize a4.put (some 65) (.map (some b)) = a5 at *
  clear d63 d13 d9 f4 s3
  -- 6: the key again
  refine wpAnyH_take (i := 6) (oi := o14 6) (v := encKey q) o14_at6 ops14_nosel (by kernel_rfl) (by kernel_rfl) (fun _ _ _ h => h) (yields_load is6 (fun w hb => by rw [e13]; exact hload w hb)) hS ?_
  rw [is6.dst, show (LS [0, 1, 2, 3, 5]).setIfInBounds 6 true = LS [0, 1, 2, 3, 5, 6] from by kernel_rfl]
  have s5 : (a5.put (some 66) (encKey q)).tmps.size = 113 := by simp [Act.put, s4]
  have d66 : (a5.put (some 66) (encKey q)).eval (.tmp 66) = encKey q := eval_put_same (by omega) _
  have d65 : (a5.put (some 66) (encKey q)).eval (.tmp 65) = .map (some b) := by rw [eval_put_ne (by decide)]; exact e65
  have d63 : (a5.put (some 66) (encKey q)).eval (.tmp 63) = V q false := by rw [eval_put_ne (by decide)]; exact e63
  have f6 := f5.put (d := 66) (by decide) (encKey q)
  generalize a5.put (some 66) (encKey q) = a6 at *
  clear e65 e63 e13 f5 s4
  -- 7: the second look-up
  refine wpAnyH_take (i := 7) (oi := o14 7) (v := .agg #[V q false, V q true]) o14_at7 ops14_nosel (by kernel_rfl) (by kernel_rfl) (fun _ _ _ h => h) (yields_lookup is7 (fun w hb => by rw [d65, d66]; exact hlook w hb)) hS ?_
  rw [is7.dst, show (LS [0, 1, 2, 3, 5, 6]).setIfInBounds 7 true = LS [0, 1, 2, 3, 5, 6, 7] from by kernel_rfl]
  have s6 : (a6.put (some 67) (.agg #[V q false, V q true])).tmps.size = 113 := by simp [Act.put, s5]
  have e67 : (a6.put (some 67) (.agg #[V q false, V q true])).eval (.tmp 67) = .agg #[V q false, V q true] := eval_put_same (by omega) _
  have e63 : (a6.put (some 67) (.agg #[V q false, V q true])).eval (.tmp 63) = V q false := by rw [eval_put_ne (by decide)]; exact d63
  have f7 := f6.put (d := 67) (by decide) (.agg #[V q false, V q true])
  generalize a6.put (some 67) (.agg #[V q false, V q true]) = a7 at *
  clear d66 d65 d63 f6 s5
  -- 8: the second slice
  refine wpAnyH_take (i := 8) (oi := o14 8) (v := V q true) o14_at8 ops14_nosel (by kernel_rfl) (by kernel_rfl) (fun _ _ _ h => h) (yields_index is8 (fun w hb => by rw [e67]; exact (index63 _ _ w).2)) hS ?_
  rw [is8.dst, show (LS [0, 1, 2, 3, 5, 6, 7]).setIfInBounds 8 true = LS [0, 1, 2, 3, 5, 6, 7, 8] from by kernel_rfl]
  have d68 : (a7.put (some 68) (V q true)).eval (.tmp 68) = V q true := eval_put_same (by omega) _
  have d63 : (a7.put (some 68) (V q true)).eval (.tmp 63) = V q false := by rw [eval_put_ne (by decide)]; exact e63
  have f8 := f7.put (d := 68) (by decide) (V q true)
  generalize a7.put (some 68) (V q true) = a8 at *
  exact st_ h0 hcx hcy (fun a w h => h) a8 W1.drew ⟨hS, f8, d63, d68, by simp, by simp, by simp, by simp, by simp⟩
end Go.Proofs.Ytggdanifobagpaa.Ext
namespace Go.Proofs.Ytggdanifobagpaa.Ext
set_option linter.unusedVariables false
set_option linter.unusedSimpArgs false
open Go.RowKit Go.Lib Go.Proofs.Ytggdanifobagpaa.Q Go.Proofs.YtggdanifobagpaaW.PrintWords

theorem blk_app {W w : World} {o : Obj} {v : Value} {base e size n g : Nat} {xs : List Value} {cs : Array Value} {t : TypeId} (hown : W.ownsRow base e size v n xs) (hg : (W.alloc o).grownBy w v.ownBlock) (hb : W.heap[g]? = some (.cells cs t (0, 0))) (ht : t ≠ e) : w.heap[g]? = some (.cells cs t (0, 0)) := by
  have hlt := (Array.getElem?_eq_some_iff.1 hb).1
  rw [hg.block g (by simp; omega) (fun e' => ?_), Below.heap_alloc _ _ _ hlt]
  · exact hb
  · obtain ⟨cells, hc⟩ := own_typed hown g e'.symm
    rw [hb] at hc
    exact ht (Obj.cells.inj (Option.some.inj hc)).2.1
theorem row_app {W w : World} {o : Obj} {v u : Value} {base e size n base' e' size' n' : Nat} {xs ys : List Value} (hown : W.ownsRow base e size v n xs) (hg : (W.alloc o).grownBy w v.ownBlock) (hu : W.ownsRow base' e' size' u n' ys) (ht : e' ≠ e) : w.ownsRow base' e' size' u n' ys :=
  own_move hu (fun k hk => by
    obtain ⟨cells, hc⟩ := own_typed hu k hk
    rw [blk_app hown hg hc ht, hc])
theorem blk_set {W : World} {S g i : Nat} {cs cs' : Array Value} {t t' : TypeId} {x : Value} (hS : W.heap[S]? = some (.cells cs t (0, 0))) (hb : W.heap[g]? = some (.cells cs' t' (0, 0))) (ht : t' ≠ t) : (W.setCell ⟨S, i, none⟩ x).heap[g]? = some (.cells cs' t' (0, 0)) := by
  have hne : g ≠ S := fun e => by
    rw [e, hS] at hb
    exact ht (Obj.cells.inj (Option.some.inj hb)).2.1.symm
  rw [Below.heap_setCell _ _ _ _ hne]
  exact hb
theorem row_set {W : World} {S i : Nat} {cs : Array Value} {t : TypeId} {x u : Value} {base e size n : Nat} {ys : List Value} (hS : W.heap[S]? = some (.cells cs t (0, 0))) (hu : W.ownsRow base e size u n ys) (ht : e ≠ t) : (W.setCell ⟨S, i, none⟩ x).ownsRow base e size u n ys :=
  own_move hu (fun k hk => by
    obtain ⟨cells, hc⟩ := own_typed hu k hk
    rw [blk_set hS hc ht, hc])
theorem below_app {W0 W w : World} {S : Nat} {o : Obj} {v : Value} {e size n : Nat} {xs : List Value} (h : Below S W0 W) (hown : W.ownsRow S e size v n xs) (hg : (W.alloc o).grownBy w v.ownBlock) (hle : S ≤ W.heap.size) : Below S W0 w :=
  (h.alloc hle o).grown hg (by simp; omega) (fun k hk => (hown.lt k hk).1)
theorem frozen_blk {W : World} {g : Nat} {cs : Array Value} {t : TypeId} (h : W.heap[g]? = some (.cells cs t (0, 0))) (i : Nat) : W.frozen? ⟨g, i, none⟩ = false := by simp [World.frozen?, h]

theorem fold_set (a : Act) : ∀ (ts : List Nat) (x : Array Value) (t : Nat), (∀ j ∈ ts, j < x.size) → (ts.foldl (fun x t => x.setIfInBounds t (a.eval (.tmp t))) x)[t]? = if t ∈ ts then some (a.eval (.tmp t)) else x[t]?
  | [], x, t, _ => by simp
  | j :: ts, x, t, h => by
    rw [List.foldl_cons, fold_set a ts _ t (fun k hk => by rw [Array.size_setIfInBounds]; exact h k (by simp [hk]))]
    by_cases h1 : t ∈ ts
    · simp [h1]
    · by_cases h2 : t = j
      · subst h2
        have := h t (by simp)
        simp [h1, this]
      · have h3 : ¬ j = t := fun e => h2 e.symm
        simp [h1, h2, Array.getElem?_setIfInBounds, h3]
theorem frame_of {a0 a : Act} (h : Fr a0 a) (hs : a0.tmps.size = 113) : a = ⟨slots14.foldl (fun x t => x.setIfInBounds t (a.eval (.tmp t))) a0.tmps, a0.defers⟩ := by
  have e : a.tmps = slots14.foldl (fun x t => x.setIfInBounds t (a.eval (.tmp t))) a0.tmps := by
    apply Array.ext_getElem?
    intro t
    have hb : ∀ j ∈ slots14, j < a0.tmps.size := by rw [hs]; decide
    rw [fold_set a slots14 a0.tmps t hb]
    by_cases ht : t ∈ slots14
    · rw [if_pos ht]
      have := hb t ht
      have h2 : t < a.tmps.size := by rw [h.size]; exact this
      simp [Act.eval, h2]
    · rw [if_neg ht]; exact h.out t ht
  obtain ⟨t, d⟩ := a
  have hd := h.defers
  simp only at e hd
  rw [← hd, ← e]

/-! ### the kind of a leg -/
theorem sorted_perm_unique {l m : List S36} (hp : l.Perm m) (hl : l.Pairwise (fun a b => a.f4 < b.f4)) (hm : m.Pairwise (fun a b => a.f4 < b.f4)) : l = m :=
  List.Perm.eq_of_pairwise (le := fun a b => a.f4 < b.f4) (fun a b _ _ h1 h2 => by omega) hl hm hp

/-- No two records overlap: whatever their order. -/
def ND (l : List S36) : Prop := l.Pairwise (fun a b => a.f5 ≤ b.f4 ∨ b.f5 ≤ a.f4)
theorem ND_perm {l m : List S36} (h : l.Perm m) : ND l ↔ ND m := h.pairwise_iff (fun {a b} h => h.symm)

theorem fold_b (ts : List S36) : ∀ (a : Acc), a.b = false → (ts.foldl accStep a).b = false → (∀ r ∈ ts, a.e ≤ r.f4) ∧ ts.Pairwise (fun x y => x.f5 ≤ y.f4) := by
  induction ts with
  | nil => intro a _ _; exact ⟨by simp, List.Pairwise.nil⟩
  | cons r ts ih =>
    intro a ha hb
    rw [List.foldl_cons] at hb
    have hstep : (accStep a r).b = false := by
      cases hc : (accStep a r).b
      · rfl
      · exfalso
        have mono : ∀ (us : List S36) (c : Acc), c.b = true → (us.foldl accStep c).b = true := by
          intro us
          induction us with
          | nil => intro c h; exact h
          | cons u us ih => intro c h; rw [List.foldl_cons]; exact ih _ (by simp [accStep, h])
        rw [mono ts _ hc] at hb
        cases hb
    obtain ⟨h1, h2⟩ := ih _ hstep hb
    simp only [accStep, ha, Bool.false_or, decide_eq_false_iff_not] at hstep h1
    refine ⟨?_, List.pairwise_cons.2 ⟨fun y hy => ?_, h2⟩⟩
    · intro x hx
      rcases List.mem_cons.1 hx with rfl | hx
      · omega
      · have := h1 x hx; omega
    · have := h1 y hy; omega
theorem fold_b_conv (ts : List S36) : ∀ (a : Acc), a.b = false → (∀ r ∈ ts, a.e ≤ r.f4) → ts.Pairwise (fun x y => x.f5 ≤ y.f4) → (ts.foldl accStep a).b = false := by
  induction ts with
  | nil => intro a h _ _; exact h
  | cons r ts ih =>
    intro a ha h1 h2
    rw [List.foldl_cons]
    obtain ⟨h3, h4⟩ := List.pairwise_cons.1 h2
    refine ih _ ?_ (fun x hx => ?_) h4
    · have := h1 r (by simp)
      simp only [accStep, ha, Bool.false_or, decide_eq_false_iff_not]; omega
    · have k1 := h1 x (by simp [hx])
      have k2 := h3 x hx
      simp only [accStep]; omega
theorem acc_b_iff (ts : List S36) (hg : ∀ r ∈ ts, Good r) : (acc ts).b = false ↔ ts.Pairwise (fun x y => x.f5 ≤ y.f4) :=
  ⟨fun h => (fold_b ts _ rfl h).2, fun h => fold_b_conv ts _ rfl (fun r hr => (hg r hr).2.1) h⟩
theorem pw_iff_ND {ts : List S36} (hs : ts.Pairwise (fun a b => a.f4 ≤ b.f4)) (hg : ∀ r ∈ ts, Good r) : ts.Pairwise (fun x y => x.f5 ≤ y.f4) ↔ ND ts := by
  constructor
  · intro h; exact h.imp (fun h => .inl h)
  · intro h
    refine (hs.and h).imp_of_mem ?_
    rintro a b ha hb ⟨h1, h2⟩
    have ga := hg a ha
    have gb := hg b hb
    unfold Good at ga gb
    rcases h2 with h2 | h2
    · exact h2
    · omega
theorem acc_b_ND {l ts : List S36} (hp : ts.Perm l) (hs : ts.Pairwise (fun a b => a.f4 ≤ b.f4)) (hg : ∀ r ∈ l, Good r) : (acc ts).b = false ↔ ND l := by
  have hgt : ∀ r ∈ ts, Good r := fun r hr => hg r (hp.mem_iff.1 hr)
  rw [acc_b_iff ts hgt, pw_iff_ND hs hgt, ND_perm hp]

abbrev sortF (l : List S36) : List S36 := l.mergeSort fun a b => decide (a.f4 ≤ b.f4)
theorem sortF_perm (l : List S36) : (sortF l).Perm l := List.mergeSort_perm _ _
theorem sortF_sorted (l : List S36) : (sortF l).Pairwise (fun a b => a.f4 ≤ b.f4) := by
  have := List.pairwise_mergeSort (le := fun a b : S36 => decide (a.f4 ≤ b.f4)) (fun a b c h1 h2 => by simp only [decide_eq_true_eq] at *; omega) (fun a b => by simp only [Bool.or_eq_true, decide_eq_true_eq]; omega) l
  exact this.imp (fun h => by simpa using h)
theorem sumB_ND {l : List S36} (hg : ∀ r ∈ l, Good r) : sumB l = false ↔ ND l := acc_b_ND (sortF_perm l) (sortF_sorted l) hg
theorem acc_b_eq {l ts : List S36} (hp : ts.Perm l) (hs : ts.Pairwise (fun a b => a.f4 ≤ b.f4)) (hg : ∀ r ∈ l, Good r) : (acc ts).b = sumB l := by
  have h1 := acc_b_ND hp hs hg
  have h2 := sumB_ND hg
  cases hb : (acc ts).b <;> cases hc : sumB l <;> simp_all
theorem ts_eq {l ts : List S36} (hp : ts.Perm l) (hs : ts.Pairwise (fun a b => a.f4 ≤ b.f4)) (hg : ∀ r ∈ l, Good r) (hb : sumB l = false) : ts = sortF l := by
  have key : ∀ (us : List S36), us.Perm l → us.Pairwise (fun a b => a.f4 ≤ b.f4) → us.Pairwise (fun a b => a.f4 < b.f4) := by
    intro us hpu hsu
    have hgu : ∀ r ∈ us, Good r := fun r hr => hg r (hpu.mem_iff.1 hr)
    have h1 := (pw_iff_ND hsu hgu).2 ((ND_perm hpu).2 ((sumB_ND hg).1 hb))
    refine h1.imp_of_mem ?_
    intro a b ha hb h
    have := hgu a ha
    unfold Good at this
    omega
  exact sorted_perm_unique (hp.trans (sortF_perm l).symm) (key ts hp hs) (key _ (sortF_perm l) (sortF_sorted l))

theorem compact_nil (zs : List Int) : (Lib.compact zs).length = 0 ↔ zs = [] := by
  constructor
  · intro h
    cases zs with
    | nil => rfl
    | cons z zs =>
      exfalso
      have hm : 0 ∈ (List.range (z :: zs).length).filter (Lib.keeps (z :: zs).toArray) := by
        rw [List.mem_filter]
        exact ⟨by simp, Lib.keeps_lt_one _ 0 (by omega)⟩
      have h0 : 0 < ((List.range (z :: zs).length).filter (Lib.keeps (z :: zs).toArray)).length := List.length_pos_of_mem hm
      unfold Lib.compact Lib.compactUpTo at h
      rw [List.length_map] at h
      omega
  · rintro rfl; rfl

theorem kind_eq {tol : Int} {lx ly tx ty : List S36} (hpx : tx.Perm lx) (hsx : tx.Pairwise (fun a b => a.f4 ≤ b.f4)) (hpy : ty.Perm ly) (hsy : ty.Pairwise (fun a b => a.f4 ≤ b.f4)) (hgx : ∀ r ∈ lx, Good r) (hgy : ∀ r ∈ ly, Good r) :
    misK ((acc tx).d - (acc ty).d) tol ((acc tx).b || (acc ty).b) (Lib.compact (acc tx).rs) (Lib.compact (acc ty).rs) = kindOf tol lx ly := by
  have e1 : (acc tx).d = durOf lx := by rw [acc_d]; exact dur_perm hpx
  have e2 : (acc ty).d = durOf ly := by rw [acc_d]; exact dur_perm hpy
  have e3 := acc_b_eq hpx hsx hgx
  have e4 := acc_b_eq hpy hsy hgy
  have n1 : (Lib.compact (acc tx).rs).length = 0 ↔ lx = [] := by
    rw [compact_nil, acc_rs, List.map_eq_nil_iff]
    exact ⟨fun h => by subst h; exact hpx.symm.eq_nil, fun h => by subst h; exact hpx.eq_nil⟩
  have n2 : (Lib.compact (acc ty).rs).length = 0 ↔ ly = [] := by
    rw [compact_nil, acc_rs, List.map_eq_nil_iff]
    exact ⟨fun h => by subst h; exact hpy.symm.eq_nil, fun h => by subst h; exact hpy.eq_nil⟩
  have m1 : (sumR lx).length = 0 ↔ lx = [] := by
    unfold sumR
    rw [compact_nil, List.map_eq_nil_iff]
    exact ⟨fun h => by have h2 := (sortF_perm lx).symm; have h3 : sortF lx = [] := h; rw [h3] at h2; exact h2.eq_nil, fun h => by subst h; exact (sortF_perm []).eq_nil⟩
  have m2 : (sumR ly).length = 0 ↔ ly = [] := by
    unfold sumR
    rw [compact_nil, List.map_eq_nil_iff]
    exact ⟨fun h => by have h2 := (sortF_perm ly).symm; have h3 : sortF ly = [] := h; rw [h3] at h2; exact h2.eq_nil, fun h => by subst h; exact (sortF_perm []).eq_nil⟩
  unfold kindOf misK
  rw [e1, e2, e3, e4]
  by_cases hy : ly = []
  · rw [if_pos (n2.2 hy), if_pos (m2.2 hy)]
  · rw [if_neg (fun h => hy (n2.1 h)), if_neg (fun h => hy (m2.1 h))]
    by_cases hx : lx = []
    · rw [if_pos (n1.2 hx), if_pos (m1.2 hx)]
    · rw [if_neg (fun h => hx (n1.1 h)), if_neg (fun h => hx (m1.1 h))]
      by_cases hb : (sumB lx || sumB ly) = true
      · rw [if_pos hb, if_pos hb]
      · have hb' : sumB lx = false ∧ sumB ly = false := by simpa using hb
        have tx' := ts_eq hpx hsx hgx hb'.1
        have ty' := ts_eq hpy hsy hgy hb'.2
        rw [tx', ty', acc_rs, acc_rs]
        rfl
end Go.Proofs.Ytggdanifobagpaa.Ext
