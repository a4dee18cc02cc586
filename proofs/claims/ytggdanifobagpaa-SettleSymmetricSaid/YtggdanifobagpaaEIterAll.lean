/- Keys of two numbers, and the iterators over them. -/
import Derived.Test.YtggdanifobagpaaProg
import Derived.WideKeyArgs2
import Derived.DeepKeys4
import Derived.Maps.Own
import Derived.Maps.OwnSet
import Derived.KernelRfl
import Derived.Shelf.Abstract
import Derived.Shelf.AbstractIn
import Derived.RangeFuncSeq
import Derived.RangeFuncGives
import Derived.RangeFuncBound
import Derived.Sort.MapsRangeIn
import Derived.WalkKit
import Derived.Deep.WholeRow
import Derived.OwnWalkIn
import Derived.TacticsInMore
import Derived.RegionIn
import Derived.LoopNIn
import Derived.LoopIn
import Derived.Shelf.SlIter.Collect
namespace Go.Proofs.Ytggdanifobagpaa.Ext
set_option linter.unusedVariables false
set_option linter.unusedSimpArgs false
open Go.RowKit Go.Maps Go.WideMaps

abbrev Key := Int × Int
def encKey (k : Key) : Value := .agg #[.int .i64 k.1, .int .i64 k.2]
def KeyWf (k : Key) : Prop := (Lit.int .i64 k.1).wf = true ∧ (Lit.int .i64 k.2).wf = true
def litKey (k : Key) : Lit := .string (keyBytes [.int .i64 k.1, .int .i64 k.2])

theorem Try_laidOut : laidOutB Try.prog = true := by kernel_rfl
theorem row59 : (59 : TypeId) < Try.prog.types.size := of_decide_eq_true (by kernel_rfl)
theorem cells59 : Try.prog.cellsOf 59 = 2 := by kernel_rfl
theorem cells3 : Try.prog.cellsOf 3 = 1 := by kernel_rfl
theorem wide59 : (match Try.prog.underlying 59 with | some (.array _ _) | some (.struct _) => true | _ => false) = true := by kernel_rfl
theorem keyType59 : Try.prog.keyType 59 = true := by kernel_rfl
set_option maxRecDepth 100000 in
theorem law59 : Keyed Try.prog 59 := Keyed.of_law (deep_law_laid Try_laidOut (m := 3) (by omega) row59 (by kernel_rfl) wide59)

theorem keyOf_encKey {k : Key} (h : KeyWf k) : keyOf Try.prog 59 (encKey k) = some (litKey k) := by
  obtain ⟨h1, h2⟩ := h
  obtain ⟨a, b⟩ := k
  have hf : (encKey (a, b)).formed Try.prog 59 = true := by
    simp [Value.formed, encKey, Try.underlying59, cells59]
  have hl : Try.prog.keyLits (Try.prog.types.size + 1) 59 (encKey (a, b)).cells.toList = some [.int .i64 a, .int .i64 b] := by
    have hs : ∃ n, Try.prog.types.size = n + 1 := ⟨_, (rfl : Try.prog.types.size = 128 + 1)⟩
    obtain ⟨n, hn⟩ := hs
    rw [hn]
    simp [Program.keyLits, Try.underlying59, encKey, Value.cells, cells59, cells3, Try.underlying3, h1, h2]
  unfold keyOf
  rw [Try.underlying59]
  simp only [keyType59, hf, hl, Bool.and_self, if_true, Option.map_some]
  rfl

theorem litKey_inj {k k' : Key} (h : KeyWf k) (h' : KeyWf k') (e : litKey k = litKey k') : k = k' := by
  have := law59.inj (keyOf_encKey h) (by rw [e]; exact keyOf_encKey h')
  simp [encKey] at this
  exact Prod.ext this.1 this.2

theorem key_of_lit {v : Value} {k : Key} (hk : KeyWf k) (h : keyOf Try.prog 59 v = some (litKey k)) : v = encKey k := law59.inj h (keyOf_encKey hk)

/-- An element of the map as it stands. -/
def rawElem (v : Value) : Option (DataW Value × List MemPlace) := some (.held v, [])
theorem litKey_isKey (k : Key) : WideAt.IsKeyLit (litKey k) := trivial
end Go.Proofs.Ytggdanifobagpaa.Ext
namespace Go.Proofs.Ytggdanifobagpaa.Ext
set_option linter.unusedVariables false
set_option linter.unusedSimpArgs false
open Go.RowKit Go.Maps Go.WideMaps Go.Shelf

/-- No key twice; a key is on the list just where the map has it and it is no longer to come. -/
def Coll (D0 : DataW Value) (left : Lit → Bool) (ss : List Key) : Prop := ss.Nodup ∧ (∀ k ∈ ss, KeyWf k) ∧ ∀ k, KeyWf k → (k ∈ ss ↔ (has D0 (litKey k) = true ∧ left (litKey k) = false))

theorem Coll.start (D0 : DataW Value) : Coll D0 (has D0) [] := ⟨List.nodup_nil, by simp, fun k _ => by cases has D0 (litKey k) <;> simp⟩

theorem Coll.step {D0 : DataW Value} {left : Lit → Bool} {ss : List Key} (h : Coll D0 left ss) {x : Key} (hx : KeyWf x) {y : DataW Value} (hlk : left (litKey x) = true) (hat : ∀ zd, D0.atKey (litKey x) zd = y) :
    Coll D0 (fun z => left z && !z.sameKey (litKey x)) (ss ++ [x]) := by
  have hhas : has D0 (litKey x) = true := has_true_of_atKey hat
  obtain ⟨h1, h2, h3⟩ := h
  have hnot : x ∉ ss := fun hm => by have := ((h3 x hx).1 hm).2; rw [hlk] at this; cases this
  refine ⟨?_, ?_, ?_⟩
  · rw [List.nodup_append]; refine ⟨h1, by simp, ?_⟩
    intro a ha b hb e
    simp at hb; subst hb; subst e; exact hnot ha
  · intro k hk
    rcases List.mem_append.1 hk with hk | hk
    · exact h2 k hk
    · simp at hk; subst hk; exact hx
  · intro k hk
    rw [List.mem_append, h3 k hk]
    by_cases e : k = x
    · subst e
      have hs : (litKey k).sameKey (litKey k) = true := WideAt.sameKey_self (litKey_isKey k)
      simp [hhas, hs]
    · have hs : (litKey k).sameKey (litKey x) = false := sameKey_ne (fun e' => e (litKey_inj hk hx e'))
      simp [e, hs]

/-- The keys of a map: each once. -/
def KeysAre (D0 : DataW Value) (ss : List Key) : Prop := ss.Nodup ∧ (∀ k ∈ ss, KeyWf k) ∧ ∀ k, KeyWf k → (k ∈ ss ↔ has D0 (litKey k) = true)

set_option maxRecDepth 100000 in
set_option maxHeartbeats 1000000 in
theorem keys_gives (m : Nat) (hn : 1 ≤ m) (Bm b nn : Nat) (D0 : DataW Value) (hks : ∀ kl, has D0 kl = true → ∃ k, KeyWf k ∧ kl = litKey k) (w : World) (hBm : Bm < w.heap.size)
    (hm : w.cell? ⟨Bm, 0, none⟩ = some (.map (some b))) (hown : w.ownsMap Try.prog 59 rawElem b nn D0) :
    SeqGives Fence.wide m Try.prog 42 #[.pointer (some ⟨Bm, 0, none⟩)] encKey (KeysAre D0) (Maps.size D0) w := fun l J W hW hJ hY h0 => by
  have hown' : W.ownsMap Try.prog 59 rawElem b nn D0 := by
    have hbl := hown.lt
    obtain ⟨es, clock, hb, Ft, hs, hD⟩ := hown
    exact ⟨es, clock, (hW.block b hbl).trans hb, Ft, hs, hD⟩
  have hm' : W.cell? ⟨Bm, 0, none⟩ = some (.map (some b)) := (hW.cell (p := ⟨Bm, 0, none⟩) hBm).trans hm
  clear hm hown hW hBm
  refine callsIn_of_wp Try.func42 rfl trivial ?_ rfl
  simp only [Try.ntmps42, List.size_toArray, List.length_cons, List.length_nil, Nat.reduceAdd, Nat.reduceSub, Array.replicate_succ, Array.replicate_zero, List.push_toArray, List.append_toArray, List.nil_append, List.cons_append]
  gi_wp2_with (first
    | (gi_at_range; refine wpListIn_range_own _ rfl _ 53 rfl 59 63 law59 Try.underlying53 _ b nn _ rfl hown' ?_; intro w0 hrg0 hg0 hs0)
    | gi_in)
  go_frame
  gi_loopw [3] (fun _ wr => ∃ (left : Lit → Bool) (cnt : Nat) (ss : List Key), wr.ranges Try.prog 59 rawElem b W.heap.size nn D0 left cnt ∧ ss.length + cnt ≤ Maps.size D0 ∧ Coll D0 left ss ∧ J ss wr)
    (fun _ wr => wr.rangeLeft b W.heap.size)
  case atStart =>
    exact ⟨_, _, [], hrg0, by simp, Coll.start D0, hJ [] W w0 none h0 hg0 (fun r e => by cases e)⟩
  case round =>
    obtain ⟨left, cnt, ss, hrg, hcs, hC, hJs⟩ := hrel
    gi_wp2_with (first
      | (gi_at_next; refine wpListIn_next_ranges _ rfl _ rfl 59 law59 rawElem (id : Value → Value) (id : Value → Value) (fun key kl hk => ⟨key, rfl⟩) (fun v _ _ => ⟨v, rfl⟩) b W.heap.size nn _ _ _ rfl hrg ?_ ?_)
      | gi_in)
    · intro hc0 hl0
      gi_wp2
      go_end0
      exact ⟨⟨_, rfl⟩, ss, ⟨hC.1, hC.2.1, fun k hk => by rw [hC.2.2 k hk, hl0]; simp⟩, hJs⟩
    · intro x c kl yd yp w2 cnt2 hkey hlk hv hat hrg2 hlt hg2 hs2 hen
      obtain ⟨k, hkw, rfl⟩ := hks kl (has_true_of_atKey hat)
      obtain rfl := key_of_lit hkw hkey
      have hJ2 : J ss w2 := hJ ss wr w2 (some W.heap.size) hJs hg2 (fun r e => by cases e; exact ⟨Nat.le_refl _, hrg.iter_walk⟩)
      have hJ3 : J ss (w2.alloc (.cells #[.int .i64 k.1, .int .i64 k.2] 59)) := hJ ss w2 _ none hJ2 (World.grownBy_alloc _ _ _) (fun r e => by cases e)
      have hrg3 : (w2.alloc (.cells #[.int .i64 k.1, .int .i64 k.2] 59)).ranges Try.prog 59 rawElem b W.heap.size nn D0 (fun z => left z && !z.sameKey (litKey k)) cnt2 := hrg2.of_walks (KeepsWalks.alloc _ _)
      obtain ⟨fn, tmps, assign, body, hy, hR⟩ := hY ss k _ hJ3 (by omega)
      have hst : ∀ (g : Nat) (w : World) (a b : Value), g = w.heap.size → a.oneCell' = true → b.oneCell' = true → (Instr.storeAt 59 (.pointer (some ⟨g, 0, none⟩)) (.agg #[a, b])).run Try.prog (w.alloc (.cells #[.int .i64 0, .int .i64 0] 59)) = .ok () (w.alloc (.cells #[a, b] 59)) := by
        intro g w a b hg ha hb
        subst hg
        exact run_storeAt_new w 59 _ _ (by rfl) rfl (by simp [ha, hb])
      clear hs2
      simp only [id, encKey] at hen hy ⊢
      gi_wp2
      refine hR.mono ?_
      rintro e W3 ⟨rfl, hJ3, hk3⟩
      gi_wp2
      have hrg3 := hrg3.of_walks hk3
      go_roundw
      case rel => exact ⟨_, cnt2, ss ++ [k], hrg3, by simp; omega, hC.step hkw hlk hat, hJ3⟩
      case measure => rw [hrg3.left_eq, hrg.left_eq]; exact hlt

set_option maxHeartbeats 1000000 in
/-- maps.Keys(m): the map is boxed; the function value captures the box. -/
theorem maps_Keys_in (m : Nat) (mb : Option Nat) (w : World) :
    CallsIn Fence.wide m Try.prog 32 #[.map mb] w fun e w' => e = .returned (.func (.func 42) #[] #[.pointer (some ⟨w.heap.size, 0, none⟩)]) ∧ w' = w.alloc (.cells #[.map mb] 53) := by
  refine callsIn_of_wp Try.func32 rfl trivial ?_ rfl
  simp only [Try.ntmps32, List.size_toArray, List.length_cons, List.length_nil, Nat.reduceAdd, Nat.reduceSub, Array.replicate_succ, Array.replicate_zero, List.push_toArray, List.append_toArray, List.nil_append, List.cons_append]
  gi_wp2
  go_ret
  exact ⟨rfl, rfl⟩
end Go.Proofs.Ytggdanifobagpaa.Ext
namespace Go.Proofs.Ytggdanifobagpaa.Ext
set_option linter.unusedVariables false
set_option linter.unusedSimpArgs false
open Go.RowKit Go.Maps Go.WideMaps Go.Shelf

def cellsKey (k : Key) : List Value := [.int .i64 k.1, .int .i64 k.2]
theorem cell_two_new (w : World) (x y : Value) (t : TypeId) : ∀ j u, [x, y][j]? = some u → (w.alloc (.cells #[x, y] t)).cell? ((⟨w.heap.size, 0, none⟩ : Addr).add j) = some u := by
  intro j u hj
  match j, hj with
  | 0, hj => simp at hj; subst hj; simp [Addr.add]
  | 1, hj => simp at hj; subst hj; simp [Addr.add]
theorem info59 : (Try.prog.info? 59).map (fun i => (i.zero, i.size, i.bytes)) = some (some (.agg #[.int .i64 0, .int .i64 0]), 2, 16) := by kernel_rfl
theorem store59 (g : Nat) (w : World) (a b : Value) (hg : g = w.heap.size) (ha : a.oneCell' = true) (hb : b.oneCell' = true) :
    (Instr.storeAt 59 (.pointer (some ⟨g, 0, none⟩)) (.agg #[a, b])).run Try.prog (w.alloc (.cells #[.int .i64 0, .int .i64 0] 59)) = .ok () (w.alloc (.cells #[a, b] 59)) := by
  subst hg
  exact run_storeAt_new w 59 _ _ (by kernel_rfl) rfl (by simp [ha, hb])

/-- The loop over a function in a piece of code: what it assigns, and its body. -/
def rangeOf : Code → Option (Code × Code)
  | .rangeFunc _ _ a b => some (a, b)
  | .seq a b => match rangeOf a with
    | some x => some x
    | none => rangeOf b
  | .block _ c => rangeOf c
  | .scope c => rangeOf c
  | .loop c => rangeOf c
  | _ => none
noncomputable def apAssign : Code := ((Try.f49.body.bind rangeOf).map (·.1)).getD .skip
noncomputable def apBody : Code := ((Try.f49.body.bind rangeOf).map (·.2)).getD .skip
noncomputable def apRec (fn : FuncId) (sv : Value) (Bs D : Nat) (st : LoopState) (pend : Option Code) : Loop :=
  { state := st, pending := pend, fn, tmps := #[.slice none 0 0, sv, .pointer (some ⟨Bs, 0, none⟩), undef, .slice none 0 0, undef, sv, undef, undef, undef, undef, undef, undef], params := #[7], assign := apAssign, body := apBody, defers := D }

structure ApAt (w0 : World) (fn : FuncId) (sv : Value) (Bs l D : Nat) (ss : List Key) (W : World) : Prop where
  box : ∃ v, W.heap[Bs]? = some (.cells #[v] 56 (0, 0)) ∧ W.ownsRow w0.heap.size 59 2 v ss.length (ss.flatMap cellsKey) ∧ (v = .slice none 0 0 ↔ ss = [])
  L : W.heap[l]? = some (.loop (apRec fn sv Bs D .ready none))
  K : W.heap[D]? = some (.deferred (some []))
  below : Below w0.heap.size w0 W

theorem ap_abides (w0 : World) (fn : FuncId) (sv : Value) (Bs l D B : Nat) (hB : w0.heap.size ≤ B) : AbidesFrom B (ApAt w0 fn sv Bs l D) := fun s W W' row h hg hrow => by
  have hrow' : ∀ r, row = some r → ∃ o : Obj, W.heap[r]? = some o ∧ o.isWalk = true := fun r e => (hrow r e).2
  obtain ⟨v, hv, hr, hn⟩ := h.box
  exact ⟨⟨v, (grownBy_keeps hg hrow' hv rfl).trans hv, ownsRow_abides_a hr hg hrow', hn⟩, (grownBy_keeps hg hrow' h.L rfl).trans h.L, (grownBy_keeps hg hrow' h.K rfl).trans h.K,
    h.below.grown hg h.below.size (fun k e => Nat.le_trans hB (hrow k e).1)⟩

theorem ne59 {cur : Array Value} {v : Value} : (Obj.cells #[v] 56 (0, 0)) ≠ .cells cur 59 (0, 0) := fun e => by have := (Obj.cells.inj e).2.1; cases this

set_option maxRecDepth 100000 in
set_option maxHeartbeats 2000000 in
theorem apYield (m : Nat) (w0 : World) (fn : FuncId) (hfn : Fence.wide.fn fn) (sv : Value) (Bs l D : Nat) (hBl : Bs ≠ l) (hDl : D ≠ l) (hDB : D ≠ Bs) (h0B : w0.heap.size ≤ Bs) (h0l : w0.heap.size ≤ l)
    (N : Nat) (hN : N ≤ maxLen) (hNb : N * 16 ≤ 140737488355328) (ss : List Key) (x : Key) (W : World) (h : ApAt w0 fn sv Bs l D ss W) (hlen : ss.length < N) :
    YieldAt Fence.wide m Try.prog l #[encKey x] W fun e W' => e = .returned (.bool true) ∧ ApAt w0 fn sv Bs l D (ss ++ [x]) W' ∧ KeepsWalks W W' := by
  have hst := store59
  obtain ⟨i0, hi, hz0, hz1, hz2⟩ := info_parts info59
  obtain ⟨v, hv, hrow, _⟩ := h.box
  refine ⟨fn, #[.slice none 0 0, sv, .pointer (some ⟨Bs, 0, none⟩), undef, .slice none 0 0, undef, sv, encKey x, undef, undef, undef, undef, undef], apAssign, apBody, by simpa [apRec] using run_yield (P := Try.prog) (args := #[encKey x]) h.L rfl, roundIn_of_wpIn hfn ?_⟩
  have hl0 : l < W.heap.size := (Array.getElem?_eq_some_iff.1 h.L).1
  obtain ⟨W1, hW1⟩ : ∃ W1, W.alloc (.cells #[.int .i64 x.1, .int .i64 x.2] 59) = W1 := ⟨_, rfl⟩
  have hold : ∀ j, j < W.heap.size → W1.heap[j]? = W.heap[j]? := fun j hj => by rw [← hW1]; exact Below.heap_alloc _ _ j hj
  have hsz1 : W1.heap.size = W.heap.size + 1 := by rw [← hW1]; simp
  have hL1 := (hold l hl0).trans h.L
  have hv1 := (hold Bs (Array.getElem?_eq_some_iff.1 hv).1).trans hv
  have hK1 := (hold D (Array.getElem?_eq_some_iff.1 h.K).1).trans h.K
  have hrow1 : W1.ownsRow w0.heap.size 59 2 v ss.length (ss.flatMap cellsKey) := by rw [← hW1]; exact hrow.alloc _
  have hb1 : Below w0.heap.size w0 W1 := by rw [← hW1]; exact h.below.alloc h.below.size _
  have hk1 : KeepsWalks W W1 := by rw [← hW1]; exact KeepsWalks.alloc _ _
  have hx0 : W1.cell? ⟨W.heap.size, 0, none⟩ = some (.int .i64 x.1) := by rw [← hW1]; simp
  have hx1 : W1.cell? ⟨W.heap.size, 1, none⟩ = some (.int .i64 x.2) := by rw [← hW1]; simp
  have hxl : W.heap.size < W1.heap.size := by omega
  have hne_xl : l ≠ W.heap.size := by omega
  have hl : l < W1.heap.size := (Array.getElem?_eq_some_iff.1 hL1).1
  have hbr := run_beginRound (P := Try.prog) hL1 rfl
  obtain ⟨W2, hW2⟩ : ∃ W2, W1.putObj l (.loop { apRec fn sv Bs D .ready none with state := .busy }) = W2 := ⟨_, rfl⟩
  rw [hW2] at hbr
  have hg2 : W1.grownBy W2 (some l) := by rw [← hW2]; exact grownBy_putObj_a _ _ _
  have hk2 : KeepsWalks W W2 := hk1.trans (by rw [← hW2]; exact KeepsWalks.putObj _ hL1 rfl)
  have hv2 : W2.heap[Bs]? = some (.cells #[v] 56 (0, 0)) := by rw [← hW2]; exact (World.putObj_heap_other hBl).trans hv1
  have hK2 : W2.heap[D]? = some (.deferred (some [])) := by rw [← hW2]; exact (World.putObj_heap_other hDl).trans hK1
  have hX : W2.heap[W.heap.size]? = W1.heap[W.heap.size]? := by rw [← hW2]; exact World.putObj_heap_other (Ne.symm hne_xl)
  have hX0 : W2.cell? ⟨W.heap.size, 0, none⟩ = some (.int .i64 x.1) := by rw [← hx0]; unfold World.cell?; rw [hX]
  have hX1 : W2.cell? ⟨W.heap.size, 1, none⟩ = some (.int .i64 x.2) := by rw [← hx1]; unfold World.cell?; rw [hX]
  have hL2 : W2.heap[l]? = some (.loop { apRec fn sv Bs D .ready none with state := .busy }) := by rw [← hW2]; exact World.putObj_heap_same hl
  have hrow2 : W2.ownsRow w0.heap.size 59 2 v ss.length (ss.flatMap cellsKey) := hrow1.kept hg2 (ownsRow_ne_a hrow1 hL1 (fun cur e => by cases e))
  have hb2 : Below w0.heap.size w0 W2 := hb1.grown hg2 hb1.size (fun k e => by cases e; exact h0l)
  obtain ⟨hc2, hf2⟩ := cell_of_box_a hv2
  have hBlt : Bs < W2.heap.size := (Array.getElem?_eq_some_iff.1 hv2).1
  have hl2 : l < W2.heap.size := (Array.getElem?_eq_some_iff.1 hL2).1
  have hDlt : D < W2.heap.size := (Array.getElem?_eq_some_iff.1 hK2).1
  have ne_of : ∀ {j : Nat} {o : Obj}, W2.heap[j]? = some o → (∀ cur, o ≠ .cells cur 59 (0, 0)) → some j ≠ v.ownBlock := fun hj hno => by
    rcases ownsRow_ne_a hrow2 hj hno with e | e
    · rw [e]; simp
    · exact fun e' => e e'.symm
  clear hW2
  unfold encKey
  conv => arg 4; whnf
  gi_wp2_with gi_round_op_a
  clear hW1
  conv => arg 4; whnf
  gi_wp2_with (first
    | (gi_at_builtin; refine wpListIn_append_own _ rfl _ _ 56 rfl w0.heap.size 59 i0 (.agg #[.int .i64 0, .int .i64 0]) 2 16 Try.underlying56 hi hz0 hz1 hz2 rfl (by decide) _ _ _ rfl (hrow2.alloc _) ⟨W2.heap.size, 0, none⟩ 1 1 (cellsKey x) rfl rfl (cell_two_new _ _ _ _) (by simp [Value.oneCell', cellsKey]) (by omega) (by omega) (by have := hb2.size; simp; omega) ?_; intro v' w3 hown' hg3 hnil3
       have hv3 : w3.heap[Bs]? = some (.cells #[v] 56 (0, 0)) := (hg3.block Bs (by simp; omega) (ne_of hv2 (fun cur => ne59))).trans ((Below.heap_alloc _ _ Bs hBlt).trans hv2)
       obtain ⟨hc3, hf3⟩ := cell_of_box_a hv3
       obtain ⟨g', cap', cur', rfl, hbase', hgb', hr1, hr2, hr3, hr4⟩ : ∃ g' cap' cur', v' = .slice (some ⟨g', 0, none⟩) (ss.length + 1) cap' ∧ w0.heap.size ≤ g' ∧ w3.heap[g']? = some (.cells cur' 59 (0, 0)) ∧ ss.length + 1 ≤ cap' ∧ cap' ≤ maxLen ∧ cur'.size = cap' * 2 ∧ cur'.toList.take ((ss.length + 1) * 2) = ss.flatMap cellsKey ++ cellsKey x := by
         rcases hown'.2 with ⟨_, h0⟩ | h'
         · exact absurd h0 (by omega)
         · exact h'
       go_frame)
    | gi_round_op_a)
  have hg3' : (W2.alloc (.cells #[.int .i64 x.1, .int .i64 x.2] 59)).grownBy w3 v.ownBlock := hg3
  have hL3 : w3.heap[l]? = some (.loop { apRec fn sv Bs D .ready none with state := .busy }) := (hg3'.block l (by simp; omega) (ne_of hL2 (fun cur e => by cases e))).trans ((Below.heap_alloc _ _ l hl2).trans hL2)
  have hK3 : w3.heap[D]? = some (.deferred (some [])) := (hg3'.block D (by simp; omega) (ne_of hK2 (fun cur e => by cases e))).trans ((Below.heap_alloc _ _ D hDlt).trans hK2)
  obtain ⟨w4, hw4⟩ : ∃ w4, w3.setCell ⟨Bs, 0, none⟩ (.slice (some ⟨g', 0, none⟩) (ss.length + 1) cap') = w4 := ⟨_, rfl⟩
  rw [hw4]
  have hg4 : w3.grownBy w4 (some Bs) := by rw [← hw4]; exact grownBy_setCell0_a _ _ _
  have hv4 : w4.heap[Bs]? = some (.cells #[.slice (some ⟨g', 0, none⟩) (ss.length + 1) cap'] 56 (0, 0)) := by rw [← hw4]; exact heap_setCell_box_a _ hv3
  have hL4 : w4.heap[l]? = some (.loop { apRec fn sv Bs D .ready none with state := .busy }) := (hg4.block l (Array.getElem?_eq_some_iff.1 hL3).1 (fun e => hBl (by cases e; rfl))).trans hL3
  have hK4 : w4.heap[D]? = some (.deferred (some [])) := (hg4.block D (Array.getElem?_eq_some_iff.1 hK3).1 (fun e => hDB (by cases e; rfl))).trans hK3
  have hrow4 := hown'.kept hg4 (ownsRow_ne_a hown' hv3 (fun cur => ne59))
  have hl4 : l < w4.heap.size := (Array.getElem?_eq_some_iff.1 hL4).1
  have hb3 : Below w0.heap.size w0 w3 := (hb2.alloc hb2.size _).grown hg3' (by have := hb2.size; simp; omega) (fun k e => (hrow2.lt k e).1)
  have hb4 : Below w0.heap.size w0 w4 := hb3.grown hg4 hb3.size (fun k e => by cases e; exact h0B)
  have hk4 : KeepsWalks W w4 := ((hk2.trans (KeepsWalks.alloc _ _)).trans (KeepsWalks.of_grownBy hg3' (ownsRow_not_walk_a (hrow2.alloc _)))).trans (by rw [← hw4]; exact KeepsWalks.setCell _ _ _)
  clear hw4
  refine ⟨_, _, run_endRound none hL4, rfl, ⟨⟨_, (World.putObj_heap_other hBl).trans hv4, ?_, by simp⟩, World.putObj_heap_same hl4, (World.putObj_heap_other hDl).trans hK4, hb4.grown (grownBy_putObj_a _ _ _) hb4.size (fun k e => by cases e; exact h0l)⟩, hk4.trans (KeepsWalks.putObj _ hL4 rfl)⟩
  have := hrow4.kept (grownBy_putObj_a w4 l (.loop { { apRec fn sv Bs D .ready none with state := .busy } with state := if (none : Option Code).isNone then .ready else .done, pending := none })) (ownsRow_ne_a hrow4 hL4 (fun cur e => by cases e))
  simpa using this
end Go.Proofs.Ytggdanifobagpaa.Ext
namespace Go.Proofs.Ytggdanifobagpaa.Ext
set_option linter.unusedVariables false
set_option linter.unusedSimpArgs false
open Go.RowKit Go.Maps Go.WideMaps Go.Shelf

set_option maxRecDepth 100000 in
set_option maxHeartbeats 2000000 in
theorem appendSeq_in (n : Nat) (hn : 2 ≤ n) (g : Nat) (lb : Array Value) (eg : ∀ args w, (callFunc g args).run Try.prog w = .ok (.enter g args) w)
    (S : List Key → Prop) (N : Nat) (hN : N ≤ maxLen) (hNb : N * 16 ≤ 140737488355328) (w : World) (hseq : SeqGives Fence.wide (n - 1) Try.prog g lb encKey S N w) :
    CallsIn Fence.wide n Try.prog 49 #[.slice none 0 0, .func (.func g) #[] lb] w fun e w' => ∃ (v : Value) (ss : List Key), e = .returned v ∧ S ss ∧ w'.ownsRow w.heap.size 59 2 v ss.length (ss.flatMap cellsKey) ∧ (v = .slice none 0 0 ↔ ss = []) ∧ Below w.heap.size w w' := by
  have h1 : 1 ≤ n := by omega
  refine callsIn_of_wp_marks Try.func49 rfl trivial ?_ rfl
  simp only [Try.ntmps49, List.size_toArray, List.length_cons, List.length_nil, Nat.reduceAdd, Nat.reduceSub, Array.replicate_succ, Array.replicate_zero, List.push_toArray, List.append_toArray, List.nil_append, List.cons_append]
  gi_wp2
  refine wpIn_rangeFunc ?_
  intro fn hfn
  obtain ⟨W0, hW0⟩ : ∃ W0, w.alloc (.cells #[.slice none 0 0] 56) = W0 := ⟨_, rfl⟩
  have hs0 : W0.heap.size = w.heap.size + 1 := by rw [← hW0]; simp
  have hv0 : W0.heap[w.heap.size]? = some (.cells #[.slice none 0 0] 56 (0, 0)) := by rw [← hW0]; exact World.alloc_heap_new w _
  have hb0 : Below w.heap.size w W0 := by rw [← hW0]; exact (Below.refl _ w).alloc (Nat.le_refl _) _
  rw [hW0]
  obtain ⟨W1, hW1⟩ : ∃ W1, (W0.alloc (.deferred (some []))).alloc (.loop (apRec fn (.func (.func g) #[] lb) w.heap.size W0.heap.size .ready none)) = W1 := ⟨_, rfl⟩
  have hold : ∀ k, k < W0.heap.size → W1.heap[k]? = W0.heap[k]? := fun k hk => by
    rw [← hW1]; exact (Below.heap_alloc _ _ k (by simp; omega)).trans (Below.heap_alloc _ _ k hk)
  have hb1 : Below w.heap.size w W1 := by rw [← hW1]; exact (hb0.alloc hb0.size _).alloc (by have := hb0.size; simp; omega) _
  have hs1 : W1.heap.size = W0.heap.size + 2 := by rw [← hW1]; simp
  have hM : ApAt w fn (.func (.func g) #[] lb) w.heap.size (W0.heap.size + 1) W0.heap.size [] W1 :=
    ⟨⟨_, (hold w.heap.size (by omega)).trans hv0, ⟨rfl, .inl ⟨rfl, rfl⟩⟩, by simp⟩,
     by rw [← hW1]; have := World.alloc_heap_new (W0.alloc (.deferred (some []))) (.loop (apRec fn (.func (.func g) #[] lb) w.heap.size W0.heap.size .ready none)); rwa [World.size_alloc] at this,
     by rw [← hW1]; exact (Below.heap_alloc _ _ _ (by simp)).trans (World.alloc_heap_new W0 _), hb1⟩
  refine ⟨W0.heap.size + 1, [{ target := .collected W0.heap.size, args := #[] }], W1, { target := .fn (.func g) lb, args := #[.func (.yield (W0.heap.size + 1)) #[] #[]] }, W1, g,
    #[.func (.yield (W0.heap.size + 1)) #[] #[]] ++ lb, W1, ?_, ?_, ?_, ?_, fun _ => h1, ?_⟩
  · rw [← hW1]; exact run_enterLoop_outer _ _ _ _ _
  · simp [resolve, go_sem]
  · intro f' hf'; trivial
  · simp [invoke, go_sem, eg]
  · refine (hseq (W0.heap.size + 1) (ApAt w fn (.func (.func g) #[] lb) w.heap.size (W0.heap.size + 1) W0.heap.size) W1 hb1 (ap_abides _ _ _ _ _ _ _ hb1.size)
      (fun pre x W hJ hl => apYield (n - 1 - 1) w fn trivial _ w.heap.size (W0.heap.size + 1) W0.heap.size (by omega) (by omega) (by omega) (Nat.le_refl _) (by omega) N hN hNb pre x W hJ hl) hM).mono ?_
    rintro e W2 ⟨⟨v0, rfl⟩, ss, hS, h2⟩
    obtain ⟨v, hv, hrow, hnil⟩ := h2.box
    have hend := run_endLoop (P := Try.prog) h2.L (by simp [apRec])
    obtain ⟨W3, hW3⟩ : ∃ W3, W2.putObj (W0.heap.size + 1) (.loop { apRec fn (.func (.func g) #[] lb) w.heap.size W0.heap.size .ready none with state := .exhausted }) = W3 := ⟨_, rfl⟩
    rw [hW3] at hend
    have hg3 : W2.grownBy W3 (some (W0.heap.size + 1)) := by rw [← hW3]; exact grownBy_putObj_a _ _ _
    have hv3 : W3.heap[w.heap.size]? = some (.cells #[v] 56 (0, 0)) := by rw [← hW3]; exact (World.putObj_heap_other (by omega)).trans hv
    have hK3 : W3.heap[W0.heap.size]? = some (.deferred (some [])) := by rw [← hW3]; exact (World.putObj_heap_other (by omega)).trans h2.K
    have hrow3 := hrow.kept hg3 (ownsRow_ne_a hrow h2.L (fun cur e => by cases e))
    have hb3 : Below w.heap.size w W3 := h2.below.grown hg3 h2.below.size (fun k e => by cases e; omega)
    obtain ⟨hc3, hf3⟩ := cell_of_box_a hv3
    clear hW3
    refine ⟨none, W3, hend, ?_⟩
    gi_wp2
    rw [← hs0]
    refine ⟨by simp, .inl ⟨_, _, rfl, run_takeDeferred hK3, ?_⟩⟩
    exact ⟨_, results_tmp rfl _ _ _, v, ss, rfl, hS, hrow3.kept (grownBy_putObj_a _ _ _) (ownsRow_ne_a hrow3 hK3 (fun cur e => by cases e)), hnil, hb3.grown (grownBy_putObj_a _ _ _) hb3.size (fun k e => by cases e; omega)⟩

set_option maxHeartbeats 1000000 in
theorem collect_in (n : Nat) (hn : 3 ≤ n) (g : Nat) (lb : Array Value) (eg : ∀ args w, (callFunc g args).run Try.prog w = .ok (.enter g args) w)
    (S : List Key → Prop) (N : Nat) (hN : N ≤ maxLen) (hNb : N * 16 ≤ 140737488355328) (w : World) (hseq : SeqGives Fence.wide (n - 1 - 1) Try.prog g lb encKey S N w) :
    CallsIn Fence.wide n Try.prog 40 #[.func (.func g) #[] lb] w fun e w' => ∃ (v : Value) (ss : List Key), e = .returned v ∧ S ss ∧ w'.ownsRow w.heap.size 59 2 v ss.length (ss.flatMap cellsKey) ∧ (v = .slice none 0 0 ↔ ss = []) ∧ Below w.heap.size w w' := by
  have h1 : 1 ≤ n := by omega
  have e49 : ∀ args w, (callFunc 49 args).run Try.prog w = .ok (.enter 49 args) w := enters_of Try.func49 (by kernel_rfl) rfl
  have hf49 : Fence.wide.fn 49 := trivial
  refine callsIn_of_wp Try.func40 rfl trivial ?_ rfl
  simp only [Try.ntmps40, List.size_toArray, List.length_cons, List.length_nil, Nat.reduceAdd, Nat.reduceSub, Array.replicate_succ, Array.replicate_zero, List.push_toArray, List.append_toArray, List.nil_append, List.cons_append]
  gi_wp2_with (gi_at_fn 49; refine (appendSeq_in (n - 1) (by omega) g lb eg S N hN hNb _ hseq).mono ?_; rintro e w' ⟨v, ss, rfl, hS, hrow, hnil, hb⟩)
  go_ret
  exact ⟨v, ss, rfl, hS, hrow, hnil, hb⟩
end Go.Proofs.Ytggdanifobagpaa.Ext
