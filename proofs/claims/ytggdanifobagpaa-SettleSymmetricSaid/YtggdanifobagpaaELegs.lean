/- The legs in memory: a map whose elements are pairs of slices of records, each slice in a row of its own. -/
import Derived.Test.YtggdanifobagpaaESort
import Derived.Maps.AppendAt
import Derived.Deep.WholeRow
import Derived.Below
import Derived.Carry
namespace Go.Proofs.Ytggdanifobagpaa.Ext
set_option linter.unusedVariables false
set_option linter.unusedSimpArgs false
open Go.RowKit Go.Maps Go.WideMaps Go.Proofs.Ytggdanifobagpaa.Q Go.Proofs.YtggdanifobagpaaW.PrintWords

abbrev LegsL := Key → Bool → List S36
def zz : Value := .agg #[.slice none 0 0, .slice none 0 0]

/-- Block b is the map of the legs L; V tells the slices. -/
structure LegsV (W : World) (lo b n : Nat) (L : LegsL) (D : DataW Value) (V : Key → Bool → Value) : Prop where
  own : W.ownsMap Try.prog 59 rawElem b n D
  lob : lo ≤ b
  keys : ∀ kl, has D kl = true → ∃ k, KeyWf k ∧ kl = litKey k
  mem : ∀ k, KeyWf k → (has D (litKey k) = true ↔ (L k false ≠ [] ∨ L k true ≠ []))
  val : ∀ k, KeyWf k → D.atKey (litKey k) (.held zz) = .held (.agg #[V k false, V k true])
  row : ∀ k c, W.ownsRow lo 36 8 (V k c) (L k c).length ((L k c).flatMap cells36)
  apart : ∀ k c k' c', (k, c) ≠ (k', c') → (V k c).ownBlock = none ∨ (V k c).ownBlock ≠ (V k' c').ownBlock

def Legs (W : World) (lo b n : Nat) (L : LegsL) : Prop := ∃ D V, LegsV W lo b n L D V

theorem LegsV.kept {W W' : World} {lo b n : Nat} {L : LegsL} {D : DataW Value} {V : Key → Bool → Value} (h : LegsV W lo b n L D V) (hb : Below W.heap.size W W') : LegsV W' lo b n L D V where
  own := by
    have hl := h.own.lt
    obtain ⟨es, clock, hk, r⟩ := h.own
    exact ⟨es, clock, (hb.block b hl).trans hk, r⟩
  lob := h.lob
  keys := h.keys
  mem := h.mem
  val := h.val
  row := fun k c => own_move (h.row k c) (fun j hj => hb.block j ((h.row k c).lt j hj).2)
  apart := h.apart

theorem LegsV.mono {W : World} {lo b n n' : Nat} {L : LegsL} {D : DataW Value} {V : Key → Bool → Value} (h : LegsV W lo b n L D V) (hn : n ≤ n') : LegsV W lo b n' L D V where
  own := h.own.mono hn
  lob := h.lob
  keys := h.keys
  mem := h.mem
  val := h.val
  row := h.row
  apart := h.apart

theorem LegsV.made (w : World) (lo : Nat) (hlo : lo ≤ w.heap.size) : LegsV (w.alloc (.map #[] 0)) lo w.heap.size 0 (fun _ _ => []) (.map []) (fun _ _ => .slice none 0 0) where
  own := World.ownsMap_made w _ _ _
  lob := hlo
  keys := fun kl h => by simp [has] at h
  mem := fun k _ => by simp [has]
  val := fun k _ => rfl
  row := fun k c => ⟨rfl, .inl ⟨rfl, rfl⟩⟩
  apart := fun k c k' c' _ => .inl rfl

theorem zero63 : ∀ w, (zeroValue 63).run Try.prog w = .ok zz w := fun w => by
  have h : (Try.prog.info? 63).map (fun i => (i.zero, i.size)) = some (some zz, 2) := by kernel_rfl
  exact (zero_of_info h).1 w

theorem LegsV.look {W : World} {lo b n : Nat} {L : LegsL} {D : DataW Value} {V : Key → Bool → Value} (h : LegsV W lo b n L D V) {k : Key} (hk : KeyWf k) : (Instr.lookup 53 (.map (some b)) (encKey k) false).run Try.prog W = .ok (.agg #[V k false, V k true]) W := by
  obtain ⟨v, ps, hrun, hv⟩ := h.own.lookup law59 Try.underlying53 (zero63 W) (zd := .held zz) (zp := []) rfl (keyOf_encKey hk)
  rw [h.val k hk] at hv
  simp only [rawElem, Option.some.injEq, Prod.mk.injEq, DataW.held.injEq] at hv
  rw [hrun, hv.1]

def putL (L : LegsL) (k : Key) (c : Bool) (r : S36) : LegsL := fun k' c' => if k' = k ∧ c' = c then L k c ++ [r] else L k' c'
def putV (V : Key → Bool → Value) (k : Key) (c : Bool) (v : Value) : Key → Bool → Value := fun k' c' => if k' = k ∧ c' = c then v else V k' c'

/-- The map is written behind an append: W: the world ahead of the append; w1: behind it; w2: behind the store into the map. -/
theorem LegsV.put {W w1 w2 : World} {lo b n : Nat} {L : LegsL} {D : DataW Value} {V : Key → Bool → Value} (h : LegsV W lo b n L D V) {k : Key} (hk : KeyWf k) (c : Bool) (r : S36) {v : Value}
    (hg1 : W.grownBy w1 (V k c).ownBlock) (hown1 : w1.ownsRow lo 36 8 v ((L k c).length + 1) ((L k c).flatMap cells36 ++ cells36 r)) (hat : v.ownBlock = (V k c).ownBlock ∨ ∃ j, v.ownBlock = some j ∧ W.heap.size ≤ j)
    (hg2 : w1.grownBy w2 (some b)) (hown2 : w2.ownsMap Try.prog 59 rawElem b (n + 1) (D.put (litKey k) (.held (.agg #[putV V k c v k false, putV V k c v k true])))) :
    LegsV w2 lo b (n + 1) (putL L k c r) (D.put (litKey k) (.held (.agg #[putV V k c v k false, putV V k c v k true]))) (putV V k c v) where
  own := hown2
  lob := h.lob
  keys := fun kl hl => by
    by_cases e : kl = litKey k
    · exact ⟨k, hk, e⟩
    · rw [has_put_other e] at hl; exact h.keys kl hl
  mem := fun k' hk' => by
    by_cases e : k' = k
    · subst e
      rw [has_put_same h.own.isMap (litKey_isKey _)]
      cases c <;> simp [putL]
    · rw [has_put_other (fun e' => e (litKey_inj hk' hk e')), h.mem k' hk']
      simp [putL, e]
  val := fun k' hk' => by
    by_cases e : k' = k
    · subst e
      rw [atKey_put_same h.own.isMap (litKey_isKey _)]
    · rw [atKey_put_other (fun e' => e (litKey_inj hk' hk e')), h.val k' hk']
      simp [putV, e]
  row := fun k' c' => by
    have hbl : ∃ es clock, w1.heap[b]? = some (.map es clock) := by
      obtain ⟨es, clock, hb, _⟩ := h.own
      refine ⟨es, clock, (hg1.block b h.own.lt ?_).trans hb⟩
      intro e
      obtain ⟨cells, hc⟩ := own_typed (h.row k c) b e.symm
      rw [hb] at hc; cases hc
    have hne : ∀ {u : Value} {m : Nat} {xs : List Value}, w1.ownsRow lo 36 8 u m xs → u.ownBlock = none ∨ u.ownBlock ≠ some b := by
      intro u m xs hu
      refine .inr fun e => ?_
      obtain ⟨cells, hc⟩ := own_typed hu b e
      obtain ⟨es, clock, hm⟩ := hbl
      rw [hm] at hc; cases hc
    by_cases e : k' = k ∧ c' = c
    · obtain ⟨rfl, rfl⟩ := e
      have hv : w2.ownsRow lo 36 8 v ((L k' c').length + 1) ((L k' c').flatMap cells36 ++ cells36 r) := hown1.kept hg2 (hne hown1)
      have e1 : putL L k' c' r k' c' = L k' c' ++ [r] := by simp [putL]
      have e2 : putV V k' c' v k' c' = v := by simp [putV]
      rw [e1, e2]
      simpa using hv
    · have e1 : putL L k c r k' c' = L k' c' := by simp [putL, e]
      have e2 : putV V k c v k' c' = V k' c' := by simp [putV, e]
      rw [e1, e2]
      have hu : w1.ownsRow lo 36 8 (V k' c') (L k' c').length ((L k' c').flatMap cells36) := (h.row k' c').kept hg1 (h.apart k' c' k c (fun e' => e (by cases e'; exact ⟨rfl, rfl⟩)))
      exact hu.kept hg2 (hne hu)
  apart := fun k1 c1 k2 c2 hne => by
    unfold putV
    have hlt : ∀ k' c' j, (V k' c').ownBlock = some j → j < W.heap.size := fun k' c' j hj => ((h.row k' c').lt j hj).2
    by_cases e1 : k1 = k ∧ c1 = c
    · obtain ⟨rfl, rfl⟩ := e1
      have e2 : ¬ (k2 = k1 ∧ c2 = c1) := fun e => hne (by rw [e.1, e.2])
      rw [if_pos ⟨rfl, rfl⟩, if_neg e2]
      rcases hat with e | ⟨j, e, hj⟩
      · rw [e]; exact h.apart k1 c1 k2 c2 hne
      · refine .inr fun e' => ?_
        rw [e] at e'
        have := hlt k2 c2 j e'.symm
        omega
    · rw [if_neg e1]
      by_cases e2 : k2 = k ∧ c2 = c
      · obtain ⟨rfl, rfl⟩ := e2
        rw [if_pos ⟨rfl, rfl⟩]
        rcases hat with e | ⟨j, e, hj⟩
        · rw [e]; exact h.apart k1 c1 k2 c2 hne
        · refine .inr fun e' => ?_
          rw [e] at e'
          have := hlt k1 c1 j e'
          omega
      · rw [if_neg e2]; exact h.apart k1 c1 k2 c2 hne

theorem store36 (g : Nat) (w : World) (a0 a1 a2 a3 a4 a5 a6 a7 : Value) (hg : g = w.heap.size) (h0 : a0.oneCell' = true) (h1 : a1.oneCell' = true) (h2 : a2.oneCell' = true) (h3 : a3.oneCell' = true) (h4 : a4.oneCell' = true) (h5 : a5.oneCell' = true) (h6 : a6.oneCell' = true) (h7 : a7.oneCell' = true) :
    (Instr.storeAt 36 (.pointer (some ⟨g, 0, none⟩)) (.agg #[a0, a1, a2, a3, a4, a5, a6, a7])).run Try.prog (w.alloc (.cells #[.int .i64 0, .int .i64 0, .int .i64 0, .string ⟨#[]⟩, .int .i64 0, .int .i64 0, .int .i64 0, .int .i64 0] 36)) = .ok () (w.alloc (.cells #[a0, a1, a2, a3, a4, a5, a6, a7] 36)) := by
  subst hg
  exact run_storeAt_new w 36 _ _ (by kernel_rfl) rfl (by simp [h0, h1, h2, h3, h4, h5, h6, h7])
theorem store63 (g : Nat) (w : World) (a b : Value) (hg : g = w.heap.size) (ha : a.oneCell' = true) (hb : b.oneCell' = true) :
    (Instr.storeAt 63 (.pointer (some ⟨g, 0, none⟩)) (.agg #[a, b])).run Try.prog (w.alloc (.cells #[.slice none 0 0, .slice none 0 0] 63)) = .ok () (w.alloc (.cells #[a, b] 63)) := by
  subst hg
  exact run_storeAt_new w 63 _ _ (by kernel_rfl) rfl (by simp [ha, hb])
end Go.Proofs.Ytggdanifobagpaa.Ext
