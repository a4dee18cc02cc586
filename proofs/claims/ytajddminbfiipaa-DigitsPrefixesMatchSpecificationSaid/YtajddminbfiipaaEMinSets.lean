/- The levels of digits.Minimal in memory: an array of fifteen maps, each a set of strings. -/
import Derived.Test.YtajddminbfiipaaEMinA
import Derived.Maps.OwnSet
import Derived.Maps.RangeWalk
import Derived.Maps.OwnOps
import Derived.Sort.KeysCollected
namespace Go.Proofs.Ytajddminbfiipaa.Ext
open Go.RowKit Go.Maps Go.MapKept


theorem law9 : Keyed Try.prog 9 := string_keyed Try.underlying9

theorem ownsMap_tight {H : Type} {w : World} {P : Program} {k : TypeId} {R : Value → Option (DataW H × List MemPlace)} {b n : Nat} {D : DataW H} (h : w.ownsMap P k R b n D) : w.ownsMap P k R b (Maps.size D) D := by
  obtain ⟨es, clock, hb, F, hs, rfl⟩ := h
  exact ⟨es, clock, hb, F, by simp [Maps.size, length_sorted], rfl⟩

/-- Block b is a map[string]bool of at most c entries, all true, whose keys are just the strings of S. -/
def SetAt (W : World) (b c : Nat) (S : Bytes → Bool) : Prop :=
  ∃ D : DataW Unit, W.ownsMap Try.prog 9 (plainElem Try.prog 4) b (Maps.size D) D ∧ Maps.size D ≤ c ∧ (∀ x, Maps.has D (.string x) = S x) ∧ ∀ x z, S x = true → D.atKey (.string x) z = .lit (.bool true)

theorem SetAt.made {W : World} {b c : Nat} (h : W.heap[b]? = some (.map #[] 0)) : SetAt W b c (fun _ => false) :=
  ⟨.map [], ⟨#[], 0, h, ⟨by simp, stamped_empty 0, by simp⟩, Nat.le_refl _, rfl⟩, Nat.zero_le _, fun _ => rfl, fun _ _ e => by simp at e⟩

theorem SetAt.kept {W W' : World} {b c : Nat} {S : Bytes → Bool} {row : Option Nat} (h : SetAt W b c S) (hg : W.grownBy W' row) (hne : some b ≠ row) : SetAt W' b c S := by
  obtain ⟨D, h1, h2, h3, h4⟩ := h
  exact ⟨D, h1.kept hg hne, h2, h3, h4⟩

theorem SetAt.mono {W : World} {b c c' : Nat} {S : Bytes → Bool} (h : SetAt W b c S) (hc : c ≤ c') : SetAt W b c' S := by
  obtain ⟨D, h1, h2, h3, h4⟩ := h
  exact ⟨D, h1, by omega, h3, h4⟩

theorem SetAt.put {W W' : World} {b c n : Nat} {D : DataW Unit} {S : Bytes → Bool} {p : Bytes} (h : W.ownsMap Try.prog 9 (plainElem Try.prog 4) b (Maps.size D) D) (hc : Maps.size D ≤ c) (h3 : ∀ x, Maps.has D (.string x) = S x)
    (h4 : ∀ x z, S x = true → D.atKey (.string x) z = .lit (.bool true)) (hput : W'.ownsMap Try.prog 9 (plainElem Try.prog 4) b n (D.put (.string p) (.lit (.bool true)))) :
    SetAt W' b (c + 1) (fun x => S x || x == p) := by
  refine ⟨_, ownsMap_tight hput, ?_, ?_, ?_⟩
  · rw [size_put (h.tidy law9)]; split <;> omega
  · intro x
    by_cases e : x = p
    · subst e; rw [has_put_same h.isMap (k := .string x) trivial]; simp
    · rw [has_put_other (fun e' => e (by cases e'; rfl)), h3]; simp [e]
  · intro x z hx
    by_cases e : x = p
    · subst e; rw [atKey_put_same h.isMap (k := .string x) trivial]
    · rw [atKey_put_other (fun e' => e (by cases e'; rfl))]; exact h4 x z (by simpa [e] using hx)

/-- The fifteen levels: the array lies in block L, the maps behind it; the first N of them are told. -/
structure Lev (w : World) (L N : Nat) (c : Nat → Nat) (S : Nat → Bytes → Bool) (W : World) : Prop where
  cell : ∀ j, j < 15 → W.cell? ⟨L, j, none⟩ = some (.map (some (L + 1 + j)))
  set : ∀ j, j < N → SetAt W (L + 1 + j) (c j) (S j)
  size : L + 16 ≤ W.heap.size
  low : Below w.heap.size w W
  base : w.heap.size ≤ L
  le : N ≤ 15

theorem Lev.made {w W : World} {L : Nat} (h : Made w.heap.size L 15 w W) (hL : w.heap.size ≤ L) : Lev w L 15 (fun _ => 0) (fun _ _ => false) W where
  cell := fun j hj => h.cell j hj
  set := fun j hj => SetAt.made (h.maps j hj)
  size := by have := h.size; omega
  low := h.low
  base := hL
  le := Nat.le_refl _

theorem cell_grown {W W' : World} {row : Option Nat} {a : Addr} {v : Value} (h : W.cell? a = some v) (hg : W.grownBy W' row) (hne : row ≠ some a.block) : W'.cell? a = some v := by
  have hl := World.block_lt_of_cell? _ _ h
  have hb := hg.block a.block hl (fun e => hne e.symm)
  rw [← h]
  unfold World.cell?
  rw [hb]

/-- One level's map has turned. -/
theorem Lev.turn {w W W' : World} {L N m : Nat} {c c' : Nat → Nat} {S S' : Nat → Bytes → Bool} (h : Lev w L N c S W) (hg : W.grownBy W' (some (L + 1 + m)))
    (hm : m < N → SetAt W' (L + 1 + m) (c' m) (S' m)) (hc : ∀ j, j ≠ m → c' j = c j) (hS : ∀ j, j ≠ m → S' j = S j) : Lev w L N c' S' W' where
  cell := fun j hj => cell_grown (h.cell j hj) hg (fun e => by simp at e; omega)
  set := fun j hj => by
    by_cases e : j = m
    · subst e; exact hm hj
    · rw [hc j e, hS j e]; exact (h.set j hj).kept hg (fun e' => by simp at e'; omega)
  size := Nat.le_trans h.size hg.size
  low := h.low.grown hg h.low.size (fun j e => by have := h.base; cases e; omega)
  base := h.base
  le := h.le

/-- Nothing of the levels has turned. -/
theorem Lev.kept {w W W' : World} {L N : Nat} {c : Nat → Nat} {S : Nat → Bytes → Bool} {row : Option Nat} (h : Lev w L N c S W) (hg : W.grownBy W' row) (hr : ∀ k, row = some k → L + 16 ≤ k) : Lev w L N c S W' where
  cell := fun j hj => cell_grown (h.cell j hj) hg (fun e => by have := hr _ e; simp at this; omega)
  set := fun j hj => (h.set j hj).kept hg (fun e => by have := hr _ e.symm; have := h.le; omega)
  size := Nat.le_trans h.size hg.size
  low := h.low.grown hg h.low.size (fun j e => by have := h.base; have := hr _ e; omega)
  base := h.base
  le := h.le

theorem below_grown {W W' : World} (h : Below W.heap.size W W') : W.grownBy W' none := ⟨h.os, h.tape, h.output, h.size, fun i hi _ => h.block i hi⟩
theorem Lev.below {w W W' : World} {L N : Nat} {c : Nat → Nat} {S : Nat → Bytes → Bool} (h : Lev w L N c S W) (hb : Below W.heap.size W W') : Lev w L N c S W' := h.kept (below_grown hb) (by simp)
theorem Lev.less {w W : World} {L N N' : Nat} {c : Nat → Nat} {S : Nat → Bytes → Bool} (h : Lev w L N c S W) (hN : N' ≤ N) : Lev w L N' c S W where
  cell := h.cell
  set := fun j hj => h.set j (by omega)
  size := h.size
  low := h.low
  base := h.base
  le := Nat.le_trans hN h.le
theorem Lev.turn' {w W : World} {L N : Nat} {c c' : Nat → Nat} {S S' : Nat → Bytes → Bool} (h : Lev w L N c S W) (hc : ∀ j, j < N → c j ≤ c' j) (hS : ∀ j, j < N → S' j = S j) : Lev w L N c' S' W where
  cell := h.cell
  set := fun j hj => by rw [hS j hj]; exact (h.set j hj).mono (hc j hj)
  size := h.size
  low := h.low
  base := h.base
  le := h.le
end Go.Proofs.Ytajddminbfiipaa.Ext
