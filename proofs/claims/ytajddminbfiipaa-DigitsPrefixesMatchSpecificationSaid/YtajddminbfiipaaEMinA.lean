/- digits.Minimal: the loop that makes the fifteen maps. -/
import Derived.Test.YtajddminbfiipaaEMinCode
import Derived.WalkKit
import Derived.Lib.Hide
import Derived.WalkSpells
import Derived.Below
import Derived.Carry
namespace Go.Proofs.Ytajddminbfiipaa.Ext
open Go.RowKit

theorem heap_new (w : World) (o : Obj) : (w.alloc o).heap[w.heap.size]? = some o := by
  show (w.heap.push o)[w.heap.size]? = some o
  simp
theorem heap_setCell_ne (w : World) (a : Addr) (v : Value) {i : Nat} (h : i ≠ a.block) : (w.setCell a v).heap[i]? = w.heap[i]? := by
  simp [World.setCell, Array.getElem?_modify, Ne.symm h]

/-- i of the fifteen maps have been made. -/
structure Made (B L i : Nat) (w W : World) : Prop where
  cell : ∀ j, j < i → W.cell? ⟨L, j, none⟩ = some (.map (some (L + 1 + j)))
  rest : ∀ j, i ≤ j → j < 15 → W.cell? ⟨L, j, none⟩ = some (.map none)
  free : ∀ j, W.frozen? ⟨L, j, none⟩ = false
  maps : ∀ j, j < i → W.heap[L + 1 + j]? = some (.map #[] 0)
  size : W.heap.size = L + 1 + i
  low : Below B w W

theorem Made.step {B L k : Nat} {w wr : World} (h : Made B L k w wr) (hBL : B ≤ L) (hk : k < 15) :
    Made B L (k + 1) w ((wr.setCell ⟨L, k, none⟩ (.map (some wr.heap.size))).alloc (.map #[] 0)) where
  cell := fun j hj => by
    have hz := h.size
    have hl : L < (wr.setCell ⟨L, k, none⟩ (.map (some wr.heap.size))).heap.size := by simp; omega
    rw [World.cell?_alloc_past _ _ _ hl]
    by_cases e : j = k
    · subst e
      rw [World.cell?_setCell_same' _ _ _ (by rw [h.rest j (Nat.le_refl _) hk]; rfl), hz]
    · rw [World.cell?_setCell_other _ _ _ _ (show (⟨L, k, none⟩ : Addr) ≠ ⟨L, j, none⟩ from fun e' => by cases e'; exact e rfl)]
      exact h.cell j (by omega)
  rest := fun j h1 h2 => by
    have hz := h.size
    have hl : L < (wr.setCell ⟨L, k, none⟩ (.map (some wr.heap.size))).heap.size := by simp; omega
    rw [World.cell?_alloc_past _ _ _ hl, World.cell?_setCell_other _ _ _ _ (show (⟨L, k, none⟩ : Addr) ≠ ⟨L, j, none⟩ from fun e' => by cases e'; omega)]
    exact h.rest j (by omega) h2
  free := fun j => by
    have hz := h.size
    have hl : L < (wr.setCell ⟨L, k, none⟩ (.map (some wr.heap.size))).heap.size := by simp; omega
    rw [World.frozen?_alloc_past _ _ _ hl, World.frozen?_setCell]
    exact h.free j
  maps := fun j hj => by
    have hz := h.size
    by_cases e : j = k
    · subst e
      have := heap_new (wr.setCell ⟨L, j, none⟩ (.map (some wr.heap.size))) (.map #[] 0)
      rw [World.size_setCell] at this
      rw [← hz]
      exact this
    · have h1 := Below.heap_alloc (wr.setCell ⟨L, k, none⟩ (.map (some wr.heap.size))) (.map #[] 0) (L + 1 + j) (by simp; omega)
      rw [h1, heap_setCell_ne _ _ _ (by simp; omega)]
      exact h.maps j (by omega)
  size := by have := h.size; simp; omega
  low := (h.low.setCell (p := ⟨L, k, none⟩) hBL _).alloc (by have := h.size; simp; omega) _

set_option maxHeartbeats 1000000 in
set_option maxRecDepth 100000 in
theorem loopA {c0 c1 c2 c3 c5 c6 c7 c8 c9 c10 c11 c12 c13 c14 c15 c16 c17 c18 c19 c20 c22 c23 c24 c25 c26 c27 c28 c29 c30 c31 c32 c33 c34 c35 c36 c37 c38 c39 c40 c41 c42 c43 c44 c45 c46 c47 c48 c49 c50 c51 c52 c53 c54 c55 c56 c57 c58 c59 c60 c61 c62 c63 c64 c65 c66 c67 c68 c69 c70 c71 c72 c73 c74 c75 c76 c77 c78 c79 c80 c81 c82 c83 c84 c85 c86 c87 c88 c89 c90 c91 c92 c93 c94 c95 c96 c97 c98 c99 c100 c101 c102 c103 c104 c105 c106 : Value} (B L : Nat) (w W : World) (hBL : B ≤ L) (hM : Made B L 0 w W) (Q : Exit → Act → World → Prop)
    (hexit : ∀ (u5 u21 u22 u23 u24 u25 u26 u27 : Value) (W' : World), Made B L 15 w W' → Q (.exit 0) ⟨#[c0, c1, c2, c3, .pointer (some ⟨L, 0, none⟩), u5, c6, c7, c8, c9, c10, c11, c12, c13, c14, c15, c16, c17, c18, c19, c20, u21, u22, u23, u24, u25, u26, u27, c28, c29, c30, c31, c32, c33, c34, c35, c36, c37, c38, c39, c40, c41, c42, c43, c44, c45, c46, c47, c48, c49, c50, c51, c52, c53, c54, c55, c56, c57, c58, c59, c60, c61, c62, c63, c64, c65, c66, c67, c68, c69, c70, c71, c72, c73, c74, c75, c76, c77, c78, c79, c80, c81, c82, c83, c84, c85, c86, c87, c88, c89, c90, c91, c92, c93, c94, c95, c96, c97, c98, c99, c100, c101, c102, c103, c104, c105, c106], []⟩ W') :
    Code.wp Try.prog (lp 0) Q ⟨#[c0, c1, c2, c3, .pointer (some ⟨L, 0, none⟩), c5, c6, c7, c8, c9, c10, c11, c12, c13, c14, c15, c16, c17, c18, c19, c20, .int .i64 0, c22, c23, c24, c25, c26, c27, c28, c29, c30, c31, c32, c33, c34, c35, c36, c37, c38, c39, c40, c41, c42, c43, c44, c45, c46, c47, c48, c49, c50, c51, c52, c53, c54, c55, c56, c57, c58, c59, c60, c61, c62, c63, c64, c65, c66, c67, c68, c69, c70, c71, c72, c73, c74, c75, c76, c77, c78, c79, c80, c81, c82, c83, c84, c85, c86, c87, c88, c89, c90, c91, c92, c93, c94, c95, c96, c97, c98, c99, c100, c101, c102, c103, c104, c105, c106], []⟩ W := by
  dsimp only at hexit ⊢
  conv => arg 2; whnf
  have hmm := @run_makeMap Try.prog
  go_loopw [21] (fun i wr => ∃ k : Nat, k ≤ 15 ∧ i = .int .i64 k ∧ Made B L k w wr) (fun i _ => 15 - (intOf i).toNat)
  case atStart => exact ⟨0, by omega, rfl, hM⟩
  case round =>
    obtain ⟨k, hk, rfl, hm⟩ := hrel
    by_cases hlt : k < 15
    · have hr := hm.rest k (Nat.le_refl _) hlt
      have hf := hm.free k
      have hz : L < wr.heap.size := by have := hm.size; omega
      have hS := hm.step hBL hlt
      clear hm
      go_wp2
      go_roundw
      case rel => exact ⟨k + 1, by omega, by go_num, hS⟩
      case measure => simp [intOf]; omega
    · obtain rfl : k = 15 := by omega
      have H := Lib.hid hm
      clear hm
      go_wp2
      exact H.out
end Go.Proofs.Ytajddminbfiipaa.Ext
