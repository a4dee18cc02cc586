/- digits.Minimal: the loop that hands on the strings of one level that have no shorter prefix in the levels. -/
import Derived.Test.YtajddminbfiipaaEMinCov
import Derived.Maps.AppendAt
import Derived.OwnWalk
namespace Go.Proofs.Ytajddminbfiipaa.Ext
set_option linter.unusedVariables false
set_option linter.unusedSimpArgs false
open Go.RowKit Go.Maps Go.WideMaps Go.Sort

theorem info9 : (Try.prog.info? 9).map (fun i => (i.zero, i.size, i.bytes)) = some (some (.string ⟨#[]⟩), 1, 16) := by kernel_rfl

/-- The cells of a row of strings that is read. -/
def CellsAt (W : World) (g : Nat) (ks : List Bytes) : Prop := ∀ k, k < ks.length → W.cell? ⟨g, k, none⟩ = some (encStr ks[k]!)
theorem CellsAt.grown {W W' : World} {g : Nat} {ks : List Bytes} {row : Option Nat} (h : CellsAt W g ks) (hg : W.grownBy W' row) (hne : row ≠ some g) : CellsAt W' g ks :=
  fun k hk => cell_grown (h k hk) hg hne

/-- The strings without a shorter prefix in the levels. -/
def unc (S : Nat → Bytes → Bool) (n : Nat) (ks : List Bytes) : List Bytes := ks.filter fun x => !cov S n x
theorem unc_true {S : Nat → Bytes → Bool} {n : Nat} {ks : List Bytes} {x : Bytes} (h : cov S n x = true) : unc S n (ks ++ [x]) = unc S n ks := by simp [unc, List.filter_append, h]
theorem unc_false {S : Nat → Bytes → Bool} {n : Nat} {ks : List Bytes} {x : Bytes} (h : cov S n x = false) : unc S n (ks ++ [x]) = unc S n ks ++ [x] := by simp [unc, List.filter_append, h]
theorem unc_le (S : Nat → Bytes → Bool) (n : Nat) (ks : List Bytes) : (unc S n ks).length ≤ ks.length := List.length_filter_le _ _

theorem own_none (v : Value) : v.ownBlock = none ∨ v.ownBlock ≠ none := by cases v.ownBlock <;> simp
theorem grown_drewN (W : World) (q : Nat) : W.grownBy (W.drewN q) none := ⟨rfl, rfl, rfl, Nat.le_refl _, fun _ _ _ => rfl⟩

set_option maxHeartbeats 2000000 in
set_option maxRecDepth 100000 in
theorem loopF2 {c0 c1 c2 c3 c5 c6 c7 c8 c9 c10 c11 c12 c16 c17 c18 c19 c20 c21 c22 c23 c24 c25 c26 c27 c28 c29 c30 c31 c32 c33 c34 c35 c36 c37 c38 c39 c40 c41 c42 c43 c44 c45 c46 c47 c48 c49 c50 c51 c52 c53 c54 c55 c56 c57 c58 c59 c60 c61 c62 c63 c64 c65 c66 c67 c68 c69 c70 c71 c72 c73 c74 c75 c76 c77 c78 c79 c80 c81 c82 c83 c84 c85 c89 c90 c91 c92 c93 c94 c95 c96 c97 c98 c99 c100 c101 c102 c103 c104 c105 c106 : Value} (L n cap : Nat) (A : Option Addr) (v14 : Value) (c : Nat → Nat) (S : Nat → Bytes → Bool) (ks acc : List Bytes) (w W : World) (hn14 : n ≤ 14) (hks : ks.length ≤ 20000) (hacc : acc.length ≤ 1000000)
    (hlen : ∀ x ∈ ks, x.length = n) (hA : ks = [] ∨ ∃ g, A = some ⟨g, 0, none⟩ ∧ L + 16 ≤ g ∧ g < W.heap.size ∧ CellsAt W g ks ∧ v14.ownBlock ≠ some g)
    (hL : Lev w L n c S W) (hn : ∃ D : DataW Unit, W.ownsMap Try.prog 9 (plainElem Try.prog 4) (L + 1 + n) (Maps.size D) D)
    (hrow : W.ownsRow (L + 16) 9 1 v14 acc.length (acc.map encStr))
    (Q : Exit → Act → World → Prop)
    (hexit : ∀ (u14 u17 u88 u89 u90 u91 u92 u93 u94 u95 u96 u97 u98 u99 u100 u101 u102 u103 : Value) (W' : World), (Lev w L n c S W' ∧ W'.ownsRow (L + 16) 9 1 u14 (acc ++ unc S n ks).length ((acc ++ unc S n ks).map encStr)) → Q (.exit 12) ⟨#[c0, c1, c2, c3, .pointer (some ⟨L, 0, none⟩), c5, c6, c7, c8, c9, c10, c11, c12, .func (.func 35) #[] #[.pointer (some ⟨L, 0, none⟩)], u14, .int .i64 n, c16, u17, c18, c19, c20, c21, c22, c23, c24, c25, c26, c27, c28, c29, c30, c31, c32, c33, c34, c35, c36, c37, c38, c39, c40, c41, c42, c43, c44, c45, c46, c47, c48, c49, c50, c51, c52, c53, c54, c55, c56, c57, c58, c59, c60, c61, c62, c63, c64, c65, c66, c67, c68, c69, c70, c71, c72, c73, c74, c75, c76, c77, c78, c79, c80, c81, c82, c83, c84, c85, .slice A ks.length cap, .int .i64 ks.length, u88, u89, u90, u91, u92, u93, u94, u95, u96, u97, u98, u99, u100, u101, u102, u103, c104, c105, c106], []⟩ W') :
    Code.wp Try.prog (lp 6) Q ⟨#[c0, c1, c2, c3, .pointer (some ⟨L, 0, none⟩), c5, c6, c7, c8, c9, c10, c11, c12, .func (.func 35) #[] #[.pointer (some ⟨L, 0, none⟩)], v14, .int .i64 n, c16, c17, c18, c19, c20, c21, c22, c23, c24, c25, c26, c27, c28, c29, c30, c31, c32, c33, c34, c35, c36, c37, c38, c39, c40, c41, c42, c43, c44, c45, c46, c47, c48, c49, c50, c51, c52, c53, c54, c55, c56, c57, c58, c59, c60, c61, c62, c63, c64, c65, c66, c67, c68, c69, c70, c71, c72, c73, c74, c75, c76, c77, c78, c79, c80, c81, c82, c83, c84, c85, .slice A ks.length cap, .int .i64 ks.length, .int .i64 0, c89, c90, c91, c92, c93, c94, c95, c96, c97, c98, c99, c100, c101, c102, c103, c104, c105, c106], []⟩ W := by
  obtain ⟨i0, hi, hz0, hz1, hz2⟩ := info_parts info9
  dsimp only at hexit ⊢
  conv => arg 2; whnf
  go_loopw [14, 88] (fun v i wr => ∃ k : Nat, k ≤ ks.length ∧ i = .int .i64 k ∧ (k < ks.length → ∃ g, A = some ⟨g, 0, none⟩ ∧ L + 16 ≤ g ∧ g < wr.heap.size ∧ CellsAt wr g ks ∧ v.ownBlock ≠ some g) ∧ Lev w L n c S wr ∧
      (∃ D : DataW Unit, wr.ownsMap Try.prog 9 (plainElem Try.prog 4) (L + 1 + n) (Maps.size D) D) ∧ wr.ownsRow (L + 16) 9 1 v (acc ++ unc S n (ks.take k)).length ((acc ++ unc S n (ks.take k)).map encStr))
    (fun _ i _ => ks.length - (intOf i).toNat)
  case atStart =>
    refine ⟨0, by omega, rfl, fun h => ?_, hL, hn, by simpa [unc] using hrow⟩
    rcases hA with h0 | h0
    · subst h0; simp at h
    · exact h0
  case round =>
    obtain ⟨k, hk, rfl, hcs, hLv, ⟨D, hown⟩, hrw⟩ := hrel
    clear hL hn hrow hA
    have HE := Lib.hid hexit
    clear hexit
    by_cases hlt : k < ks.length
    · obtain ⟨g, rfl, hg16, hgz, hcells, hgo⟩ := hcs hlt
      have hcell := hcells k hlt
      have htake : ks.take (k + 1) = ks.take k ++ [ks[k]!] := by rw [List.take_succ_eq_append_getElem hlt]; simp [hlt]
      have hxl : (ks[k]!).length = n := hlen _ (by simp [hlt])
      generalize ks[k]! = x at hcell htake hxl
      obtain ⟨s, hs, hsx⟩ : ∃ s : ByteArray, encStr x = .string s ∧ s.data.toList = x := ⟨_, rfl, by simp⟩
      have hsn : s.size = n := by rw [← hxl, ← hsx]; simp
      have hC := cov_calls L n c S s w wr hLv (by omega)
      have hks100 : s.size ≤ maxLen := by unfold maxLen; omega
      have hcl := hLv.cell n (by omega)
      have hsz := hLv.size
      rw [hsn, hsx] at hC
      have hs' := hs
      rw [hs] at hcell
      have hle := unc_le S n (ks.take k)
      have htl : (ks.take k).length ≤ ks.length := by simp; omega
      have HS := Lib.hid hs'
      have HT := Lib.hid htake
      have HX := Lib.hid hsx
      clear hs hsx hsn hxl htake hcs hs'
      cases hb : cov S n x with
      | true =>
        rw [hb] at hC
        have hu : unc S n (ks.take (k + 1)) = unc S n (ks.take k) := by rw [HT.out]; exact unc_true hb
        have HU := Lib.hid hu
        clear hu hb
        go_wp2_with (first
          | (go_at_call 35; refine hC.mono ?_; rintro e w1 ⟨rfl, q, rfl⟩; have hown1 := hown.kept (grown_drewN wr q) (by simp))
          | (at_delete; refine wpList_delete_own _ rfl _ _ 44 9 rfl 4 law9 Try.underlying44 _ (L + 1 + n) (Maps.size D) D rfl hown1 _ _ rfl (keyOf_string_mk Try.underlying9 hks100) ?_; intro w2 hown2 hturn; go_frame))
        have hg2 : (wr.drewN q).grownBy w2 (some (L + 1 + n)) := hturn.grown
        have hLv2 : Lev w L n c S w2 := (hLv.drewN q).turn hg2 (fun h => absurd h (Nat.lt_irrefl _)) (fun _ _ => rfl) (fun _ _ => rfl)
        have hcells2 := (hcells.grown (grown_drewN wr q) (by simp)).grown hg2 (by simp; omega)
        have hlt14 : ∀ b, u14.ownBlock = some b → L + 16 ≤ b := fun b hb => (hrw.lt b hb).1
        have hrw2 := (hrw.kept (grown_drewN wr q) (own_none u14)).kept hg2 (by
          cases hob : u14.ownBlock with
          | none => exact .inl rfl
          | some b => right; intro e; have := hlt14 b hob; simp at e; omega)
        have hgz2 : g < w2.heap.size := Nat.lt_of_lt_of_le hgz hg2.size
        rw [← HU.out] at hrw2
        have hrel : (k + 1 < ks.length → ∃ g', (some ⟨g, 0, none⟩ : Option Addr) = some ⟨g', 0, none⟩ ∧ L + 16 ≤ g' ∧ g' < w2.heap.size ∧ CellsAt w2 g' ks ∧ u14.ownBlock ≠ some g') ∧ Lev w L n c S w2 ∧
          (∃ D : DataW Unit, w2.ownsMap Try.prog 9 (plainElem Try.prog 4) (L + 1 + n) (Maps.size D) D) ∧ w2.ownsRow (L + 16) 9 1 u14 (acc ++ unc S n (ks.take (k + 1))).length ((acc ++ unc S n (ks.take (k + 1))).map encStr) :=
          ⟨fun _ => ⟨g, rfl, hg16, hgz2, hcells2, hgo⟩, hLv2, ⟨_, ownsMap_tight hown2⟩, hrw2⟩
        clear hg2 hLv2 hcells2 hlt14 hrw2 hgz2 hturn hown2 hown1 hown hLv hcells hcell hrw hgo hC hcl hgz hsz
        go_wp2
        go_roundw
        case rel => exact ⟨k + 1, by omega, by go_num, hrel⟩
        case measure => simp [intOf]; omega
      | false =>
        rw [hb] at hC
        have hu : unc S n (ks.take (k + 1)) = unc S n (ks.take k) ++ [x] := by rw [HT.out]; exact unc_false hb
        have HU := Lib.hid hu
        clear hu hb
        go_wp2_with (first
          | (go_at_call 35; refine hC.mono ?_; rintro e w1 ⟨rfl, q, rfl⟩; have hrw1 := hrw.kept (grown_drewN wr q) (own_none u14))
          | (at_builtin; refine wpList_append_own_at _ rfl _ _ 28 rfl (L + 16) 9 i0 (.string ⟨#[]⟩) 1 16 Try.underlying28 hi hz0 hz1 hz2 rfl (by decide) _ _ _ rfl (hrw1.alloc _) ⟨(wr.drewN q).heap.size, 0, none⟩ 1 1 [.string s] rfl rfl (cell_one_new _ _ _) (by simp [Value.oneCell']) (by simp; unfold maxLen; omega) (by simp; omega) (by simp; omega) ?_; intro v' w3 hown' hg3 hnil3 hloc; go_frame))
        have hgA : wr.grownBy ((wr.drewN q).alloc (.cells #[.string s] 9)) none := (grown_drewN wr q).andThen (World.grownBy_alloc _ _ none) (fun j hj => by cases hj)
        have hlt14 : ∀ b, u14.ownBlock = some b → L + 16 ≤ b := fun b hb => (hrw.lt b hb).1
        have hLv3 : Lev w L n c S w3 := (hLv.kept hgA (by simp)).kept hg3 hlt14
        have hcells3 := (hcells.grown hgA (by simp)).grown hg3 hgo
        have hown3 := (hown.kept hgA (by simp)).kept hg3 (fun e => by have := hlt14 _ e.symm; omega)
        have hgz3 : g < w3.heap.size := Nat.lt_of_lt_of_le hgz (Nat.le_trans hgA.size hg3.size)
        have hgo3 : v'.ownBlock ≠ some g := by
          rcases hloc with h | h
          · rw [h]; exact hgo
          · rw [h]; intro e; simp at e; omega
        have hrw3 : w3.ownsRow (L + 16) 9 1 v' (acc ++ unc S n (ks.take (k + 1))).length ((acc ++ unc S n (ks.take (k + 1))).map encStr) := by
          rw [HU.out, ← List.append_assoc, List.map_append, List.length_append]
          simpa [HS.out] using hown'
        have hrel : (k + 1 < ks.length → ∃ g', (some ⟨g, 0, none⟩ : Option Addr) = some ⟨g', 0, none⟩ ∧ L + 16 ≤ g' ∧ g' < w3.heap.size ∧ CellsAt w3 g' ks ∧ v'.ownBlock ≠ some g') ∧ Lev w L n c S w3 ∧
          (∃ D : DataW Unit, w3.ownsMap Try.prog 9 (plainElem Try.prog 4) (L + 1 + n) (Maps.size D) D) ∧ w3.ownsRow (L + 16) 9 1 v' (acc ++ unc S n (ks.take (k + 1))).length ((acc ++ unc S n (ks.take (k + 1))).map encStr) :=
          ⟨fun _ => ⟨g, rfl, hg16, hgz3, hcells3, hgo3⟩, hLv3, ⟨_, hown3⟩, hrw3⟩
        clear hgA hlt14 hLv3 hcells3 hown3 hgz3 hgo3 hrw3 hg3 hnil3 hloc hown' hrw1 hown hLv hcells hcell hrw hgo hC hcl hgz hsz
        go_roundw
        case rel => exact ⟨k + 1, by omega, by go_num, hrel⟩
        case measure => simp [intOf]; omega
    · obtain rfl : k = ks.length := by omega
      rw [List.take_length] at hrw
      have H := Lib.hid (And.intro hLv hrw)
      clear hLv hrw hcs hown
      go_wp2
      exact HE.out _ _ _ _ _ _ _ _ _ _ _ _ _ _ _ _ _ _ _ H.out
end Go.Proofs.Ytajddminbfiipaa.Ext
