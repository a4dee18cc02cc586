/- digits.Minimal: the loop that merges longer prefixes ahead of shorter ones. -/
import Derived.Test.YtajddminbfiipaaEMinPure
namespace Go.Proofs.Ytajddminbfiipaa.Ext
set_option linter.unusedVariables false
set_option linter.unusedSimpArgs false
open Go.RowKit Go.Maps Go.WideMaps Go.Sort

/-- The levels while the loop stands at n: from n on they are merged. -/
def LT (l : List Bytes) (n j : Nat) : Bytes → Bool := if n ≤ j then Tt l (14 - j) else S0 l j
def cc (n j : Nat) : Nat := if n ≤ j then 1024 * (15 - j) else 1024
theorem LT_good {l : List Bytes} (h : AllDig l) (n j : Nat) (hj : j ≤ 14) : Good j (LT l n j) := by
  unfold LT
  split
  · have := Tt_good h (14 - j) (by omega)
    rwa [show 14 - (14 - j) = j from by omega] at this
  · exact S0_good h j

theorem LT_step {l : List Bytes} (h : AllDig l) {n : Nat} (hn1 : 1 ≤ n) (hn : n ≤ 14) {ss : List Bytes} (hnd : ss.Nodup) (hm : ∀ x, x ∈ ss ↔ LT l n n x = true) :
    up (LT l n) (n - 1) (fun x => LT l n (n - 1) x || cntP n ss x == 10) = LT l (n - 1) := by
  funext j
  by_cases e : j = n - 1
  · subst e
    rw [up_same]
    funext x
    rw [cnt_ten hn1 hnd hm (LT_good h n n hn)]
    unfold LT
    rw [if_neg (by omega), if_pos (Nat.le_refl _), if_pos (Nat.le_refl _), show 14 - (n - 1) = (14 - n) + 1 from by omega]
    show _ = (S0 l (13 - (14 - n)) x || tenB (Tt l (14 - n)) x)
    rw [show 13 - (14 - n) = n - 1 from by omega]
  · rw [up_other _ _ _ e]
    unfold LT
    by_cases h1 : n ≤ j
    · rw [if_pos h1, if_pos (by omega)]
    · rw [if_neg h1, if_neg (by omega)]

set_option maxHeartbeats 4000000 in
set_option maxRecDepth 100000 in
theorem loopC {c0 c1 c2 c3 c5 c6 c7 c9 c10 c11 c12 c13 c14 c15 c16 c17 c18 c19 c20 c21 c22 c23 c24 c25 c26 c27 c28 c29 c30 c31 c32 c33 c34 c35 c36 c37 c38 c39 c40 c41 c42 c43 c44 c45 c46 c47 c48 c49 c50 c51 c52 c53 c54 c55 c56 c57 c58 c59 c60 c61 c62 c63 c64 c65 c66 c67 c68 c69 c70 c71 c72 c73 c74 c75 c76 c77 c78 c79 c80 c81 c82 c83 c84 c85 c86 c87 c88 c89 c90 c91 c92 c93 c94 c95 c96 c97 c98 c99 c100 c101 c102 c103 c104 c105 c106 : Value} (L : Nat) (l : List Bytes) (w W : World) (hd : AllDig l) (hL : Lev w L 15 (cc 14) (LT l 14) W)
    (Q : Exit → Act → World → Prop)
    (hexit : ∀ (u8 u9 u10 u11 u12 u43 u44 u45 u46 u47 u48 u49 u50 u51 u52 u53 u54 u55 u56 u57 u58 u59 u60 u61 u62 u63 u64 u65 u66 u67 u68 u69 u70 u71 u72 u73 u74 u75 u76 : Value) (W' : World), Lev w L 15 (cc 0) (LT l 0) W' → Q (.exit 4) ⟨#[c0, c1, c2, c3, .pointer (some ⟨L, 0, none⟩), c5, c6, c7, u8, u9, u10, u11, u12, c13, c14, c15, c16, c17, c18, c19, c20, c21, c22, c23, c24, c25, c26, c27, c28, c29, c30, c31, c32, c33, c34, c35, c36, c37, c38, c39, c40, c41, c42, u43, u44, u45, u46, u47, u48, u49, u50, u51, u52, u53, u54, u55, u56, u57, u58, u59, u60, u61, u62, u63, u64, u65, u66, u67, u68, u69, u70, u71, u72, u73, u74, u75, u76, c77, c78, c79, c80, c81, c82, c83, c84, c85, c86, c87, c88, c89, c90, c91, c92, c93, c94, c95, c96, c97, c98, c99, c100, c101, c102, c103, c104, c105, c106], []⟩ W') :
    Code.wp Try.prog (lp 2) Q ⟨#[c0, c1, c2, c3, .pointer (some ⟨L, 0, none⟩), c5, c6, c7, .int .i64 14, c9, c10, c11, c12, c13, c14, c15, c16, c17, c18, c19, c20, c21, c22, c23, c24, c25, c26, c27, c28, c29, c30, c31, c32, c33, c34, c35, c36, c37, c38, c39, c40, c41, c42, c43, c44, c45, c46, c47, c48, c49, c50, c51, c52, c53, c54, c55, c56, c57, c58, c59, c60, c61, c62, c63, c64, c65, c66, c67, c68, c69, c70, c71, c72, c73, c74, c75, c76, c77, c78, c79, c80, c81, c82, c83, c84, c85, c86, c87, c88, c89, c90, c91, c92, c93, c94, c95, c96, c97, c98, c99, c100, c101, c102, c103, c104, c105, c106], []⟩ W := by
  dsimp only at hexit ⊢
  conv => arg 2; whnf
  have hmm := @run_makeMap Try.prog
  go_loopw [8] (fun v wr => ∃ n : Nat, n ≤ 14 ∧ v = .int .i64 n ∧ Lev w L 15 (cc n) (LT l n) wr) (fun v _ => (intOf v).toNat)
  case atStart => exact ⟨14, by omega, rfl, hL⟩
  case round =>
    obtain ⟨n, hn, rfl, hLv⟩ := hrel
    clear hL
    by_cases hn1 : 1 ≤ n
    · have HE := Lib.hid hexit
      clear hexit
      have hLv1 := hLv.kept (World.grownBy_alloc wr (.map #[] 0) none) (by simp)
      have hcell := hLv1.cell n (by omega)
      obtain ⟨D, hown, hDc, h3, h4⟩ := hLv1.set n (by omega)
      have hsb : (wr.alloc (.map #[] 0)).ownsMap Try.prog 9 (plainElem Try.prog 3) wr.heap.size 0 (.map [] : DataW Unit) := World.ownsMap_made _ _ _ _
      have hsz := hLv.size
      have H3 := Lib.hid h3
      clear h3 h4
      go_wp2_with (at_range; refine wpList_range_own _ rfl _ 44 rfl 9 4 law9 Try.underlying44 _ (L + 1 + n) (Maps.size D) _ rfl hown ?_; intro w2 hrg2 hg2 hs2; go_frame)
      have hsa : (wr.alloc (.map #[] 0)).heap.size = wr.heap.size + 1 := World.size_alloc _ _
      have hccn : cc n n ≤ 20000 := by unfold cc; split <;> omega
      have hGn : Good n (LT l n n) := LT_good hd n n hn
      refine loopC1 L n wr.heap.size _ _ _ (cc n) (LT l n) D w w2 hn1 hn hccn hDc H3.out (fun x hx => (hGn x hx).1) (hLv1.kept hg2 (by simp)) hrg2 (Nat.le_refl _) (hsb.kept hg2 (by simp)) hsz (by rw [hsa]; omega) (by rw [hsa]; omega) _ ?_
      rintro u10 u52 u53 u54 u55 u56 u57 u58 u59 u60 u61 u62 w3 ⟨ss, C, hnd, hm, hssl, hownC, hCs, hT, hK, hLv3⟩
      dsimp only
      have hsz3 := hLv3.size
      clear hrg2 hg2 hs2 hown hcell hLv1 hsb hLv
      go_wp2_with (at_range; refine wpList_range_own _ rfl _ 46 rfl 9 3 law9 Try.underlying46 _ wr.heap.size (Maps.size C) _ rfl hownC ?_; intro w4 hrg4 hg4 hs4; go_frame)
      have hssl' : Maps.size C ≤ 1024 * (15 - n) := by
        have : cc n n = 1024 * (15 - n) := by unfold cc; rw [if_pos (Nat.le_refl _)]
        omega
      have hcp : cc n (n - 1) = 1024 := by unfold cc; rw [if_neg (by omega)]
      have hks : ∀ x, Maps.has C (.string x) = true → x.length ≤ 100 := hK
      refine loopC2 L n wr.heap.size _ _ _ (cc n) (LT l n) ss C w w4 hn1 hn (by rw [hcp]; omega) hT (hLv3.kept hg4 (by simp)) hrg4 (Nat.le_refl _) hsz (by omega) hks _ ?_
      rintro u11 u12 u65 u66 u67 u68 u69 u70 u71 u72 u73 u74 u75 u76 w5 hLv5
      dsimp only
      have hLv6 : Lev w L 15 (cc (n - 1)) (LT l (n - 1)) w5 := by
        refine hLv5.turn' (fun j _ => ?_) (fun j _ => by rw [LT_step hd hn1 hn hnd hm])
        by_cases e : j = n - 1
        · subst e; rw [up_same, hcp]; unfold cc; rw [if_pos (Nat.le_refl _)]; omega
        · rw [up_other _ _ _ e]; unfold cc
          by_cases h1 : n ≤ j
          · rw [if_pos h1, if_pos (by omega)]; exact Nat.le_refl _
          · rw [if_neg h1, if_neg (by omega)]; exact Nat.le_refl _
      clear hrg4 hg4 hs4 hLv5 hLv3 hT hownC hm hnd
      go_wp2
      go_roundw
      case rel => exact ⟨n - 1, by omega, by go_num, hLv6⟩
      case measure => simp [intOf]; omega
    · obtain rfl : n = 0 := by omega
      have H := Lib.hid hLv
      clear hLv
      go_wp2
      exact H.out
end Go.Proofs.Ytajddminbfiipaa.Ext
