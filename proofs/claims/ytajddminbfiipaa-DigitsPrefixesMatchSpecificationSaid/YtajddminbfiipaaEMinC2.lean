/- digits.Minimal: the loop that lays a string whose ten extensions are there into the level above. -/
import Derived.Test.YtajddminbfiipaaEMinC1
namespace Go.Proofs.Ytajddminbfiipaa.Ext
set_option linter.unusedVariables false
set_option linter.unusedSimpArgs false
open Go.RowKit Go.Maps Go.WideMaps Go.Sort

def up {α : Type} (f : Nat → α) (m : Nat) (v : α) : Nat → α := fun j => if j = m then v else f j
theorem up_same {α : Type} (f : Nat → α) (m : Nat) (v : α) : up f m v m = v := by simp [up]
theorem up_other {α : Type} (f : Nat → α) (m : Nat) (v : α) {j : Nat} (h : j ≠ m) : up f m v j = f j := by simp [up, h]

def addTen (n : Nat) (ss vs : List Bytes) (S : Bytes → Bool) (x : Bytes) : Bool := S x || (vs.contains x && cntP n ss x == 10)
theorem addTen_stay {n : Nat} {ss vs : List Bytes} {S : Bytes → Bool} {p : Bytes} (h : (cntP n ss p == 10) = false) : addTen n ss (vs ++ [p]) S = addTen n ss vs S := by
  funext x
  unfold addTen
  by_cases e : x = p
  · subst e; simp [h]
  · simp [e]
theorem addTen_put {n : Nat} {ss vs : List Bytes} {S : Bytes → Bool} {p : Bytes} (h : (cntP n ss p == 10) = true) : addTen n ss (vs ++ [p]) S = fun x => addTen n ss vs S x || x == p := by
  funext x
  unfold addTen
  by_cases e : x = p
  · subst e; simp [h]
  · simp [e]

set_option maxHeartbeats 2000000 in
set_option maxRecDepth 100000 in
theorem loopC2 {c0 c1 c2 c3 c5 c6 c7 c9 c10 c11 c12 c13 c14 c15 c16 c17 c18 c19 c20 c21 c22 c23 c24 c25 c26 c27 c28 c29 c30 c31 c32 c33 c34 c35 c36 c37 c38 c39 c40 c41 c42 c43 c44 c45 c46 c47 c48 c49 c50 c51 c52 c53 c54 c55 c56 c57 c58 c59 c60 c61 c62 c63 c65 c66 c67 c68 c69 c70 c71 c72 c73 c74 c75 c76 c77 c78 c79 c80 c81 c82 c83 c84 c85 c86 c87 c88 c89 c90 c91 c92 c93 c94 c95 c96 c97 c98 c99 c100 c101 c102 c103 c104 c105 c106 : Value} (L n sb r nn cnt0 : Nat) (c : Nat → Nat) (S : Nat → Bytes → Bool) (ss : List Bytes) (C : DataW Unit) (w W : World) (hn1 : 1 ≤ n) (hn14 : n ≤ 14) (hc : c (n - 1) + Maps.size C ≤ 20000)
    (hT : Tally n ss C) (hL : Lev w L 15 c S W) (hR : W.ranges Try.prog 9 (plainElem Try.prog 3) sb r nn C (Maps.has C) cnt0) (hcnt : cnt0 ≤ Maps.size C) (hsL : L + 16 ≤ sb) (hrL : L + 16 ≤ r)
    (hk100 : ∀ x, Maps.has C (.string x) = true → x.length ≤ 100)
    (Q : Exit → Act → World → Prop)
    (hexit : ∀ (u11 u12 u65 u66 u67 u68 u69 u70 u71 u72 u73 u74 u75 u76 : Value) (W' : World), Lev w L 15 (up c (n - 1) (c (n - 1) + Maps.size C)) (up S (n - 1) (fun x => S (n - 1) x || cntP n ss x == 10)) W' → Q (.exit 8) ⟨#[c0, c1, c2, c3, .pointer (some ⟨L, 0, none⟩), c5, c6, c7, .int .i64 n, c9, c10, u11, u12, c13, c14, c15, c16, c17, c18, c19, c20, c21, c22, c23, c24, c25, c26, c27, c28, c29, c30, c31, c32, c33, c34, c35, c36, c37, c38, c39, c40, c41, c42, c43, c44, c45, c46, c47, c48, c49, c50, c51, c52, c53, c54, c55, c56, c57, c58, c59, c60, c61, c62, c63, .pointer (some ⟨r, 0, none⟩), u65, u66, u67, u68, u69, u70, u71, u72, u73, u74, u75, u76, c77, c78, c79, c80, c81, c82, c83, c84, c85, c86, c87, c88, c89, c90, c91, c92, c93, c94, c95, c96, c97, c98, c99, c100, c101, c102, c103, c104, c105, c106], []⟩ W') :
    Code.wp Try.prog (lp 4) Q ⟨#[c0, c1, c2, c3, .pointer (some ⟨L, 0, none⟩), c5, c6, c7, .int .i64 n, c9, c10, c11, c12, c13, c14, c15, c16, c17, c18, c19, c20, c21, c22, c23, c24, c25, c26, c27, c28, c29, c30, c31, c32, c33, c34, c35, c36, c37, c38, c39, c40, c41, c42, c43, c44, c45, c46, c47, c48, c49, c50, c51, c52, c53, c54, c55, c56, c57, c58, c59, c60, c61, c62, c63, .pointer (some ⟨r, 0, none⟩), c65, c66, c67, c68, c69, c70, c71, c72, c73, c74, c75, c76, c77, c78, c79, c80, c81, c82, c83, c84, c85, c86, c87, c88, c89, c90, c91, c92, c93, c94, c95, c96, c97, c98, c99, c100, c101, c102, c103, c104, c105, c106], []⟩ W := by
  dsimp only at hexit ⊢
  conv => arg 2; whnf
  go_loopw [11] (fun _ wr => ∃ (left : Lit → Bool) (cnt : Nat) (vs : List Bytes), wr.ranges Try.prog 9 (plainElem Try.prog 3) sb r nn C left cnt ∧ vs.length + cnt ≤ Maps.size C ∧ Collected C left vs ∧
      Lev w L 15 (up c (n - 1) (c (n - 1) + vs.length)) (up S (n - 1) (addTen n ss vs (S (n - 1)))) wr)
    (fun _ wr => wr.rangeLeft sb r)
  case atStart =>
    refine ⟨_, cnt0, [], hR, by simpa using hcnt, Collected.start C, hL.turn' (fun j _ => ?_) (fun j _ => ?_)⟩
    · by_cases e : j = n - 1
      · subst e; rw [up_same]; simp
      · rw [up_other _ _ _ e]; exact Nat.le_refl _
    · by_cases e : j = n - 1
      · subst e; rw [up_same]; funext x; simp [addTen]
      · rw [up_other _ _ _ e]
  case round =>
    obtain ⟨left, cnt, vs, hrg, hcs, hC, hLv⟩ := hrel
    clear hL hR
    have HE := Lib.hid hexit
    have HT := Lib.hid hT
    have HK := Lib.hid hk100
    clear hexit hT hk100
    go_wp2_with (at_next; refine wpList_next_ranges _ rfl _ rfl 9 law9 (plainElem Try.prog 3) encStr (Value.int .i64) (fun key kl hk => by obtain ⟨x, hx, _⟩ := Maps.keyOf_str Try.underlying9 hk; exact ⟨x, hx⟩) (fun v y hv => by obtain ⟨c, rfl, _⟩ := plainElem_int_inv Try.underlying3 hv; exact ⟨c, rfl⟩) sb r nn _ _ _ rfl hrg ?_ ?_)
    · intro _ hl0
      have hp : Lev w L 15 (up c (n - 1) (c (n - 1) + Maps.size C)) (up S (n - 1) (fun x => S (n - 1) x || cntP n ss x == 10)) wr := by
        refine hLv.turn' (fun j _ => ?_) (fun j _ => ?_)
        · by_cases e : j = n - 1
          · subst e; rw [up_same, up_same]; omega
          · rw [up_other _ _ _ e, up_other _ _ _ e]; exact Nat.le_refl _
        · by_cases e : j = n - 1
          · subst e; rw [up_same, up_same]; funext x
            unfold addTen
            have hm := hC.2 x
            rw [hl0] at hm
            cases hh : Maps.has C (.string x) with
            | true =>
              have : x ∈ vs := by rw [hm, hh]; simp
              simp [this]
            | false =>
              have h0 := HT.out x
              rw [atKey_of_not_has hh] at h0
              have h1 : cntP n ss x = 0 := by simp at h0; omega
              have : x ∉ vs := by rw [hm, hh]; simp
              simp [this, h1]
          · rw [up_other _ _ _ e, up_other _ _ _ e]
      have HP := Lib.hid hp
      clear hp hLv hC hrg hcs hl0
      go_wp2
      exact HE.out _ _ _ _ _ _ _ _ _ _ _ _ _ _ _ HP.out
    · intro x cv kl yd yp w2 cnt2 hkey hlk hv hat hrg2 hlt hg2 hs2 hen
      obtain ⟨x', ex, rfl, _⟩ := Maps.keyOf_str Try.underlying9 hkey
      obtain rfl : x = x' := encStr_inj ex
      have hxl : x.length ≤ 100 := HK.out x (has_true_of_atKey hat)
      have hcv : cv = (cntP n ss x : Nat) := by
        obtain ⟨a, e1, e2, _⟩ := plainElem_int_inv Try.underlying3 hv
        have h1 := HT.out x
        rw [hat] at h1
        simp only [Value.int.injEq] at e1
        simp only [Prod.mk.injEq] at e2
        rw [e2.1] at h1
        simp at h1
        omega
      obtain ⟨s, hs, hsx⟩ : ∃ s : ByteArray, encStr x = .string s ∧ s.data.toList = x := ⟨_, rfl, by simp⟩
      have hsz : s.size ≤ 100 := by have : s.size = x.length := by rw [← hsx]; simp
                                    omega
      have HX := Lib.hid hsx
      have HCV := Lib.hid hcv
      rw [hs] at hen
      have hLv2 := hLv.kept hg2 (fun k e => by cases e; exact hrL)
      have hC2 := hC.step hlk hat
      have hmes : ∀ w3 : World, w3.ranges Try.prog 9 (plainElem Try.prog 3) sb r nn C (fun z => left z && !z.sameKey (.string x)) cnt2 → w3.rangeLeft sb r < wr.rangeLeft sb r := fun w3 h => by rw [h.left_eq, hrg.left_eq]; exact hlt
      have Hmes := Lib.hid hmes
      by_cases h10 : cntP n ss x = 10
      · have hb : (cv == 10) = true := by rw [hcv, h10]; rfl
        rw [hs]
        clear hs hsx hcv ex hs2 hmes hlk hat hv hkey hC hLv
        have hcell := hLv2.cell (n - 1) (by omega)
        obtain ⟨D, hown, hDc0, h3, h4⟩ := hLv2.set (n - 1) (by omega)
        rw [up_same] at hDc0 h3 h4
        have hDc : Maps.size D ≤ c (n - 1) + vs.length := hDc0
        have H3 := Lib.hid h3
        have H4 := Lib.hid h4
        have H10 := Lib.hid h10
        clear hDc0 h3 h4 h10
        go_wp2_with (at_mapUpdate; refine wpList_mapUpdate_own _ rfl _ _ _ 44 rfl 9 4 law9 Try.underlying44 _ (L + 1 + (n - 1)) (Maps.size D) _ rfl hown (by unfold maxLen; omega) _ _ _ rfl rfl (keyOf_string_mk Try.underlying9 (by unfold maxLen; omega)) _ [] (plainElem_bool Try.underlying4 true) ?_; intro w3 hown3 hgrow3; go_frame)
        rw [HX.out] at hown3
        have hS := SetAt.put hown hDc H3.out H4.out hown3
        have hrg3 := hrg2.kept hgrow3 (by simp; omega) (by simp; omega)
        have hL3 : Lev w L 15 (up c (n - 1) (c (n - 1) + (vs ++ [x]).length)) (up S (n - 1) (addTen n ss (vs ++ [x]) (S (n - 1)))) w3 := by
          refine hLv2.turn hgrow3 (fun _ => ?_) (fun j e => by rw [up_other _ _ _ e, up_other _ _ _ e]) (fun j e => by rw [up_other _ _ _ e, up_other _ _ _ e])
          rw [up_same, up_same, addTen_put (by rw [H10.out]; rfl)]
          simpa [Nat.add_assoc] using hS
        have hrel : ∃ (left : Lit → Bool) (cnt : Nat) (vs : List Bytes), w3.ranges Try.prog 9 (plainElem Try.prog 3) sb r nn C left cnt ∧ vs.length + cnt ≤ Maps.size C ∧ Collected C left vs ∧
            Lev w L 15 (up c (n - 1) (c (n - 1) + vs.length)) (up S (n - 1) (addTen n ss vs (S (n - 1)))) w3 := ⟨_, cnt2, vs ++ [x], hrg3, by simp; omega, hC2, hL3⟩
        have hm := Hmes.out _ hrg3
        clear hS hgrow3 hown3 hown H3 H4 hLv2 hcell hL3 hrg3 hC2 hrg2
        go_roundw
        case rel => exact hrel
        case measure => exact hm
      · have hb : (cv == 10) = false := by rw [hcv]; rw [beq_eq_false_iff_ne]; omega
        rw [hs]
        have hL3 : Lev w L 15 (up c (n - 1) (c (n - 1) + (vs ++ [x]).length)) (up S (n - 1) (addTen n ss (vs ++ [x]) (S (n - 1)))) w2 := by
          rw [addTen_stay (by rw [beq_eq_false_iff_ne]; exact h10)]
          refine hLv2.turn' (fun j _ => ?_) (fun _ _ => rfl)
          by_cases e : j = n - 1
          · subst e; rw [up_same, up_same]; simp
          · rw [up_other _ _ _ e, up_other _ _ _ e]; exact Nat.le_refl _
        have hrel : ∃ (left : Lit → Bool) (cnt : Nat) (vs : List Bytes), w2.ranges Try.prog 9 (plainElem Try.prog 3) sb r nn C left cnt ∧ vs.length + cnt ≤ Maps.size C ∧ Collected C left vs ∧
            Lev w L 15 (up c (n - 1) (c (n - 1) + vs.length)) (up S (n - 1) (addTen n ss vs (S (n - 1)))) w2 := ⟨_, cnt2, vs ++ [x], hrg2, by simp; omega, hC2, hL3⟩
        have hm := Hmes.out _ hrg2
        clear hs hsx hcv ex hs2 hmes hlk hat hv hkey hC hLv hL3 hLv2 hC2 hrg2 h10
        go_wp2
        go_roundw
        case rel => exact hrel
        case measure => exact hm
end Go.Proofs.Ytajddminbfiipaa.Ext
