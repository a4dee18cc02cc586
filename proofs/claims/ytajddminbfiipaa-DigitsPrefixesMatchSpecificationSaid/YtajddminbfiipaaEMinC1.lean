/- digits.Minimal: the loop that counts, for each string, how many of a level begin with it. -/
import Derived.Test.YtajddminbfiipaaEMinB
namespace Go.Proofs.Ytajddminbfiipaa.Ext
set_option linter.unusedVariables false
set_option linter.unusedSimpArgs false
open Go.RowKit Go.Maps Go.WideMaps Go.Sort

theorem zero3 (w : World) : (zeroValue 3).run Try.prog w = .ok (.int .i64 0) w := by kernel_rfl

theorem plainElem_bool_inv {H : Type} {P : Program} {e : TypeId} (he : P.underlying e = some .bool) {v : Value} {z : DataW H × List MemPlace} (h : plainElem P e v = some z) : ∃ a, v = .bool a ∧ z = (.lit (.bool a), []) := by
  unfold plainElem at h
  rw [he] at h
  cases v <;> simp at h
  exact ⟨_, rfl, h.symm⟩

theorem ext_le {s : ByteArray} (h : s.size ≤ 100) (a b : Nat) : (s.extract a b).size ≤ maxLen := by
  rw [ByteArray.size_extract]; unfold maxLen; omega
theorem ext_take (s : ByteArray) (n : Nat) : (s.extract 0 n).data.toList = s.data.toList.take n := by
  simp

/-- How many of ss have q for their first n - 1 bytes. -/
def cntP (n : Nat) (ss : List Bytes) (q : Bytes) : Nat := (ss.filter fun p => p.take (n - 1) == q).length
theorem cntP_snoc (n : Nat) (ss : List Bytes) (x q : Bytes) : cntP n (ss ++ [x]) q = cntP n ss q + if x.take (n - 1) = q then 1 else 0 := by
  unfold cntP
  by_cases e : x.take (n - 1) = q <;> simp [List.filter_append, e]
theorem cntP_le (n : Nat) (ss : List Bytes) (q : Bytes) : cntP n ss q ≤ ss.length := List.length_filter_le _ _

/-- The map C tells of each string how many of ss begin with it. -/
def Tally (n : Nat) (ss : List Bytes) (C : DataW Unit) : Prop := ∀ q : Bytes, C.atKey (.string q) (.lit (.int .i64 0)) = .lit (.int .i64 (cntP n ss q : Nat))

theorem Tally.step {n : Nat} {ss : List Bytes} {C : DataW Unit} (h : Tally n ss C) (hm : IsMap C) (x : Bytes) : Tally n (ss ++ [x]) (C.put (.string (x.take (n - 1))) (.lit (.int .i64 ((cntP n ss (x.take (n - 1)) : Nat) + 1 : Int)))) := by
  intro q
  rw [cntP_snoc]
  by_cases e : x.take (n - 1) = q
  · subst e
    rw [atKey_put_same hm (k := .string _) trivial]
    simp
  · rw [atKey_put_other (fun e' => e (by cases e'; rfl)), h q]
    simp [e]

set_option maxHeartbeats 2000000 in
set_option maxRecDepth 100000 in
theorem loopC1 {c0 c1 c2 c3 c5 c6 c7 c10 c11 c12 c13 c14 c15 c16 c17 c18 c19 c20 c21 c22 c23 c24 c25 c26 c27 c28 c29 c30 c31 c32 c33 c34 c35 c36 c37 c38 c39 c40 c41 c42 c43 c44 c45 c46 c47 c48 c49 c50 c52 c53 c54 c55 c56 c57 c58 c59 c60 c61 c62 c63 c64 c65 c66 c67 c68 c69 c70 c71 c72 c73 c74 c75 c76 c77 c78 c79 c80 c81 c82 c83 c84 c85 c86 c87 c88 c89 c90 c91 c92 c93 c94 c95 c96 c97 c98 c99 c100 c101 c102 c103 c104 c105 c106 : Value} (L n sb r nn cnt0 : Nat) (c : Nat → Nat) (S : Nat → Bytes → Bool) (D : DataW Unit) (w W : World) (hn1 : 1 ≤ n) (hn14 : n ≤ 14) (hc : c n ≤ 20000)
    (hD : Maps.size D ≤ c n) (hDS : ∀ x, Maps.has D (.string x) = S n x) (hlen : ∀ x, S n x = true → x.length = n)
    (hL : Lev w L 15 c S W) (hR : W.ranges Try.prog 9 (plainElem Try.prog 4) (L + 1 + n) r nn D (Maps.has D) cnt0) (hcnt : cnt0 ≤ Maps.size D) (hsb : W.ownsMap Try.prog 9 (plainElem Try.prog 3) sb 0 (.map [] : DataW Unit)) (hsL : L + 16 ≤ sb) (hrL : L + 16 ≤ r) (hsr : sb ≠ r)
    (Q : Exit → Act → World → Prop)
    (hexit : ∀ (u10 u52 u53 u54 u55 u56 u57 u58 u59 u60 u61 u62 : Value) (W' : World), (∃ (ss : List Bytes) (C : DataW Unit), ss.Nodup ∧ (∀ x, x ∈ ss ↔ S n x = true) ∧ ss.length ≤ c n ∧ W'.ownsMap Try.prog 9 (plainElem Try.prog 3) sb (Maps.size C) C ∧ Maps.size C ≤ ss.length ∧ Tally n ss C ∧ (∀ q, Maps.has C (.string q) = true → q.length ≤ 100) ∧ Lev w L 15 c S W') → Q (.exit 6) ⟨#[c0, c1, c2, c3, .pointer (some ⟨L, 0, none⟩), c5, c6, c7, .int .i64 n, .map (some sb), u10, c11, c12, c13, c14, c15, c16, c17, c18, c19, c20, c21, c22, c23, c24, c25, c26, c27, c28, c29, c30, c31, c32, c33, c34, c35, c36, c37, c38, c39, c40, c41, c42, c43, c44, c45, c46, c47, c48, c49, c50, .pointer (some ⟨r, 0, none⟩), u52, u53, u54, u55, u56, u57, u58, u59, u60, u61, u62, c63, c64, c65, c66, c67, c68, c69, c70, c71, c72, c73, c74, c75, c76, c77, c78, c79, c80, c81, c82, c83, c84, c85, c86, c87, c88, c89, c90, c91, c92, c93, c94, c95, c96, c97, c98, c99, c100, c101, c102, c103, c104, c105, c106], []⟩ W') :
    Code.wp Try.prog (lp 3) Q ⟨#[c0, c1, c2, c3, .pointer (some ⟨L, 0, none⟩), c5, c6, c7, .int .i64 n, .map (some sb), c10, c11, c12, c13, c14, c15, c16, c17, c18, c19, c20, c21, c22, c23, c24, c25, c26, c27, c28, c29, c30, c31, c32, c33, c34, c35, c36, c37, c38, c39, c40, c41, c42, c43, c44, c45, c46, c47, c48, c49, c50, .pointer (some ⟨r, 0, none⟩), c52, c53, c54, c55, c56, c57, c58, c59, c60, c61, c62, c63, c64, c65, c66, c67, c68, c69, c70, c71, c72, c73, c74, c75, c76, c77, c78, c79, c80, c81, c82, c83, c84, c85, c86, c87, c88, c89, c90, c91, c92, c93, c94, c95, c96, c97, c98, c99, c100, c101, c102, c103, c104, c105, c106], []⟩ W := by
  dsimp only at hexit ⊢
  conv => arg 2; whnf
  go_loopw [10] (fun _ wr => ∃ (left : Lit → Bool) (cnt : Nat) (ss : List Bytes) (C : DataW Unit), wr.ranges Try.prog 9 (plainElem Try.prog 4) (L + 1 + n) r nn D left cnt ∧ ss.length + cnt ≤ Maps.size D ∧ Collected D left ss ∧
      wr.ownsMap Try.prog 9 (plainElem Try.prog 3) sb (Maps.size C) C ∧ Maps.size C ≤ ss.length ∧ Tally n ss C ∧ (∀ q, Maps.has C (.string q) = true → q.length ≤ 100) ∧ Lev w L 15 c S wr)
    (fun _ wr => wr.rangeLeft (L + 1 + n) r)
  case atStart => exact ⟨_, cnt0, [], .map [], hR, by simpa using hcnt, Collected.start D, hsb, Nat.le_refl _, fun q => by simp [cntP, DataW.atKey], fun q e => by simp [Maps.has] at e, hL⟩
  case round =>
    obtain ⟨left, cnt, ss, C, hrg, hcs, hC, hown, hCs, hT, hKq, hLv⟩ := hrel
    clear hL hR hsb
    have HE := Lib.hid hexit
    have HD := Lib.hid hDS
    have HQ := Lib.hid hKq
    have HL := Lib.hid hlen
    clear hexit hDS hlen hKq
    go_wp2_with (at_next; refine wpList_next_ranges _ rfl _ rfl 9 law9 (plainElem Try.prog 4) encStr (fun v : Value => v) (fun key kl hk => by obtain ⟨x, hx, _⟩ := Maps.keyOf_str Try.underlying9 hk; exact ⟨x, hx⟩) (fun v _ _ => ⟨v, rfl⟩) (L + 1 + n) r nn _ _ _ rfl hrg ?_ ?_)
    · intro _ hl0
      have hp : ∃ (ss : List Bytes) (C : DataW Unit), ss.Nodup ∧ (∀ x, x ∈ ss ↔ S n x = true) ∧ ss.length ≤ c n ∧ wr.ownsMap Try.prog 9 (plainElem Try.prog 3) sb (Maps.size C) C ∧ Maps.size C ≤ ss.length ∧ Tally n ss C ∧ (∀ q, Maps.has C (.string q) = true → q.length ≤ 100) ∧ Lev w L 15 c S wr :=
        ⟨ss, C, hC.1, fun x => by rw [hC.2 x, hl0, HD.out]; simp, by omega, hown, hCs, hT, HQ.out, hLv⟩
      have HP := Lib.hid hp
      clear hp hown hCs hT hLv hC hrg HD HL hcs hl0
      go_wp2
      exact HE.out _ _ _ _ _ _ _ _ _ _ _ _ _ HP.out
    · intro x cv kl yd yp w2 cnt2 hkey hlk hv hat hrg2 hlt hg2 hs2 hen
      obtain ⟨x', ex, rfl, _⟩ := Maps.keyOf_str Try.underlying9 hkey
      obtain rfl : x = x' := encStr_inj ex
      have hxl : x.length = n := HL.out x (by rw [← HD.out]; exact has_true_of_atKey hat)
      obtain ⟨s, hs, hsx⟩ : ∃ s : ByteArray, encStr x = .string s ∧ s.data.toList = x := ⟨_, rfl, by simp⟩
      have hsn : s.size = n := by rw [← hxl, ← hsx]; simp
      have HX := Lib.hid hsx
      have HN := Lib.hid hsn
      have hsz : s.size ≤ 100 := by omega
      have hn1' : (n : Int) - 1 ≤ s.size := by omega
      rw [hs] at hen
      have hown2 := hown.kept hg2 (by simp; omega)
      have hLv2 := hLv.kept hg2 (fun k e => by cases e; exact hrL)
      rw [hs]
      clear hs hsx hsn ex hs2
      go_wp2_with (first
        | (at_lookup; refine wpList_lookup_own_int _ rfl _ _ 46 rfl 9 3 .i64 law9 Try.underlying46 Try.underlying3 (zero3 _) sb (Maps.size C) _ rfl hown2 _ _ rfl (keyOf_string_mk Try.underlying9 (ext_le hsz _ _)) ?_; intro cq hatq hwc)
        | (at_mapUpdate; refine wpList_mapUpdate_own _ rfl _ _ _ 46 rfl 9 3 law9 Try.underlying46 _ sb (Maps.size C) _ rfl hown2 (by unfold maxLen; omega) _ _ _ rfl rfl (keyOf_string_mk Try.underlying9 (ext_le hsz _ _)) _ [] (plainElem_int Try.underlying3 (wrap64_wf _)) ?_; intro w3 hown3 hgrow3; go_frame))
      have hcq : cq = (cntP n ss (x.take (n - 1)) : Nat) := by
        have e1 : (s.extract 0 (n - 1)).data.toList = x.take (n - 1) := by rw [ext_take, HX.out]
        rw [e1, hT] at hatq
        simpa using hatq.symm
      have hle := cntP_le n ss (x.take (n - 1))
      have hown4 : w3.ownsMap Try.prog 9 (plainElem Try.prog 3) sb (Maps.size C + 1) (C.put (.string (x.take (n - 1))) (.lit (.int .i64 ((cntP n ss (x.take (n - 1)) : Nat) + 1 : Int)))) := by
        have e1 : (s.extract 0 (n - 1)).data.toList = x.take (n - 1) := by rw [ext_take, HX.out]
        have e2 : wrap64 (cq + 1) = (cntP n ss (x.take (n - 1)) : Nat) + 1 := by rw [hcq]; unfold wrap64; omega
        rw [e1, e2] at hown3
        exact hown3
      have hrg3 := hrg2.kept hgrow3 (by simp; omega) (by simp; omega)
      have hLv3 := hLv2.kept hgrow3 (fun k e => by cases e; exact hsL)
      have hKq' : ∀ q, Maps.has (C.put (.string (x.take (n - 1))) (.lit (.int .i64 ((cntP n ss (x.take (n - 1)) : Nat) + 1 : Int)))) (.string q) = true → q.length ≤ 100 := by
        intro q hq
        by_cases e : q = x.take (n - 1)
        · rw [e]; simp; omega
        · rw [has_put_other (fun e' => e (by cases e'; rfl))] at hq; exact HQ.out q hq
      have hs4 := size_put (hown2.tidy law9) (k := .string (x.take (n - 1))) (.lit (.int .i64 ((cntP n ss (x.take (n - 1)) : Nat) + 1 : Int)))
      have hrel : ∃ (left : Lit → Bool) (cnt : Nat) (ss : List Bytes) (C : DataW Unit), w3.ranges Try.prog 9 (plainElem Try.prog 4) (L + 1 + n) r nn D left cnt ∧ ss.length + cnt ≤ Maps.size D ∧ Collected D left ss ∧
          w3.ownsMap Try.prog 9 (plainElem Try.prog 3) sb (Maps.size C) C ∧ Maps.size C ≤ ss.length ∧ Tally n ss C ∧ (∀ q, Maps.has C (.string q) = true → q.length ≤ 100) ∧ Lev w L 15 c S w3 :=
        ⟨_, cnt2, ss ++ [x], _, hrg3, by simp; omega, hC.step hlk hat, ownsMap_tight hown4, by rw [hs4]; simp; split <;> omega, hT.step hown2.isMap x, hKq', hLv3⟩
      have hmes : w3.rangeLeft (L + 1 + n) r < wr.rangeLeft (L + 1 + n) r := by rw [hrg3.left_eq, hrg.left_eq]; exact hlt
      clear hs4 hown4 hown3 hgrow3 hcq hatq hown2 hT hC hat hlk hrg2 hrg3 hLv3 hLv2 hen
      go_roundw
      case rel => exact hrel
      case measure => exact hmes
end Go.Proofs.Ytajddminbfiipaa.Ext
