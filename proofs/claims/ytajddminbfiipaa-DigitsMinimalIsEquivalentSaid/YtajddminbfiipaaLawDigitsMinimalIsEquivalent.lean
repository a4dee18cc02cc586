/- The law DigitsMinimalIsEquivalent holds: it answers true for every input that the statement names. -/
import Derived.Test.YtajddminbfiipaaQx6
import Derived.Test.YtajddminbfiipaaEPlain
import Derived.Test.YtajddminbfiipaaRows
import Derived.WalkKit
import Derived.ProofKit
import Derived.OpenShut
import Derived.ShutString
import Derived.ChangeOld
import Derived.Below
import Derived.SizedLaws
import Derived.SliceStrings
namespace Go.Proofs.Ytajddminbfiipaa.Pure
set_option linter.unusedVariables false
set_option linter.unusedSimpArgs false
open Go.RowKit Go.Proofs.Ytajddminbfiipaa.Q Go.Proofs.Ytajddminbfiipaa.Ext Go.Proofs.YtajddminbfiipaaW.PrintWords Go.Proofs.YtajddminbfiipaaW.PrintLast

theorem bt_range (s : ByteArray) (i : Int) : 0 ≤ bt s i ∧ bt s i < 256 := by
  unfold bt
  split
  next h => exact ⟨by omega, by have := (s[i.toNat]'h).toNat_lt; omega⟩
  next => exact ⟨by omega, by omega⟩

theorem one_digit {v : Int} (h0 : 48 ≤ v) (h1 : v ≤ 57) : (strOfNums [v]).size = 1 ∧ ∀ x ∈ (strOfNums [v]).data.toList, isDig x = true := by
  refine ⟨rfl, fun x hx => ?_⟩
  simp [strOfNums] at hx
  subst hx
  obtain ⟨d, hd, rfl⟩ : ∃ d : Nat, d < 10 ∧ v = 48 + (d : Int) := ⟨(v - 48).toNat, by omega, by omega⟩
  have e : (48 + (d : Int)).toNat = 48 + d := by omega
  rw [e]
  exact digit_is hd

theorem fifteen_l0 (a : ByteArray) : ∀ (d i k : Nat) (x : ByteArray), 15 - i = d → i ≤ 15 → d < k → x.size = i → (∀ c ∈ x.data.toList, isDig c = true) →
    ∃ n, crossbarlaw06_fifteen.l0 k a x (i : Int) = some n ∧ n.size = 15 ∧ ∀ c ∈ n.data.toList, isDig c = true := by
  intro d
  induction d with
  | zero =>
    intro i k x hd hi hk hs hx
    obtain ⟨k, rfl⟩ : ∃ m, k = m + 1 := ⟨k - 1, by omega⟩
    simp only [crossbarlaw06_fifteen.l0]
    rw [if_neg (by omega)]
    exact ⟨x, rfl, by omega, hx⟩
  | succ d ih =>
    intro i k x hd hi hk hs hx
    obtain ⟨k, rfl⟩ : ∃ m, k = m + 1 := ⟨k - 1, by omega⟩
    have hw : wrap64 ((i : Int) + 1) = ((i + 1 : Nat) : Int) := by unfold wrap64; omega
    simp only [crossbarlaw06_fifteen.l0]
    rw [if_pos (by omega), hw]
    split
    next =>
      rw [if_pos (by omega)]
      have hb := bt_range a (i : Int)
      obtain ⟨h1, h2⟩ := one_digit (v := (48 + (Int.tmod (bt a (i : Int)) 10)) % 256) (by
        have := Int.tmod_eq_emod_of_nonneg (b := 10) hb.1; omega) (by have := Int.tmod_eq_emod_of_nonneg (b := 10) hb.1; omega)
      simp only [Option.bind_some]
      rw [if_pos (by omega)]
      exact ih (i + 1) k _ (by omega) (by omega) (by omega) (by rw [size_app]; omega) (app_dig hx h2)
    next =>
      obtain ⟨h1, h2⟩ := one_digit (v := 48) (by omega) (by omega)
      simp only [Option.bind_some]
      rw [if_pos (by omega)]
      exact ih (i + 1) k _ (by omega) (by omega) (by omega) (by rw [size_app]; omega) (app_dig hx h2)

theorem fifteen_any (a : ByteArray) {k : Nat} (hk : 20 ≤ k) : ∃ n, crossbarlaw06_fifteen.f k a = some n ∧ n.size = 15 ∧ ∀ c ∈ n.data.toList, isDig c = true :=
  fifteen_l0 a 15 0 k _ (by omega) (by omega) (by omega) rfl (by simp)

theorem eq_min {l : List ByteArray} (ha : AllOk l) {n : ByteArray} (hl : 15 ≤ n.size) (hd : ∀ c ∈ n.data.toList, isDig c = true) : matchesB ((minL (Ext.bytes l)).map mkB) n = matchesB l n := by
  rw [Bool.eq_iff_iff, matches_iff, matches_iff, bytes_mkB]
  exact match_min ha.len (by rw [size_list]; exact hl) hd

theorem equiv_l0 (l x : List ByteArray) (n : ByteArray) (hn : n.size = 15) (hll : l.length ≤ 60) (hs : ∀ p ∈ l, p.size ≤ 40) (hx : x.length ≤ l.length)
    (hm : ∀ p ∈ l, matchesB x ((p ++ n).extract 0 15) = true) : ∀ (d i k : Nat), l.length - i = d → i ≤ l.length → d < k →
    crossbarlaw06_DigitsMinimalIsEquivalent.l0 k l x n (i : Int) = some true := by
  intro d
  induction d with
  | zero =>
    intro i k hd hi hk
    obtain ⟨k, rfl⟩ : ∃ m, k = m + 1 := ⟨k - 1, by omega⟩
    simp only [crossbarlaw06_DigitsMinimalIsEquivalent.l0]
    rw [if_neg (by omega), decide_eq_true (by omega)]
  | succ d ih =>
    intro i k hd hi hk
    obtain ⟨k, rfl⟩ : ∃ m, k = m + 1 := ⟨k - 1, by omega⟩
    have hw : wrap64 ((i : Int) + 1) = ((i + 1 : Nat) : Int) := by unfold wrap64; omega
    have hi' : i < l.length := by omega
    have hg : l.getD i ByteArray.empty = l[i] := by simp [List.getD_eq_getElem?_getD, hi']
    have hsz := hs l[i] (List.getElem_mem hi')
    simp only [crossbarlaw06_DigitsMinimalIsEquivalent.l0]
    rw [if_pos (by omega), if_pos (by omega), rd_nat, hg, hw, if_pos (by omega), if_neg (by rw [size_app]; omega), if_pos (by omega), if_pos (by rw [size_app]; omega)]
    simp only [digits_Matches.f, Option.bind_some]
    rw [hm _ (List.getElem_mem hi'), if_pos rfl]
    exact ih (i + 1) k (by omega) (by omega) (by omega)

theorem DigitsMinimalIsEquivalent (l0 : List ByteArray) (a1 : ByteArray) (_hb : l0.length * 16 ≤ 140737488351232) (_w1 : a1.size ≤ 140737488351232) : ∃ k, crossbarlaw06_DigitsMinimalIsEquivalent.f k l0 a1 = some true := by
  refine ⟨300, ?_⟩
  unfold crossbarlaw06_DigitsMinimalIsEquivalent.f
  obtain ⟨b, hf, hb⟩ := few_any l0 (k := 300) (by omega)
  rw [sane_true 300 (by omega), hf, short_any]
  simp only [Option.bind_some, if_true]
  split
  next h =>
    obtain ⟨hlen, hsz⟩ := hb h
    simp only [crossbarlaw06_DigitsMinimalIsEquivalent.j0]
    split
    next => rfl
    next =>
      obtain ⟨n, hn, hns, hnd⟩ := fifteen_any a1 (k := 299) (by omega)
      simp only [digits_Minimal.f, Option.bind_some]
      rcases min_cases (l := l0) (by omega) with ⟨ha, hm⟩ | hm
      · rw [hm]
        simp only [if_true, hn, Option.bind_some, digits_Matches.f]
        rw [eq_min ha (by omega) hnd]
        rw [if_neg (by simp)]
        refine equiv_l0 l0 _ n hns hlen hsz ?_ ?_ l0.length 0 299 (by omega) (by omega) (by omega)
        · rw [List.length_map]
          have := minL_len ha.len
          simpa [Ext.bytes] using this
        · intro p hp
          have hp14 := (onlyB_iff.1 (ha p hp))
          have he : ((p ++ n).extract 0 15).data.toList = (p.data.toList ++ n.data.toList).take 15 := by rw [ext_take', app_list]
          have hsz2 : 15 ≤ ((p ++ n).extract 0 15).size := by
            rw [← size_list, he, List.length_take, List.length_append, size_list, size_list]; omega
          rw [eq_min ha hsz2 (fun c hc => by
            rw [he] at hc
            rcases List.mem_append.1 (List.mem_of_mem_take hc) with h | h
            · exact hp14.2.2 c h
            · exact hnd c h)]
          rw [matches_iff]
          refine ⟨p.data.toList, List.mem_map.2 ⟨p, hp, rfl⟩, ?_⟩
          rw [he, List.prefix_take_iff]
          exact ⟨List.prefix_append _ _, by rw [size_list]; omega⟩
      · rw [hm]; rfl
  next => rfl
end Go.Proofs.Ytajddminbfiipaa.Pure
namespace Go.Proofs.Ytajddminbfiipaa.digitsMinimalIsEquivalent
open Go.ChangeShapes Go.WideShapes Go.ChangeAt Go.RowKit
open Go.ChangeMaps (open_string shut_string)
set_option linter.unusedVariables false
set_option linter.unusedSimpArgs false
theorem own : ownKnob Try.prog.godebug = none := by kernel_rfl
theorem laidOut : laidOutB Try.prog = true := by kernel_rfl
theorem cells9 : Try.prog.cellsOf 9 = 1 := by kernel_rfl
theorem bytes9 : Try.prog.bytesOf 9 = 16 := by kernel_rfl
set_option maxRecDepth 100000 in
theorem lifted (os : Os) (started : os.Started) (H : Type) (enc : TypeId × Value → H) :
    ReturnsInHanded {} Try.checked os 8 .any (Rows.digitsMinimalIsEquivalentSpec.pre6 enc Try.prog Try.f8 Rows.digitsMinimalIsEquivalentRow.domain false) (Rows.digitsMinimalIsEquivalentSpec.post enc Try.prog Try.f8 false true false false) := by
  refine returnsInHanded_of_change_sized (C := Try.checked) own started (by kernel_rfl) Try.func8
    (ChangeSpec.witness6 (enc := enc) (C := Try.checked) false ⟨#[], #[.slice none 0 0, .string ByteArray.empty], []⟩ 8 (by kernel_rfl) (by kernel_rfl) (by kernel_rfl) (by kernel_rfl)) ?_
  intro W base args ds gs before hval0 hW hcnd hsz0 _
  have hsz : (DataW.weightsEach Try.prog (Try.f8.params.toList ++ Rows.digitsMinimalIsEquivalentSpec.plain.varTypes Try.prog) (ds ++ gs)).all (· ≤ reachBytes) = true := hsz0
  have hval : ∀ (j : Nat) t v, Try.f8.params[j]? = some t → args[j]? = some v → Value.okWide Try.prog W .any base t v := hval0
  have hW' := hW
  obtain ⟨p, q, hA0, hV, rfl, hfz, hnd⟩ := hW
  have hA : DataW.TrodAll enc Try.prog W 0 (fun _ => true) true Try.f8.params.toList args.toList ds p := hA0
  rw [Try.params8] at hA hval hsz
  obtain ⟨v0, vs0, d0, ds0, p0, q0, hargs, rfl, rfl, h0, r0⟩ := trodAll_cons hA
  obtain ⟨v1, vs1, d1, ds1, p1, q1, rfl, rfl, rfl, h1, r1⟩ := trodAll_cons r0
  obtain ⟨rfl, rfl, rfl⟩ := trodAll_nil r1
  obtain rfl : args = #[v0, v1] := by cases args; simp_all
  obtain ⟨rfl, rfl⟩ := trodVars_none hV
  obtain ⟨a1, rfl, rfl, rfl, y1⟩ := open_string Try.underlying9 (hval 1 9 v1 rfl rfl) h1
  have w1 : a1.size ≤ 140737488351232 := by
    have z := sized_string hsz (j := 1) (t := 9) rfl rfl
    rw [Array.length_toList] at z
    exact z
  have h0k := h0
  obtain ⟨fuel, hf⟩ := h0
  have hlt : ∀ x ∈ p0, x.block < W.heap.size := fun x hx => by
    refine hW'.lt x ?_
    simp [hx]
  obtain ⟨A0, len, cap, rfl⟩ := okWide_slice Try.underlying28 (hval 0 28 v0 rfl rfl)
  clear hA0 hval0
  -- the one end: the answer is true, the slice reads as it did
  have fin : ∀ (l : List ByteArray), Go.Proofs.YtajddminbfiipaaW.PrintWords.Kd.C Go.Proofs.YtajddminbfiipaaW.PrintWords.Kd.string W A0 l.length l → l.length = len → len ≤ cap → l.length * 16 ≤ 140737488351232 →
      Calls Try.prog 8 #[.slice A0 len cap, .string a1] W fun e W' => ∃ v, e = Ending.returned v ∧ Rows.digitsMinimalIsEquivalentSpec.post enc Try.prog Try.f8 false true false false W #[.slice A0 len cap, .string a1] v W' := by
    intro l hC hl hc hb
    obtain ⟨k, hk⟩ := Pure.DigitsMinimalIsEquivalent l a1 hb w1
    subst hl
    refine (Q.crossbarlaw06_DigitsMinimalIsEquivalent.calls k A0 cap l a1 true W hC hc hk).mono fun e W' ⟨he, bel⟩ => ?_
    subst he
    exact ⟨_, rfl, _, _, _, [], _, [], hW', trodAll_mk1 (shut_bool Try.underlying4 _), (trodAll_cons_mk (Below.trod laidOut (by kernel_rfl) (of_decide_eq_true (by kernel_rfl)) h0k bel hlt) (trodAll_cons_mk (shut_string Try.underlying9 y1) trodAll_mk0)), rfl, bel.frame _, fun h => by cases h⟩
  rcases open_strings Try.underlying28 Try.underlying9 cells9 hf with ⟨hcs, hx⟩ | ⟨a, len', cap', ss, hcs, _, hl, hm, hz, hx, hcell, hws⟩
  · simp [Value.cells] at hcs
    obtain ⟨rfl, rfl, rfl⟩ := hcs
    exact fin [] (Ext.strs_none W) rfl (Nat.le_refl _) (by simp)
  · simp [Value.cells] at hcs
    obtain ⟨rfl, rfl, rfl⟩ := hcs
    simp only [Prod.mk.injEq] at hx
    obtain ⟨rfl, rfl⟩ := hx
    simp only [if_true] at hz
    have hreach : len * 16 ≤ 140737488351232 := by
      have := sized_slice hsz (j := 0) (t := 28) (e := 9) rfl rfl Try.underlying28
      rw [bytes9] at this
      simp only [strs, List.length_map, List.length_take, List.length_drop, reachBytes] at this
      omega
    have hlen : (ss.take len).length = len := by rw [List.length_take]; omega
    exact fin (ss.take len) (Ext.strs_some (by omega) (by omega) hcell) hlen hl (by rw [hlen]; exact hreach)
theorem over : Rows.digitsMinimalIsEquivalentRow.holds Try.pinned (OpenSpec.ofChange Rows.digitsMinimalIsEquivalentSpec) :=
  OpenClaim.holds_of_wide 8 Try.f8 rfl rfl rfl rfl rfl rfl rfl ⟨rfl, rfl, rfl, rfl, rfl⟩ rfl rfl rfl rfl rfl (by kernel_rfl) Try.func8 (by kernel_rfl)
    (of_decide_eq_true (by kernel_rfl)) (by unfold Func.isWrapper; first | (rw [if_pos (by decide +kernel)]; kernel_rfl) | (rw [if_neg (by decide +kernel)]; exact ⟨rfl, rfl⟩))
    (fun os started H enc _ => lifted os started H enc)
theorem proved : Rows.DigitsMinimalIsEquivalentSaid := over
#print axioms proved
end Go.Proofs.Ytajddminbfiipaa.digitsMinimalIsEquivalent
namespace Go.Proofs.Ytajddminbfiipaa
/-- The row, under a short name, for the claim. -/
theorem digitsMinimalIsEquivalent_holds : Rows.DigitsMinimalIsEquivalentSaid := digitsMinimalIsEquivalent.proved
end Go.Proofs.Ytajddminbfiipaa
