/- The law DigitsMinimalIsReduced holds: it answers true for every input that the statement names. -/
import Derived.Test.YtajddminbfiipaaQx8
import Derived.Test.YtajddminbfiipaaEPlain
import Derived.Test.YtajddminbfiipaaRows
import Derived.WalkKit
import Derived.ProofKit
import Derived.OpenShut
import Derived.ShutString
import Derived.ChangeOld
import Derived.Below
import Derived.SizedLaws
import Derived.SliceStrings
namespace Go.Proofs.Ytajddminbfiipaa.Pure
set_option linter.unusedVariables false
set_option linter.unusedSimpArgs false
open Go.RowKit Go.Proofs.Ytajddminbfiipaa.Q Go.Proofs.Ytajddminbfiipaa.Ext Go.Proofs.YtajddminbfiipaaW.PrintWords Go.Proofs.YtajddminbfiipaaW.PrintLast

theorem get_mkB (M : List Bytes) {i : Nat} (h : i < M.length) : (M.map mkB).getD i ByteArray.empty = mkB M[i] := by
  rw [List.getD_eq_getElem?_getD, List.getElem?_map, List.getElem?_eq_getElem h]; rfl
theorem mkB_size (x : Bytes) : (mkB x).size = x.length := by rw [← size_list, mkB_list]

theorem less_of {M : List Bytes} (hs : M.Pairwise (fun a b => leL a b = true)) (hn : M.Nodup) {i j : Nat} (hij : i < j) (hj : j < M.length) : Op.bytesLess M[i] M[j] = true := by
  rw [Go.Proofs.bytesLess_eq, decide_eq_true_eq]
  have h1 := List.pairwise_iff_getElem.1 hs i j (by omega) hj hij
  have h2 : M[i] ≠ M[j] := List.pairwise_iff_getElem.1 hn i j (by omega) hj hij
  apply Classical.byContradiction
  intro h
  exact h2 (leL_anti h1 (by unfold leL; rw [decide_eq_true_eq]; exact List.not_lt.1 h))

/-- The elements seen last are extensions of one string. -/
def RunOk (M : List Bytes) (i r : Nat) : Prop := 1 ≤ r ∧ r ≤ 9 ∧ (r = 1 ∨ (r ≤ i ∧ ∃ p : Bytes, ∀ j, i - r ≤ j → j < i → ∃ c, M[j]? = some (p ++ [c])))

theorem sib {a b : Bytes} {n : Nat} (ha : a.length = n + 1) (hb : b.length = n + 1) (hc : com a b = n) : ∃ p c c', a = p ++ [c] ∧ b = p ++ [c'] := by
  have ht := com_take a b
  rw [hc] at ht
  have h1 : n < a.length := by omega
  have h2 : n < b.length := by omega
  refine ⟨a.take n, a[n], b[n], ?_, ?_⟩
  · rw [← List.take_succ_eq_append_getElem h1, List.take_of_length_le (by omega)]
  · rw [ht, ← List.take_succ_eq_append_getElem h2, List.take_of_length_le (by omega)]

theorem no_ten {L : List Bytes} (h14 : ∀ x ∈ L, x.length ≤ 14) (hd : ∀ x ∈ minL L, ∀ c ∈ x, isDig c = true) {i : Nat} {p : Bytes} (hi : 10 ≤ i)
    (hp : ∀ j, i - 10 ≤ j → j < i → ∃ c, (minL L)[j]? = some (p ++ [c])) : False := by
  have hlen : i ≤ (minL L).length := by
    obtain ⟨c, hc⟩ := hp (i - 1) (by omega) (by omega)
    have := (List.getElem?_eq_some_iff.1 hc).1
    omega
  have hF : (((minL L).drop (i - 10)).take 10).length = 10 := by rw [List.length_take, List.length_drop]; omega
  have hin : ∀ x ∈ ((minL L).drop (i - 10)).take 10, x ∈ minL L := fun x hx => List.mem_of_mem_drop (List.mem_of_mem_take hx)
  have hsub : ∀ x ∈ ((minL L).drop (i - 10)).take 10, x ∈ exts p := by
    intro x hx
    obtain ⟨j, hj, rfl⟩ := List.mem_iff_getElem.1 hx
    rw [hF] at hj
    have e : (((minL L).drop (i - 10)).take 10)[j]'(by omega) = (minL L)[i - 10 + j]'(by omega) := by
      rw [List.getElem_take, List.getElem_drop]
    rw [e]
    obtain ⟨c, hc⟩ := hp (i - 10 + j) (by omega) (by omega)
    rw [List.getElem?_eq_getElem (by omega)] at hc
    injection hc with hc
    have hdc := hd _ (List.getElem_mem (by omega : i - 10 + j < (minL L).length)) c (by rw [hc]; simp)
    obtain ⟨d, hd10, rfl⟩ := digit_of hdc
    rw [hc]
    exact mem_exts.2 ⟨d, hd10, rfl⟩
  have hnd : (((minL L).drop (i - 10)).take 10).Nodup := ((minL_nodup L).sublist (List.drop_sublist _ _)).sublist (List.take_sublist _ _)
  have hall := mem_of_full _ (exts p) hnd hsub (by rw [exts_length, hF]; exact Nat.le_refl _)
  have hm : ∀ d, d < 10 → p ++ [dg d] ∈ minL L := fun d hd' => hin _ (hall _ (mem_exts.2 ⟨d, hd', rfl⟩))
  have hc : Cd L p := .ten fun d hd' => ((mem_minL h14).1 (hm d hd')).1
  exact ((mem_minL h14).1 (hm 0 (by omega))).2 p (List.prefix_append _ _) (fun e => by have := congrArg List.length e; simp at this) hc

set_option maxHeartbeats 4000000 in
theorem red_l0 (L : List Bytes) (h14 : ∀ x ∈ L, x.length ≤ 14) (hd : ∀ x ∈ minL L, ∀ c ∈ x, isDig c = true) (hlen : (minL L).length ≤ 60) : ∀ (d i r k : Nat), (minL L).length - i = d → i ≤ (minL L).length → 3 * d + 5 ≤ k → RunOk (minL L) i r →
    crossbarlaw06_DigitsMinimalIsReduced.l0 k ((minL L).map mkB) (r : Int) (i : Int) = some true := by
  intro d
  induction d with
  | zero =>
    intro i r k hd hi hk hr
    obtain ⟨k, rfl⟩ : ∃ m, k = m + 1 := ⟨k - 1, by omega⟩
    simp only [crossbarlaw06_DigitsMinimalIsReduced.l0]
    rw [if_neg (by rw [List.length_map]; omega)]
  | succ d ih =>
    intro i r k hd' hi hk hr
    obtain ⟨k, rfl⟩ : ∃ m, k = m + 3 := ⟨k - 3, by omega⟩
    have hi' : i < (minL L).length := by omega
    have hw : wrap64 ((i : Int) + 1) = ((i + 1 : Nat) : Int) := by unfold wrap64; omega
    have hlm : ((minL L).map mkB).length = (minL L).length := List.length_map ..
    -- the two ends of a round
    have j2f : crossbarlaw06_DigitsMinimalIsReduced.j2 (k + 1) ((minL L).map mkB) (r : Int) (i : Int) false = some true := by
      simp only [crossbarlaw06_DigitsMinimalIsReduced.j2, Bool.false_eq_true, if_false]
      rw [if_neg (by decide), hw]
      exact ih (i + 1) 1 k (by omega) (by omega) (by omega) ⟨by omega, by omega, .inl rfl⟩
    have j2t : r ≤ 8 → RunOk (minL L) (i + 1) (r + 1) → crossbarlaw06_DigitsMinimalIsReduced.j2 (k + 1) ((minL L).map mkB) (r : Int) (i : Int) true = some true := by
      intro hr8 hrun
      have hwr : wrap64 ((r : Int) + 1) = ((r + 1 : Nat) : Int) := by unfold wrap64; omega
      have h10 : ¬ (((r + 1 : Nat) : Int) ≥ 10) := by omega
      simp only [crossbarlaw06_DigitsMinimalIsReduced.j2, if_true]
      rw [hwr, if_neg h10, hw]
      exact ih (i + 1) (r + 1) k (by omega) (by omega) (by omega) hrun
    simp only [crossbarlaw06_DigitsMinimalIsReduced.l0]
    rw [if_pos (by rw [hlm]; omega)]
    by_cases h0 : i = 0
    · subst h0
      rw [if_neg (by omega)]
      simp only [crossbarlaw06_DigitsMinimalIsReduced.j1, Bool.false_eq_true, if_false]
      rw [if_neg (by omega)]
      exact j2f
    · have hw1 : wrap64 ((i : Int) - 1) = ((i - 1 : Nat) : Int) := by unfold wrap64; omega
      have ga := get_mkB (minL L) (i := i - 1) (by omega)
      have gb := get_mkB (minL L) hi'
      have la := minL_len14 h14 _ (List.getElem_mem (by omega : i - 1 < (minL L).length))
      have lb := minL_len14 h14 _ (List.getElem_mem hi')
      have hless := less_of (minL_sorted L) (minL_nodup L) (by omega : i - 1 < i) hi'
      have C : digits_Common.f (mkB (minL L)[i - 1]) (mkB (minL L)[i]) = some (com (minL L)[i - 1] (minL L)[i] : Int) := by
        unfold digits_Common.f
        rw [if_pos ⟨by rw [mkB_size]; omega, by rw [mkB_size]; omega⟩, mkB_list, mkB_list]
      have hnp : com (minL L)[i - 1] (minL L)[i] ≠ (minL L)[i - 1].length := fun e => by
        have h1 := minL_anti h14 (List.getElem_mem (by omega : i - 1 < (minL L).length)) (List.getElem_mem hi') (com_prefix.2 e)
        have h2 : (minL L)[i - 1] ≠ (minL L)[i] := List.pairwise_iff_getElem.1 (minL_nodup L) (i - 1) i (by omega) hi' (by omega)
        exact h2 h1
      rw [if_pos (by omega), hw1, if_pos (by omega), if_pos (by rw [hlm]; omega), if_pos (by omega), rd_nat, rd_nat, ga, gb, toList_eq, toList_eq, mkB_list, mkB_list, if_pos hless, C]
      simp only [Option.bind_some, mkB_size]
      have hb : ((com (minL L)[i - 1] (minL L)[i] : Int) == ((minL L)[i - 1].length : Int)) = false := by
        rw [beq_eq_false_iff_ne]; omega
      rw [hb]
      simp only [crossbarlaw06_DigitsMinimalIsReduced.j1, Bool.false_eq_true, if_false]
      rw [if_pos (by omega), if_pos (by omega), if_pos (by rw [hlm]; omega), rd_nat, gb, mkB_size]
      split
      next hpos =>
        rw [hw1, if_pos (by omega), if_pos (by rw [hlm]; omega), rd_nat, ga, mkB_size]
        split
        next heq =>
          rw [C]
          simp only [Option.bind_some]
          cases hs : ((com (minL L)[i - 1] (minL L)[i] : Int) == wrap64 (((minL L)[i].length : Int) - 1)) with
          | false => exact j2f
          | true =>
            have hs' : (com (minL L)[i - 1] (minL L)[i] : Int) = wrap64 (((minL L)[i].length : Int) - 1) := by simpa using hs
            have hw2 : wrap64 (((minL L)[i].length : Int) - 1) = (((minL L)[i].length - 1 : Nat) : Int) := by unfold wrap64; omega
            rw [hw2] at hs'
            obtain ⟨q, c, c', e1, e2⟩ := sib (a := (minL L)[i - 1]) (b := (minL L)[i]) (n := (minL L)[i].length - 1) (by omega) (by omega) (by omega)
            obtain ⟨r1, r2, r3⟩ := hr
            have hrun : r + 1 ≤ i + 1 ∧ ∃ p : Bytes, ∀ j, i + 1 - (r + 1) ≤ j → j < i + 1 → ∃ c, (minL L)[j]? = some (p ++ [c]) := by
              rcases r3 with rfl | ⟨h1, p, hp⟩
              · refine ⟨by omega, q, fun j hj1 hj2 => ?_⟩
                by_cases hj : j = i
                · subst hj; exact ⟨c', by rw [List.getElem?_eq_getElem hi', ← e2]⟩
                · obtain rfl : j = i - 1 := by omega
                  exact ⟨c, by rw [List.getElem?_eq_getElem (by omega), ← e1]⟩
              · refine ⟨by omega, p, fun j hj1 hj2 => ?_⟩
                by_cases hj : j = i
                · subst hj
                  obtain ⟨c0, hc0⟩ := hp (j - 1) (by omega) (by omega)
                  rw [List.getElem?_eq_getElem (by omega)] at hc0
                  injection hc0 with hc0
                  have : q = p := by
                    rw [e1] at hc0
                    exact (List.append_inj' hc0 rfl).1
                  subst this
                  exact ⟨c', by rw [List.getElem?_eq_getElem hi', ← e2]⟩
                · exact hp j (by omega) (by omega)
            have hr8 : r ≤ 8 := by
              apply Classical.byContradiction
              intro hn
              obtain rfl : r = 9 := by omega
              obtain ⟨h1, p, hp⟩ := hrun
              exact no_ten h14 hd (i := i + 1) (p := p) (by omega) (fun j hj1 hj2 => hp j (by omega) hj2)
            exact j2t hr8 ⟨Nat.le_add_left 1 r, Nat.succ_le_succ hr8, .inr hrun⟩
        next => exact j2f
      next => exact j2f

theorem DigitsMinimalIsReduced (l0 : List ByteArray) (_hb : l0.length * 16 ≤ 140737488351232) : ∃ k, crossbarlaw06_DigitsMinimalIsReduced.f k l0 = some true := by
  refine ⟨400, ?_⟩
  unfold crossbarlaw06_DigitsMinimalIsReduced.f
  obtain ⟨b, hf, hb⟩ := few_any l0 (k := 400) (by omega)
  rw [sane_true 400 (by omega), hf]
  simp only [Option.bind_some, if_true]
  split
  next h =>
    obtain ⟨hlen, hsz⟩ := hb h
    simp only [digits_Minimal.f, Option.bind_some]
    rcases min_cases (l := l0) (by omega) with ⟨ha, hm⟩ | hm
    · rw [hm]
      simp only [if_true]
      have hml : (minL (Ext.bytes l0)).length ≤ 60 := by
        have := minL_len ha.len
        have e : (Ext.bytes l0).length = l0.length := by simp [Ext.bytes]
        omega
      refine red_l0 _ ha.len ?_ hml _ 0 1 400 rfl (by omega) (by omega) ⟨by omega, by omega, .inl rfl⟩
      intro x hx c hc
      obtain ⟨y, hy, hp⟩ := cd_ext ((mem_minL ha.len).1 hx).1
      exact ha.dig y hy c (hp.subset hc)
    · rw [hm]; rfl
  next => rfl
end Go.Proofs.Ytajddminbfiipaa.Pure
namespace Go.Proofs.Ytajddminbfiipaa.digitsMinimalIsReduced
open Go.ChangeShapes Go.WideShapes Go.ChangeAt Go.RowKit
open Go.ChangeMaps (open_string shut_string)
set_option linter.unusedVariables false
set_option linter.unusedSimpArgs false
theorem own : ownKnob Try.prog.godebug = none := by kernel_rfl
theorem laidOut : laidOutB Try.prog = true := by kernel_rfl
theorem cells9 : Try.prog.cellsOf 9 = 1 := by kernel_rfl
theorem bytes9 : Try.prog.bytesOf 9 = 16 := by kernel_rfl
set_option maxRecDepth 100000 in
theorem lifted (os : Os) (started : os.Started) (H : Type) (enc : TypeId × Value → H) :
    ReturnsInHanded {} Try.checked os 10 .any (Rows.digitsMinimalIsReducedSpec.pre6 enc Try.prog Try.f10 Rows.digitsMinimalIsReducedRow.domain false) (Rows.digitsMinimalIsReducedSpec.post enc Try.prog Try.f10 false true false false) := by
  refine returnsInHanded_of_change_sized (C := Try.checked) own started (by kernel_rfl) Try.func10
    (ChangeSpec.witness6 (enc := enc) (C := Try.checked) false ⟨#[], #[.slice none 0 0], []⟩ 8 (by kernel_rfl) (by kernel_rfl) (by kernel_rfl) (by kernel_rfl)) ?_
  intro W base args ds gs before hval0 hW hcnd hsz0 _
  have hsz : (DataW.weightsEach Try.prog (Try.f10.params.toList ++ Rows.digitsMinimalIsReducedSpec.plain.varTypes Try.prog) (ds ++ gs)).all (· ≤ reachBytes) = true := hsz0
  have hval : ∀ (j : Nat) t v, Try.f10.params[j]? = some t → args[j]? = some v → Value.okWide Try.prog W .any base t v := hval0
  have hW' := hW
  obtain ⟨p, q, hA0, hV, rfl, hfz, hnd⟩ := hW
  have hA : DataW.TrodAll enc Try.prog W 0 (fun _ => true) true Try.f10.params.toList args.toList ds p := hA0
  rw [Try.params10] at hA hval hsz
  obtain ⟨v0, vs0, d0, ds0, p0, q0, hargs, rfl, rfl, h0, r0⟩ := trodAll_cons hA
  obtain ⟨rfl, rfl, rfl⟩ := trodAll_nil r0
  obtain rfl : args = #[v0] := by cases args; simp_all
  obtain ⟨rfl, rfl⟩ := trodVars_none hV
  have h0k := h0
  obtain ⟨fuel, hf⟩ := h0
  have hlt : ∀ x ∈ p0, x.block < W.heap.size := fun x hx => by
    refine hW'.lt x ?_
    simp [hx]
  obtain ⟨A0, len, cap, rfl⟩ := okWide_slice Try.underlying28 (hval 0 28 v0 rfl rfl)
  clear hA0 hval0
  -- the one end: the answer is true, the slice reads as it did
  have fin : ∀ (l : List ByteArray), Go.Proofs.YtajddminbfiipaaW.PrintWords.Kd.C Go.Proofs.YtajddminbfiipaaW.PrintWords.Kd.string W A0 l.length l → l.length = len → len ≤ cap → l.length * 16 ≤ 140737488351232 →
      Calls Try.prog 10 #[.slice A0 len cap] W fun e W' => ∃ v, e = Ending.returned v ∧ Rows.digitsMinimalIsReducedSpec.post enc Try.prog Try.f10 false true false false W #[.slice A0 len cap] v W' := by
    intro l hC hl hc hb
    obtain ⟨k, hk⟩ := Pure.DigitsMinimalIsReduced l  hb 
    subst hl
    refine (Q.crossbarlaw06_DigitsMinimalIsReduced.calls k A0 cap l  true W hC hc hk).mono fun e W' ⟨he, bel⟩ => ?_
    subst he
    exact ⟨_, rfl, _, _, _, [], _, [], hW', trodAll_mk1 (shut_bool Try.underlying4 _), (trodAll_cons_mk (Below.trod laidOut (by kernel_rfl) (of_decide_eq_true (by kernel_rfl)) h0k bel hlt) trodAll_mk0), rfl, bel.frame _, fun h => by cases h⟩
  rcases open_strings Try.underlying28 Try.underlying9 cells9 hf with ⟨hcs, hx⟩ | ⟨a, len', cap', ss, hcs, _, hl, hm, hz, hx, hcell, hws⟩
  · simp [Value.cells] at hcs
    obtain ⟨rfl, rfl, rfl⟩ := hcs
    exact fin [] (Ext.strs_none W) rfl (Nat.le_refl _) (by simp)
  · simp [Value.cells] at hcs
    obtain ⟨rfl, rfl, rfl⟩ := hcs
    simp only [Prod.mk.injEq] at hx
    obtain ⟨rfl, rfl⟩ := hx
    simp only [if_true] at hz
    have hreach : len * 16 ≤ 140737488351232 := by
      have := sized_slice hsz (j := 0) (t := 28) (e := 9) rfl rfl Try.underlying28
      rw [bytes9] at this
      simp only [strs, List.length_map, List.length_take, List.length_drop, reachBytes] at this
      omega
    have hlen : (ss.take len).length = len := by rw [List.length_take]; omega
    exact fin (ss.take len) (Ext.strs_some (by omega) (by omega) hcell) hlen hl (by rw [hlen]; exact hreach)
theorem over : Rows.digitsMinimalIsReducedRow.holds Try.pinned (OpenSpec.ofChange Rows.digitsMinimalIsReducedSpec) :=
  OpenClaim.holds_of_wide 10 Try.f10 rfl rfl rfl rfl rfl rfl rfl ⟨rfl, rfl, rfl, rfl, rfl⟩ rfl rfl rfl rfl rfl (by kernel_rfl) Try.func10 (by kernel_rfl)
    (of_decide_eq_true (by kernel_rfl)) (by unfold Func.isWrapper; first | (rw [if_pos (by decide +kernel)]; kernel_rfl) | (rw [if_neg (by decide +kernel)]; exact ⟨rfl, rfl⟩))
    (fun os started H enc _ => lifted os started H enc)
theorem proved : Rows.DigitsMinimalIsReducedSaid := over
#print axioms proved
end Go.Proofs.Ytajddminbfiipaa.digitsMinimalIsReduced
namespace Go.Proofs.Ytajddminbfiipaa
/-- The row, under a short name, for the claim. -/
theorem digitsMinimalIsReduced_holds : Rows.DigitsMinimalIsReducedSaid := digitsMinimalIsReduced.proved
end Go.Proofs.Ytajddminbfiipaa
