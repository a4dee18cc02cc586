/- The law DigitsMinimalIsCanonical holds: it answers true for every input that the statement names. -/
import Derived.Test.YtajddminbfiipaaQx7
import Derived.Test.YtajddminbfiipaaEPlain
import Derived.Test.YtajddminbfiipaaRows
import Derived.WalkKit
import Derived.ProofKit
import Derived.OpenShut
import Derived.ShutString
import Derived.ChangeOld
import Derived.Below
import Derived.SizedLaws
import Derived.SliceStrings
namespace Go.Proofs.Ytajddminbfiipaa.Pure
set_option linter.unusedVariables false
set_option linter.unusedSimpArgs false
open Go.RowKit Go.Proofs.Ytajddminbfiipaa.Q Go.Proofs.Ytajddminbfiipaa.Ext Go.Proofs.YtajddminbfiipaaW.PrintWords Go.Proofs.YtajddminbfiipaaW.PrintLast

def tenDigits : ByteArray := ⟨#[48, 49, 50, 51, 52, 53, 54, 55, 56, 57]⟩
theorem ext_list (d : Nat) (h : d < 10) : (tenDigits.extract d (d + 1)).data.toList = [dg d] := by
  have : d = 0 ∨ d = 1 ∨ d = 2 ∨ d = 3 ∨ d = 4 ∨ d = 5 ∨ d = 6 ∨ d = 7 ∨ d = 8 ∨ d = 9 := by omega
  rcases this with rfl | rfl | rfl | rfl | rfl | rfl | rfl | rfl | rfl | rfl <;> first | rfl | decide

/-- The other list, once the prefixes from n on have been laid. -/
structure Oth (l x : List ByteArray) (n c : Nat) : Prop where
  ok : AllOk x
  cv : ∀ y ∈ x, Cv (Ext.bytes l) y.data.toList
  all : ∀ j, n ≤ j → ∀ h : j < l.length, Cv (Ext.bytes x) (l[j]'h).data.toList
  len : x.length ≤ 10 * (l.length - n) + c

theorem mem_bytes {l : List ByteArray} {y : ByteArray} (h : y ∈ l) : y.data.toList ∈ Ext.bytes l := List.mem_map.2 ⟨y, h, rfl⟩
theorem Cv.more {x : List ByteArray} {y : ByteArray} {z : Bytes} (h : Cv (Ext.bytes x) z) : Cv (Ext.bytes (x ++ [y])) z :=
  Cv.all (fun b hb => .of (.mem (by simp only [Ext.bytes, List.map_append, List.mem_append] at hb ⊢; exact .inl hb))) h

theorem Oth.put {l x : List ByteArray} {n c : Nat} {y : ByteArray} (h : Oth l x n c) (ho : onlyB y 0 14 = true) (hc : Cv (Ext.bytes l) y.data.toList) : Oth l (x ++ [y]) n (c + 1) where
  ok := fun p hp => by
    rcases List.mem_append.1 hp with hp | hp
    · exact h.ok p hp
    · rw [List.mem_singleton] at hp; subst hp; exact ho
  cv := fun p hp => by
    rcases List.mem_append.1 hp with hp | hp
    · exact h.cv p hp
    · rw [List.mem_singleton] at hp; subst hp; exact hc
  all := fun j hj hl => Cv.more (h.all j hj hl)
  len := by rw [List.length_append]; have := h.len; simp only [List.length_singleton]; omega

theorem Oth.ne {l x : List ByteArray} {c : Nat} (h : Oth l x 0 c) (hne : 0 < l.length) : 0 < x.length := by
  obtain ⟨y, _, hc⟩ := h.all 0 (Nat.le_refl _) hne
  obtain ⟨z, hz, _⟩ := cd_ext hc
  obtain ⟨u, hu, _⟩ := List.mem_map.1 hz
  exact List.length_pos_of_mem hu

theorem can_end {l x : List ByteArray} (ha : AllOk l) (hl : l.length ≤ 60) (hne : 0 < l.length) (h : Oth l x 0 0) :
    minimalB (x ++ [rdOf ByteArray.empty x 0]) = ((minL (Ext.bytes l)).map mkB, 0) := by
  have hx : 0 < x.length := h.ne hne
  have hg : rdOf ByteArray.empty x 0 = x[0] := by
    show x.getD 0 _ = _
    simp [List.getD_eq_getElem?_getD, hx]
  have hin : x[0] ∈ x := List.getElem_mem hx
  have h2 := h.put (h.ok _ hin) (h.cv _ hin)
  rw [hg, min_ok (by have := h2.len; omega) h2.ok]
  rw [minL_congr h2.ok.len ha.len (fun b hb => by
    obtain ⟨y, hy, rfl⟩ := List.mem_map.1 hb
    exact h2.cv y hy) (fun b hb => by
    obtain ⟨y, hy, rfl⟩ := List.mem_map.1 hb
    obtain ⟨j, hj, rfl⟩ := List.mem_iff_getElem.1 hy
    exact h2.all j (Nat.zero_le _) hj)]

theorem can_l1 (l X : List ByteArray) (t : Int) (m : Nat) (hm : m < l.length) (hp : onlyB l[m] 0 14 = true) (hsz : l[m].size ≤ 13)
    (next : ∀ x k, Oth l x m 0 → 30 * m + 100 ≤ k → crossbarlaw06_DigitsMinimalIsCanonical.l0 k l X t x (wrap64 ((m : Int) - 1)) = some true) (hl : l.length ≤ 60) :
    ∀ (e d k : Nat) (x : List ByteArray), 10 - d = e → d ≤ 10 → 30 * m + 101 + e ≤ k → Oth l x (m + 1) d → (∀ c, c < d → l[m].data.toList ++ [dg c] ∈ Ext.bytes x) →
    crossbarlaw06_DigitsMinimalIsCanonical.l1 k l X t x (m : Int) (d : Int) = some true := by
  intro e
  induction e with
  | zero =>
    intro d k x hd h10 hk h hx
    obtain ⟨k, rfl⟩ : ∃ q, k = q + 1 := ⟨k - 1, by omega⟩
    obtain rfl : d = 10 := by omega
    simp only [crossbarlaw06_DigitsMinimalIsCanonical.l1]
    rw [if_neg (by decide)]
    refine next x k ?_ (by omega)
    refine ⟨h.ok, h.cv, fun j hj hjl => ?_, by have := h.len; omega⟩
    by_cases hjm : j = m
    · subst hjm
      exact Cv.ten fun c hc => .of (.mem (hx c hc))
    · exact h.all j (by omega) hjl
  | succ e ih =>
    intro d k x hd h10 hk h hx
    obtain ⟨k, rfl⟩ : ∃ q, k = q + 1 := ⟨k - 1, by omega⟩
    have hw : wrap64 ((d : Int) + 1) = ((d + 1 : Nat) : Int) := by unfold wrap64; omega
    have hg : l.getD m ByteArray.empty = l[m] := by simp [List.getD_eq_getElem?_getD, hm]
    have he : tenDigits.extract d (d + 1) = ⟨#[dg d]⟩ := by rw [ba_eq]; exact ext_list d (by omega)
    have hs1 : ((⟨#[dg d]⟩ : ByteArray)).size = 1 := rfl
    have hxl := h.len
    simp only [crossbarlaw06_DigitsMinimalIsCanonical.l1]
    rw [if_pos (by omega), if_pos (by omega), if_pos (by omega), if_pos (by omega), hw, if_pos (by omega), if_pos (by omega), rd_nat, hg]
    simp only [Int.toNat_natCast]
    show (if l[m].size + (tenDigits.extract d (d + 1)).size ≤ _ then (if x.length < _ then crossbarlaw06_DigitsMinimalIsCanonical.l1 k l X t (x ++ [l[m] ++ tenDigits.extract d (d + 1)]) _ _ else none) else none) = _
    rw [he, hs1, if_pos (by omega), if_pos (by omega)]
    have hdat : (l[m] ++ (⟨#[dg d]⟩ : ByteArray)).data.toList = l[m].data.toList ++ [dg d] := app_list _ _
    refine ih (d + 1) k _ (by omega) (by omega) (by omega) (h.put ?_ ?_) ?_
    · rw [onlyB_iff, size_app, hs1]
      refine ⟨by omega, by omega, ?_⟩
      rw [hdat]
      intro c hc
      rcases List.mem_append.1 hc with hc | hc
      · exact (onlyB_iff.1 hp).2.2 c hc
      · rw [List.mem_singleton] at hc; subst hc; exact digit_is (by omega)
    · rw [hdat]
      exact ⟨_, List.prefix_append _ _, .mem (mem_bytes (List.getElem_mem hm))⟩
    · intro c hc
      simp only [Ext.bytes, List.map_append, List.mem_append]
      by_cases hcd : c = d
      · subst hcd; exact .inr (by simp [hdat])
      · exact .inl (hx c (by omega))

theorem can_l0 (l : List ByteArray) (t : Int) (ha : AllOk l) (hl : l.length ≤ 60) (hne : 0 < l.length) : ∀ (n k : Nat) (x : List ByteArray), n ≤ l.length → 30 * n + 100 ≤ k → Oth l x n 0 →
    crossbarlaw06_DigitsMinimalIsCanonical.l0 k l ((minL (Ext.bytes l)).map mkB) t x (wrap64 ((n : Int) - 1)) = some true := by
  have hml : ((minL (Ext.bytes l)).map mkB).length ≤ 60 := by
    have := minL_len ha.len
    have e : (Ext.bytes l).length = l.length := by simp [Ext.bytes]
    rw [List.length_map]; omega
  have hmm : minimalB ((minL (Ext.bytes l)).map mkB) = ((minL (Ext.bytes l)).map mkB, 0) := by
    have hok : AllOk ((minL (Ext.bytes l)).map mkB) := by
      intro p hp
      obtain ⟨y, hy, rfl⟩ := List.mem_map.1 hp
      refine only_of (minL_len14 ha.len y hy) fun c hc => ?_
      obtain ⟨z, hz, hq⟩ := cd_ext ((mem_minL ha.len).1 hy).1
      exact ha.dig z hz c (hq.subset hc)
    rw [min_ok (by omega) hok, bytes_mkB, minL_minL ha.len]
  intro n
  induction n with
  | zero =>
    intro k x hn hk h
    obtain ⟨k, rfl⟩ : ∃ q, k = q + 1 := ⟨k - 1, by omega⟩
    have hx := h.ne hne
    have hxl := h.len
    have hw : wrap64 (((0 : Nat) : Int) - 1) = -1 := by unfold wrap64; omega
    have hs := strings_eq ((minL (Ext.bytes l)).map mkB) ((minL (Ext.bytes l)).map mkB) (by omega) k (by omega)
    rw [decide_eq_true rfl] at hs
    simp only [crossbarlaw06_DigitsMinimalIsCanonical.l0]
    rw [hw, if_neg (by decide), if_pos (by omega), if_pos (by omega)]
    simp only [digits_Minimal.f, Option.bind_some, can_end ha hl hne h, hmm, hs, if_true]
  | succ m ih =>
    intro k x hn hk h
    obtain ⟨k, rfl⟩ : ∃ q, k = q + 2 := ⟨k - 2, by omega⟩
    have hm : m < l.length := by omega
    have hw : wrap64 (((m + 1 : Nat) : Int) - 1) = (m : Int) := by unfold wrap64; omega
    have hg : l.getD m ByteArray.empty = l[m] := by simp [List.getD_eq_getElem?_getD, hm]
    have hxl := h.len
    have hp := ha l[m] (List.getElem_mem hm)
    have plain : crossbarlaw06_DigitsMinimalIsCanonical.j2 (k + 1) l ((minL (Ext.bytes l)).map mkB) t x (m : Int) true = some true := by
      simp only [crossbarlaw06_DigitsMinimalIsCanonical.j2, if_true]
      rw [if_pos (by omega), if_pos (by omega), if_pos (by omega), rd_nat, hg]
      refine ih k _ (by omega) (by omega) ?_
      have h2 := h.put hp (.of (.mem (mem_bytes (List.getElem_mem hm))))
      refine ⟨h2.ok, h2.cv, fun j hj hjl => ?_, by have := h2.len; omega⟩
      by_cases hjm : j = m
      · subst hjm
        exact .of (.mem (mem_bytes (by simp)))
      · exact h2.all j (by omega) hjl
    simp only [crossbarlaw06_DigitsMinimalIsCanonical.l0]
    rw [hw, if_pos (by omega)]
    split
    next =>
      rw [if_pos (by omega), if_pos (by omega), rd_nat, hg]
      cases hd : decide ((l[m].size : Int) > 13) with
      | true => exact plain
      | false =>
        have hsz := of_decide_eq_false hd
        simp only [crossbarlaw06_DigitsMinimalIsCanonical.j2, Bool.false_eq_true, if_false]
        exact can_l1 l _ t m hm hp (by omega) (fun x k hx hk => ih k x (by omega) hk hx) hl 10 0 k x (by omega) (by omega) (by omega) h (fun c hc => by omega)
    next => exact plain

theorem DigitsMinimalIsCanonical (l0 : List ByteArray) (a1 : Int) (_hb : l0.length * 16 ≤ 140737488351232) : ∃ k, crossbarlaw06_DigitsMinimalIsCanonical.f k l0 a1 = some true := by
  refine ⟨3000, ?_⟩
  unfold crossbarlaw06_DigitsMinimalIsCanonical.f
  obtain ⟨b, hf, hb⟩ := few_any l0 (k := 3000) (by omega)
  rw [sane_true 3000 (by omega), hf]
  simp only [Option.bind_some, if_true]
  split
  next h =>
    obtain ⟨hlen, hsz⟩ := hb h
    simp only [crossbarlaw06_DigitsMinimalIsCanonical.j0]
    split
    next => rfl
    next hne =>
      have hne : 0 < l0.length := by
        rcases Nat.eq_zero_or_pos l0.length with h | h
        · rw [h] at hne; exact absurd rfl hne
        · exact h
      simp only [digits_Minimal.f, Option.bind_some]
      rcases min_cases (l := l0) (by omega) with ⟨ha, hm⟩ | hm
      · rw [hm]
        simp only [if_true]
        rw [if_neg (by omega)]
        exact can_l0 l0 _ ha hlen hne l0.length 2999 [] (Nat.le_refl _) (by omega) ⟨fun p hp => by simp at hp, fun p hp => by simp at hp, fun j hj hl => by omega, by simp⟩
      · rw [hm]; rfl
  next =>
    simp only [crossbarlaw06_DigitsMinimalIsCanonical.j0, if_true]
end Go.Proofs.Ytajddminbfiipaa.Pure
namespace Go.Proofs.Ytajddminbfiipaa.digitsMinimalIsCanonical
open Go.ChangeShapes Go.WideShapes Go.ChangeAt Go.RowKit
open Go.ChangeMaps (open_string shut_string)
set_option linter.unusedVariables false
set_option linter.unusedSimpArgs false
theorem own : ownKnob Try.prog.godebug = none := by kernel_rfl
theorem laidOut : laidOutB Try.prog = true := by kernel_rfl
theorem cells9 : Try.prog.cellsOf 9 = 1 := by kernel_rfl
theorem bytes9 : Try.prog.bytesOf 9 = 16 := by kernel_rfl
set_option maxRecDepth 100000 in
theorem lifted (os : Os) (started : os.Started) (H : Type) (enc : TypeId × Value → H) :
    ReturnsInHanded {} Try.checked os 9 .any (Rows.digitsMinimalIsCanonicalSpec.pre6 enc Try.prog Try.f9 Rows.digitsMinimalIsCanonicalRow.domain false) (Rows.digitsMinimalIsCanonicalSpec.post enc Try.prog Try.f9 false true false false) := by
  refine returnsInHanded_of_change_sized (C := Try.checked) own started (by kernel_rfl) Try.func9
    (ChangeSpec.witness6 (enc := enc) (C := Try.checked) false ⟨#[], #[.slice none 0 0, .int .i64 0], []⟩ 8 (by kernel_rfl) (by kernel_rfl) (by kernel_rfl) (by kernel_rfl)) ?_
  intro W base args ds gs before hval0 hW hcnd hsz0 _
  have hsz : (DataW.weightsEach Try.prog (Try.f9.params.toList ++ Rows.digitsMinimalIsCanonicalSpec.plain.varTypes Try.prog) (ds ++ gs)).all (· ≤ reachBytes) = true := hsz0
  have hval : ∀ (j : Nat) t v, Try.f9.params[j]? = some t → args[j]? = some v → Value.okWide Try.prog W .any base t v := hval0
  have hW' := hW
  obtain ⟨p, q, hA0, hV, rfl, hfz, hnd⟩ := hW
  have hA : DataW.TrodAll enc Try.prog W 0 (fun _ => true) true Try.f9.params.toList args.toList ds p := hA0
  rw [Try.params9] at hA hval hsz
  obtain ⟨v0, vs0, d0, ds0, p0, q0, hargs, rfl, rfl, h0, r0⟩ := trodAll_cons hA
  obtain ⟨v1, vs1, d1, ds1, p1, q1, rfl, rfl, rfl, h1, r1⟩ := trodAll_cons r0
  obtain ⟨rfl, rfl, rfl⟩ := trodAll_nil r1
  obtain rfl : args = #[v0, v1] := by cases args; simp_all
  obtain ⟨rfl, rfl⟩ := trodVars_none hV
  obtain ⟨a1, rfl, rfl, rfl, y1⟩ := open_int Try.underlying3 (hval 1 3 v1 rfl rfl) h1
  have h0k := h0
  obtain ⟨fuel, hf⟩ := h0
  have hlt : ∀ x ∈ p0, x.block < W.heap.size := fun x hx => by
    refine hW'.lt x ?_
    simp [hx]
  obtain ⟨A0, len, cap, rfl⟩ := okWide_slice Try.underlying28 (hval 0 28 v0 rfl rfl)
  clear hA0 hval0
  -- the one end: the answer is true, the slice reads as it did
  have fin : ∀ (l : List ByteArray), Go.Proofs.YtajddminbfiipaaW.PrintWords.Kd.C Go.Proofs.YtajddminbfiipaaW.PrintWords.Kd.string W A0 l.length l → l.length = len → len ≤ cap → l.length * 16 ≤ 140737488351232 →
      Calls Try.prog 9 #[.slice A0 len cap, .int .i64 a1] W fun e W' => ∃ v, e = Ending.returned v ∧ Rows.digitsMinimalIsCanonicalSpec.post enc Try.prog Try.f9 false true false false W #[.slice A0 len cap, .int .i64 a1] v W' := by
    intro l hC hl hc hb
    obtain ⟨k, hk⟩ := Pure.DigitsMinimalIsCanonical l a1 hb 
    subst hl
    refine (Q.crossbarlaw06_DigitsMinimalIsCanonical.calls k A0 cap l a1 true W hC hc hk).mono fun e W' ⟨he, bel⟩ => ?_
    subst he
    exact ⟨_, rfl, _, _, _, [], _, [], hW', trodAll_mk1 (shut_bool Try.underlying4 _), (trodAll_cons_mk (Below.trod laidOut (by kernel_rfl) (of_decide_eq_true (by kernel_rfl)) h0k bel hlt) (trodAll_cons_mk (shut_int Try.underlying3 y1) trodAll_mk0)), rfl, bel.frame _, fun h => by cases h⟩
  rcases open_strings Try.underlying28 Try.underlying9 cells9 hf with ⟨hcs, hx⟩ | ⟨a, len', cap', ss, hcs, _, hl, hm, hz, hx, hcell, hws⟩
  · simp [Value.cells] at hcs
    obtain ⟨rfl, rfl, rfl⟩ := hcs
    exact fin [] (Ext.strs_none W) rfl (Nat.le_refl _) (by simp)
  · simp [Value.cells] at hcs
    obtain ⟨rfl, rfl, rfl⟩ := hcs
    simp only [Prod.mk.injEq] at hx
    obtain ⟨rfl, rfl⟩ := hx
    simp only [if_true] at hz
    have hreach : len * 16 ≤ 140737488351232 := by
      have := sized_slice hsz (j := 0) (t := 28) (e := 9) rfl rfl Try.underlying28
      rw [bytes9] at this
      simp only [strs, List.length_map, List.length_take, List.length_drop, reachBytes] at this
      omega
    have hlen : (ss.take len).length = len := by rw [List.length_take]; omega
    exact fin (ss.take len) (Ext.strs_some (by omega) (by omega) hcell) hlen hl (by rw [hlen]; exact hreach)
theorem over : Rows.digitsMinimalIsCanonicalRow.holds Try.pinned (OpenSpec.ofChange Rows.digitsMinimalIsCanonicalSpec) :=
  OpenClaim.holds_of_wide 9 Try.f9 rfl rfl rfl rfl rfl rfl rfl ⟨rfl, rfl, rfl, rfl, rfl⟩ rfl rfl rfl rfl rfl (by kernel_rfl) Try.func9 (by kernel_rfl)
    (of_decide_eq_true (by kernel_rfl)) (by unfold Func.isWrapper; first | (rw [if_pos (by decide +kernel)]; kernel_rfl) | (rw [if_neg (by decide +kernel)]; exact ⟨rfl, rfl⟩))
    (fun os started H enc _ => lifted os started H enc)
theorem proved : Rows.DigitsMinimalIsCanonicalSaid := over
#print axioms proved
end Go.Proofs.Ytajddminbfiipaa.digitsMinimalIsCanonical
namespace Go.Proofs.Ytajddminbfiipaa
/-- The row, under a short name, for the claim. -/
theorem digitsMinimalIsCanonical_holds : Rows.DigitsMinimalIsCanonicalSaid := digitsMinimalIsCanonical.proved
end Go.Proofs.Ytajddminbfiipaa
