/- digits.Minimal: the loop that collects, level by level, the strings that have no shorter prefix in the levels. -/
import Derived.Test.YtajddminbfiipaaEMinF2
import Derived.Test.YtajddminbfiipaaIter
namespace Go.Proofs.Ytajddminbfiipaa.Ext
set_option linter.unusedVariables false
set_option linter.unusedSimpArgs false
open Go.RowKit Go.Maps Go.WideMaps Go.Sort

theorem strKeys_mem {w : World} {b n : Nat} {R : Value → Option (DataW Unit × List MemPlace)} {D : DataW Unit} (h : w.ownsMap Try.prog 9 R b n D) : (strKeys D).Nodup ∧ ∀ x, x ∈ strKeys D ↔ Maps.has D (.string x) = true := by
  obtain ⟨es, hD, hpw, _⟩ := h.entries law9
  obtain ⟨es', hD', hko⟩ := h.keysOf
  obtain rfl : es = es' := by rw [hD] at hD'; simpa using hD'
  subst hD
  have hk : ∀ p ∈ es, ∃ x, p.1 = .string x := fun p hp => by obtain ⟨v, hv⟩ := hko p hp; obtain ⟨x, _, hx, _⟩ := Maps.keyOf_str Try.underlying9 hv; exact ⟨x, hx⟩
  constructor
  · show (es.map fun p => strOf p.1).Nodup
    refine List.pairwise_map.2 (hpw.imp_of_mem fun {p q} hp' hq' hne e => hne ?_)
    obtain ⟨a, ha⟩ := hk p hp'
    obtain ⟨b, hb⟩ := hk q hq'
    rw [ha, hb] at e ⊢
    exact congrArg _ e
  · intro x
    rw [has_eq, List.any_eq_true]
    show x ∈ es.map (fun p => strOf p.1) ↔ _
    rw [List.mem_map]
    constructor
    · rintro ⟨p, hp', rfl⟩
      obtain ⟨a, ha⟩ := hk p hp'
      exact ⟨p, hp', by rw [ha]; simp [Lit.sameKey, strOf]⟩
    · rintro ⟨p, hp', hs⟩
      obtain ⟨a, ha⟩ := hk p hp'
      rw [ha] at hs
      exact ⟨p, hp', by rw [ha]; simpa [Lit.sameKey, strOf] using hs⟩

/-- slices.Sorted(maps.Keys(m)) at a set. -/
theorem sorted_calls (b c : Nat) (S : Bytes → Bool) (w : World) (h : SetAt w b c S) (hc : c ≤ 20000) :
    Calls Try.prog 36 #[.func (.func 49) #[] #[.pointer (some ⟨w.heap.size, 0, none⟩)]] (w.alloc (.cells #[.map (some b)] 44)) fun e w' => ∃ (A : Option Addr) (cap : Nat) (ks : List Bytes), e = .returned (.slice A ks.length cap) ∧
      ks.Nodup ∧ (∀ x, x ∈ ks ↔ S x = true) ∧ ks.length ≤ c ∧ (ks = [] ∨ ∃ g, A = some ⟨g, 0, none⟩ ∧ w.heap.size ≤ g ∧ g < w'.heap.size ∧ CellsAt w' g ks) ∧ Below (w.heap.size + 1) (w.alloc (.cells #[.map (some b)] 44)) w' := by
  obtain ⟨D, hown, hD, h3, _⟩ := h
  refine (callsIn_wide.1 (Try.slices_Sorted_keys_36_37 b _ D _ w hown (by unfold maxLen; omega) (by omega))).mono ?_
  rintro e w' ⟨v, ss, rfl, hS, hrow, hnil, hb⟩
  obtain ⟨hnd, hmem⟩ := strKeys_mem hown
  have hp : (ss.mergeSort (fun x y => decide (x ≤ y))).Perm (strKeys D) := (List.mergeSort_perm _ _).trans hS
  have hlen : (ss.mergeSort (fun x y => decide (x ≤ y))).length = ss.length := by simp
  have hsz : ss.length = Maps.size D := by
    rw [hS.length_eq]
    obtain ⟨es, hD', _⟩ := hown.entries law9
    subst hD'
    show (es.map fun p => strOf p.1).length = es.length
    simp
  rw [World.size_alloc] at hrow hb
  have hf1 := hp.nodup_iff.2 hnd
  have hf2 : ∀ x, x ∈ ss.mergeSort (fun x y => decide (x ≤ y)) ↔ S x = true := fun x => by rw [hp.mem_iff, hmem, h3]
  rw [← hlen] at hrow
  have hf3 : (ss.mergeSort (fun x y => decide (x ≤ y))).length ≤ c := by omega
  generalize ss.mergeSort (fun x y => decide (x ≤ y)) = ks at *
  rcases hrow.2 with ⟨rfl, h0⟩ | ⟨g, cap, cur, rfl, hbase, hg, h1, h2, h4, h5⟩
  · have e0 : ks = [] := List.eq_nil_of_length_eq_zero h0
    subst e0
    exact ⟨none, 0, [], rfl, hf1, hf2, hf3, .inl rfl, hb⟩
  · refine ⟨some ⟨g, 0, none⟩, cap, ks, rfl, hf1, hf2, hf3, .inr ⟨g, rfl, by omega, (Array.getElem?_eq_some_iff.1 hg).1, fun k hk => ?_⟩, hb⟩
    rw [hrow.cellAt k (by omega)]
    simp [hk]

/-- What has been collected once the levels from m on are through. -/
structure AccOK (S : Nat → Bytes → Bool) (m : Nat) (acc : List Bytes) : Prop where
  nodup : acc.Nodup
  mem : ∀ x, x ∈ acc ↔ (m ≤ x.length ∧ x.length ≤ 14 ∧ S x.length x = true ∧ cov S x.length x = false)
  len : acc.length ≤ 20000 * (15 - m)

theorem AccOK.step {S : Nat → Bytes → Bool} {n : Nat} {acc ks : List Bytes} (h : AccOK S (n + 1) acc) (hn : n ≤ 14) (hnd : ks.Nodup) (hm : ∀ x, x ∈ ks ↔ S n x = true) (hl : ∀ x, S n x = true → x.length = n) (hk : ks.length ≤ 20000) :
    AccOK S n (acc ++ unc S n ks) where
  nodup := by
    refine List.nodup_append.2 ⟨h.nodup, hnd.filter _, fun a ha b hb e => ?_⟩
    subst e
    have h1 := ((h.mem a).1 ha).1
    have h2 := hl a ((hm a).1 (List.mem_filter.1 hb).1)
    omega
  mem := fun x => by
    rw [List.mem_append, h.mem]
    unfold unc
    rw [List.mem_filter, hm]
    constructor
    · rintro (⟨h1, h2, h3, h4⟩ | ⟨h1, h2⟩)
      · exact ⟨by omega, h2, h3, h4⟩
      · have := hl x h1
        subst this
        exact ⟨Nat.le_refl _, hn, h1, by simpa using h2⟩
    · rintro ⟨h1, h2, h3, h4⟩
      by_cases e : x.length = n
      · right
        rw [e] at h3 h4
        exact ⟨h3, by simp [h4]⟩
      · left
        exact ⟨by omega, h2, h3, h4⟩
  len := by
    have := h.len
    have := unc_le S n ks
    rw [List.length_append]; omega

set_option maxHeartbeats 4000000 in
set_option maxRecDepth 100000 in
theorem loopF {c0 c1 c2 c3 c5 c6 c7 c8 c9 c10 c11 c12 c16 c17 c18 c19 c20 c21 c22 c23 c24 c25 c26 c27 c28 c29 c30 c31 c32 c33 c34 c35 c36 c37 c38 c39 c40 c41 c42 c43 c44 c45 c46 c47 c48 c49 c50 c51 c52 c53 c54 c55 c56 c57 c58 c59 c60 c61 c62 c63 c64 c65 c66 c67 c68 c69 c70 c71 c72 c73 c74 c75 c76 c77 c78 c79 c80 c81 c82 c83 c84 c85 c86 c87 c88 c89 c90 c91 c92 c93 c94 c95 c96 c97 c98 c99 c100 c101 c102 c103 c104 c105 c106 : Value} (L : Nat) (c : Nat → Nat) (S : Nat → Bytes → Bool) (w W : World) (hc : ∀ j, c j ≤ 20000) (hG : ∀ j, j ≤ 14 → ∀ x, S j x = true → x.length = j)
    (hL : Lev w L 15 c S W) (Q : Exit → Act → World → Prop)
    (hexit : ∀ (u14 u15 u17 u78 u79 u80 u81 u82 u83 u84 u85 u86 u87 u88 u89 u90 u91 u92 u93 u94 u95 u96 u97 u98 u99 u100 u101 u102 u103 : Value) (W' : World), (∃ acc : List Bytes, AccOK S 0 acc ∧ L + 16 ≤ W'.heap.size ∧ Below w.heap.size w W' ∧ W'.ownsRow (L + 16) 9 1 u14 acc.length (acc.map encStr)) → Q (.exit 10) ⟨#[c0, c1, c2, c3, .pointer (some ⟨L, 0, none⟩), c5, c6, c7, c8, c9, c10, c11, c12, .func (.func 35) #[] #[.pointer (some ⟨L, 0, none⟩)], u14, u15, c16, u17, c18, c19, c20, c21, c22, c23, c24, c25, c26, c27, c28, c29, c30, c31, c32, c33, c34, c35, c36, c37, c38, c39, c40, c41, c42, c43, c44, c45, c46, c47, c48, c49, c50, c51, c52, c53, c54, c55, c56, c57, c58, c59, c60, c61, c62, c63, c64, c65, c66, c67, c68, c69, c70, c71, c72, c73, c74, c75, c76, c77, u78, u79, u80, u81, u82, u83, u84, u85, u86, u87, u88, u89, u90, u91, u92, u93, u94, u95, u96, u97, u98, u99, u100, u101, u102, u103, c104, c105, c106], []⟩ W') :
    Code.wp Try.prog (lp 5) Q ⟨#[c0, c1, c2, c3, .pointer (some ⟨L, 0, none⟩), c5, c6, c7, c8, c9, c10, c11, c12, .func (.func 35) #[] #[.pointer (some ⟨L, 0, none⟩)], .slice none 0 0, .int .i64 14, c16, c17, c18, c19, c20, c21, c22, c23, c24, c25, c26, c27, c28, c29, c30, c31, c32, c33, c34, c35, c36, c37, c38, c39, c40, c41, c42, c43, c44, c45, c46, c47, c48, c49, c50, c51, c52, c53, c54, c55, c56, c57, c58, c59, c60, c61, c62, c63, c64, c65, c66, c67, c68, c69, c70, c71, c72, c73, c74, c75, c76, c77, c78, c79, c80, c81, c82, c83, c84, c85, c86, c87, c88, c89, c90, c91, c92, c93, c94, c95, c96, c97, c98, c99, c100, c101, c102, c103, c104, c105, c106], []⟩ W := by
  dsimp only at hexit ⊢
  conv => arg 2; whnf
  go_loopw [14, 15] (fun v i wr => ∃ (m : Nat) (acc : List Bytes), m ≤ 15 ∧ i = .int .i64 ((m : Int) - 1) ∧ AccOK S m acc ∧ Lev w L m c S wr ∧ wr.ownsRow (L + 16) 9 1 v acc.length (acc.map encStr))
    (fun _ i _ => (intOf i + 1).toNat)
  case atStart => exact ⟨15, [], by omega, rfl, ⟨List.nodup_nil, fun x => by simp; omega, by simp⟩, hL, World.ownsRow_nil _ _ _ _⟩
  case round =>
    obtain ⟨m, acc, hm, rfl, hA, hLv, hrw⟩ := hrel
    clear hL
    have HE := Lib.hid hexit
    clear hexit
    have hlow := hLv.low
    have hsz := hLv.size
    by_cases hm1 : 1 ≤ m
    · obtain ⟨n, rfl⟩ : ∃ n, m = n + 1 := ⟨m - 1, by omega⟩
      have hcell := hLv.cell n (by omega)
      have hset := hLv.set n (by omega)
      have hK := fun mb W => callsIn_wide.1 (Try.maps_Keys_37 mb W)
      have hSo := sorted_calls (L + 1 + n) (c n) (S n) wr hset (hc n)
      have e1 : ((n + 1 : Nat) : Int) - 1 = (n : Int) := by omega
      rw [e1]
      clear e1
      go_wp2_with (first
        | (go_at_call 37; refine (hK _ _).mono ?_; rintro e w1 ⟨rfl, rfl⟩)
        | (go_at_call 36; refine hSo.mono ?_; rintro e w2 ⟨A, cap, ks, rfl, hnd, hmem, hkl, hAg, hb2⟩))
      have hgw : wr.grownBy w2 none := (World.grownBy_alloc wr (.cells #[.map (some (L + 1 + n))] 44) none).andThen (below_grown (by rw [World.size_alloc]; exact hb2)) (fun j hj => by cases hj)
      have hLv2 := (hLv.less (Nat.le_succ n)).kept hgw (by simp)
      have hset2 : ∃ D : DataW Unit, w2.ownsMap Try.prog 9 (plainElem Try.prog 4) (L + 1 + n) (Maps.size D) D := by
        obtain ⟨D, h1, _⟩ := hset
        exact ⟨D, h1.kept hgw (by simp)⟩
      have hrw2 := hrw.kept hgw (own_none u14)
      have hA2 : ks = [] ∨ ∃ g, A = some ⟨g, 0, none⟩ ∧ L + 16 ≤ g ∧ g < w2.heap.size ∧ CellsAt w2 g ks ∧ u14.ownBlock ≠ some g := by
        rcases hAg with h | ⟨g, h1, h2, h3, h4⟩
        · exact .inl h
        · exact .inr ⟨g, h1, by omega, h3, h4, fun e => by have := (hrw.lt g e).2; omega⟩
      have hkl' : ks.length ≤ 20000 := Nat.le_trans hkl (hc n)
      have hacc : acc.length ≤ 1000000 := by have := hA.len; omega
      refine loopF2 L n cap A u14 c S ks acc w w2 (by omega) hkl' hacc (fun x hx => hG n (by omega) x ((hmem x).1 hx)) hA2 hLv2 hset2 hrw2 _ ?_
      rintro x14 x17 x88 x89 x90 x91 x92 x93 x94 x95 x96 x97 x98 x99 x100 x101 x102 x103 w3 ⟨hLv3, hrw3⟩
      dsimp only
      have hA3 := hA.step (by omega) hnd hmem (hG n (by omega)) hkl'
      clear hgw hLv2 hset2 hrw2 hA2 hb2 hAg hmem hnd hset hcell hLv hrw hA hK hSo hlow hsz
      go_wp2
      go_roundw
      case rel => exact ⟨n, acc ++ unc S n ks, by omega, rfl, hA3, hLv3, hrw3⟩
      case measure => simp [intOf]
    · obtain rfl : m = 0 := by omega
      have H := Lib.hid (show ∃ acc : List Bytes, AccOK S 0 acc ∧ L + 16 ≤ wr.heap.size ∧ Below w.heap.size w wr ∧ wr.ownsRow (L + 16) 9 1 u14 acc.length (acc.map encStr) from ⟨acc, hA, hsz, hlow, hrw⟩)
      clear hA hLv hrw hlow hsz
      go_wp2
      exact HE.out _ _ _ _ _ _ _ _ _ _ _ _ _ _ _ _ _ _ _ _ _ _ _ _ _ _ _ _ _ _ H.out
end Go.Proofs.Ytajddminbfiipaa.Ext
