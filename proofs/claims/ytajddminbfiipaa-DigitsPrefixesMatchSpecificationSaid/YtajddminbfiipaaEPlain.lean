/- Plain laws about the smallest set of prefixes, about Few and Minimal, and how a slice of strings among the arguments is read. -/
import Derived.Test.YtajddminbfiipaaEMinSort
import Derived.Test.YtajddminbfiipaaWWords
import Derived.Test.YtajddminbfiipaaESane
import Derived.Test.YtajddminbfiipaaEPure
namespace Go.Proofs.Ytajddminbfiipaa.Ext
set_option linter.unusedVariables false
set_option linter.unusedSimpArgs false
open Go.RowKit

def dg (d : Nat) : UInt8 := UInt8.ofNat (48 + d)

/-- A string is filled by a list: it is in it, or its ten extensions are filled. -/
inductive Cd (l : List Bytes) : Bytes → Prop
  | mem {x : Bytes} (h : x ∈ l) : Cd l x
  | ten {x : Bytes} (h : ∀ d, d < 10 → Cd l (x ++ [dg d])) : Cd l x

theorem Cd.len {l : List Bytes} (h14 : ∀ x ∈ l, x.length ≤ 14) {x : Bytes} (h : Cd l x) : x.length ≤ 14 := by
  induction h with
  | mem h => exact h14 _ h
  | ten _ ih => have := ih 0 (by omega); simp at this; omega

theorem Tt_cd {l : List Bytes} : ∀ (k : Nat) (x : Bytes), Tt l k x = true → Cd l x
  | 0, x, h => by
    simp only [Tt, S0, Bool.and_eq_true] at h
    exact .mem (by simpa using h.1)
  | k + 1, x, h => by
    simp only [Tt, Bool.or_eq_true] at h
    rcases h with h | h
    · simp only [S0, Bool.and_eq_true] at h
      exact .mem (by simpa using h.1)
    · rw [tenB_iff] at h
      exact .ten fun d hd => Tt_cd k _ (h d hd)

theorem Tt_mem {l : List Bytes} {x : Bytes} (h : x ∈ l) (hl : x.length ≤ 14) : Tt l (14 - x.length) x = true := by
  cases e : 14 - x.length with
  | zero => simp only [Tt, S0, Bool.and_eq_true, beq_iff_eq]; exact ⟨by simpa using h, by omega⟩
  | succ k => simp only [Tt, S0, Bool.or_eq_true, Bool.and_eq_true, beq_iff_eq]; exact .inl ⟨by simpa using h, by omega⟩

theorem cd_TT {l : List Bytes} (h14 : ∀ x ∈ l, x.length ≤ 14) {x : Bytes} (h : Cd l x) : TT l x.length x = true := by
  induction h with
  | mem h => exact Tt_mem h (h14 _ h)
  | @ten x h ih =>
    have hl := (h 0 (by omega)).len h14
    simp at hl
    unfold TT at ih ⊢
    have e : 14 - x.length = (14 - (x.length + 1)) + 1 := by omega
    rw [e]
    simp only [Tt, Bool.or_eq_true]
    refine .inr (tenB_iff.2 fun d hd => ?_)
    have := ih d hd
    rw [List.length_append] at this
    exact this

theorem TT_iff {l : List Bytes} (h14 : ∀ x ∈ l, x.length ≤ 14) {x : Bytes} : TT l x.length x = true ↔ Cd l x := ⟨Tt_cd _ x, cd_TT h14⟩

theorem mem_minL {l : List Bytes} (h14 : ∀ x ∈ l, x.length ≤ 14) {x : Bytes} : x ∈ minL l ↔ Cd l x ∧ ∀ y, y <+: x → y ≠ x → ¬ Cd l y := by
  unfold minL
  rw [(isort_perm _).mem_iff, List.mem_filter, mem_nub, List.mem_flatMap]
  simp only [Bool.and_eq_true, Bool.not_eq_true']
  rw [TT_iff h14]
  have hc : cov (TT l) x.length x = false ↔ ∀ y, y <+: x → y ≠ x → ¬ Cd l y := by
    unfold cov
    rw [List.any_eq_false]
    constructor
    · intro h y hy hne hd
      have hlt : y.length < x.length := by
        rcases Nat.lt_or_ge y.length x.length with h | h
        · exact h
        · exact absurd (hy.eq_of_length (by have := hy.length_le; omega)) hne
      refine h y.length (List.mem_range.2 hlt) ?_
      rw [← List.prefix_iff_eq_take.1 hy]
      exact cd_TT h14 hd
    · intro h m hm ht
      rw [List.mem_range] at hm
      have hl : (x.take m).length = m := by rw [List.length_take]; omega
      refine h (x.take m) (List.take_prefix _ _) (fun e => by rw [e] at hl; omega) ((TT_iff h14).1 (by rw [hl]; exact ht))
  rw [hc]
  constructor
  · rintro ⟨_, h⟩; exact h
  · rintro ⟨h1, h2⟩
    obtain ⟨y, hy, hp⟩ := Tt_prefix _ _ (cd_TT h14 h1)
    exact ⟨⟨y, hy, mem_inits.2 hp⟩, h1, h2⟩

theorem minL_sorted (l : List Bytes) : (minL l).Pairwise (fun a b => leL a b = true) := isort_sorted _
theorem minL_nodup (l : List Bytes) : (minL l).Nodup := (isort_perm _).nodup_iff.2 ((nodup_nub _).filter _)

theorem sorted_eq {a b : List Bytes} (sa : a.Pairwise (fun a b => leL a b = true)) (sb : b.Pairwise (fun a b => leL a b = true)) (na : a.Nodup) (nb : b.Nodup) (h : ∀ x, x ∈ a ↔ x ∈ b) : a = b :=
  List.Perm.eq_of_pairwise (le := fun a b => leL a b = true) (fun a b _ _ h1 h2 => leL_anti h1 h2) sa sb ((List.perm_ext_iff_of_nodup na nb).2 h)

/-- A list covers a string: one of its beginnings is filled. -/
def Cv (l : List Bytes) (x : Bytes) : Prop := ∃ y, y <+: x ∧ Cd l y
theorem Cv.of {l : List Bytes} {x : Bytes} (h : Cd l x) : Cv l x := ⟨x, List.prefix_refl _, h⟩
theorem Cv.up {l : List Bytes} {x y : Bytes} (h : Cv l x) (hp : x <+: y) : Cv l y := by obtain ⟨z, hz, hd⟩ := h; exact ⟨z, hz.trans hp, hd⟩
theorem prefix_snoc {z y : Bytes} {c : UInt8} (h : z <+: y ++ [c]) : z <+: y ∨ z = y ++ [c] := by
  rw [List.prefix_concat_iff] at h
  exact h.symm.imp id id
theorem Cv.ten {l : List Bytes} {y : Bytes} (h : ∀ d, d < 10 → Cv l (y ++ [dg d])) : Cv l y := by
  by_cases hy : Cv l y
  · exact hy
  · refine .of (.ten fun d hd => ?_)
    obtain ⟨z, hz, hc⟩ := h d hd
    rcases prefix_snoc hz with hz | rfl
    · exact absurd ⟨z, hz, hc⟩ hy
    · exact hc
theorem Cv.all {l1 l2 : List Bytes} (h : ∀ x ∈ l1, Cv l2 x) {y : Bytes} (hy : Cv l1 y) : Cv l2 y := by
  obtain ⟨z, hz, hc⟩ := hy
  refine Cv.up ?_ hz
  clear hz
  induction hc with
  | mem hm => exact h _ hm
  | ten _ ih => exact Cv.ten ih

theorem minL_cv {l : List Bytes} (h14 : ∀ x ∈ l, x.length ≤ 14) {x : Bytes} : x ∈ minL l ↔ Cv l x ∧ ∀ y, y <+: x → y ≠ x → ¬ Cv l y := by
  rw [mem_minL h14]
  constructor
  · rintro ⟨h1, h2⟩
    refine ⟨.of h1, fun y hy hne ⟨z, hz, hc⟩ => h2 z (hz.trans hy) (fun e => ?_) hc⟩
    subst e
    have := hz.length_le; have := hy.length_le
    exact hne (hy.eq_of_length (by omega))
  · rintro ⟨⟨z, hz, hc⟩, h2⟩
    by_cases e : z = x
    · subst e; exact ⟨hc, fun y hy hne hd => h2 y hy hne (.of hd)⟩
    · exact absurd (.of hc) (h2 z hz e)

/-- Lists that cover the same strings have the same smallest set. -/
theorem minL_congr {l1 l2 : List Bytes} (h1 : ∀ x ∈ l1, x.length ≤ 14) (h2 : ∀ x ∈ l2, x.length ≤ 14) (a : ∀ x ∈ l1, Cv l2 x) (b : ∀ x ∈ l2, Cv l1 x) : minL l1 = minL l2 := by
  have e : ∀ x, Cv l1 x ↔ Cv l2 x := fun x => ⟨Cv.all a, Cv.all b⟩
  refine sorted_eq (minL_sorted _) (minL_sorted _) (minL_nodup _) (minL_nodup _) fun x => ?_
  rw [minL_cv h1, minL_cv h2, e]
  simp only [e]

theorem minL_anti {l : List Bytes} (h14 : ∀ x ∈ l, x.length ≤ 14) {x y : Bytes} (hx : x ∈ minL l) (hy : y ∈ minL l) (h : x <+: y) : x = y := by
  by_cases e : x = y
  · exact e
  · exact absurd ((mem_minL h14).1 hx).1 (((mem_minL h14).1 hy).2 x h e)

theorem cd_min {l : List Bytes} (h14 : ∀ x ∈ l, x.length ≤ 14) : ∀ (n : Nat) (y : Bytes), y.length ≤ n → Cd l y → ∃ z ∈ minL l, z <+: y := by
  intro n
  induction n with
  | zero =>
    intro y hy hc
    refine ⟨y, (mem_minL h14).2 ⟨hc, fun z hz hne => ?_⟩, List.prefix_refl _⟩
    have := hz.length_le
    exact absurd (hz.eq_of_length (by omega)) hne
  | succ n ih =>
    intro y hy hc
    by_cases e : ∃ z, z <+: y ∧ z ≠ y ∧ Cd l z
    · obtain ⟨z, hz, hne, hd⟩ := e
      have hlt : z.length < y.length := by
        rcases Nat.lt_or_ge z.length y.length with h | h
        · exact h
        · exact absurd (hz.eq_of_length (by have := hz.length_le; omega)) hne
      obtain ⟨t, ht, hp⟩ := ih z (by omega) hd
      exact ⟨t, ht, hp.trans hz⟩
    · exact ⟨y, (mem_minL h14).2 ⟨hc, fun z hz hne hd => e ⟨z, hz, hne, hd⟩⟩, List.prefix_refl _⟩

theorem cv_min {l : List Bytes} (h14 : ∀ x ∈ l, x.length ≤ 14) {y : Bytes} (h : Cv l y) : ∃ z ∈ minL l, z <+: y := by
  obtain ⟨t, ht, hc⟩ := h
  obtain ⟨z, hz, hp⟩ := cd_min h14 _ t (Nat.le_refl _) hc
  exact ⟨z, hz, hp.trans ht⟩

theorem minL_len14 {l : List Bytes} (h14 : ∀ x ∈ l, x.length ≤ 14) : ∀ x ∈ minL l, x.length ≤ 14 := fun x hx => ((mem_minL h14).1 hx).1.len h14

theorem minL_minL {l : List Bytes} (h14 : ∀ x ∈ l, x.length ≤ 14) : minL (minL l) = minL l :=
  minL_congr (minL_len14 h14) h14 (fun x hx => .of ((mem_minL h14).1 hx).1) (fun x hx => by
    obtain ⟨z, hz, hp⟩ := cv_min h14 (.of (.mem hx))
    exact ⟨z, hp, .mem hz⟩)

/-- A number of fifteen digits that begins with a filled string begins with one of the list. -/
theorem cd_long {l : List Bytes} (h14 : ∀ x ∈ l, x.length ≤ 14) {x : Bytes} (hc : Cd l x) : ∀ (n : Bytes), x <+: n → 15 ≤ n.length → (∀ c ∈ n, isDig c = true) → ∃ y ∈ l, y <+: n := by
  induction hc with
  | mem h => intro n hn _ _; exact ⟨_, h, hn⟩
  | @ten x h ih =>
    intro n hn hl hd
    have hx := (h 0 (by omega)).len h14
    simp at hx
    obtain ⟨t, rfl⟩ := hn
    cases t with
    | nil => simp at hl; omega
    | cons c t =>
      obtain ⟨d, hd10, rfl⟩ := digit_of (hd c (by simp))
      exact ih d hd10 _ ⟨t, by simp [dg]⟩ hl hd

theorem match_min {l : List Bytes} (h14 : ∀ x ∈ l, x.length ≤ 14) {n : Bytes} (hl : 15 ≤ n.length) (hd : ∀ c ∈ n, isDig c = true) : (∃ y ∈ minL l, y <+: n) ↔ ∃ y ∈ l, y <+: n := by
  constructor
  · rintro ⟨y, hy, hp⟩; exact cd_long h14 ((mem_minL h14).1 hy).1 n hp hl hd
  · rintro ⟨y, hy, hp⟩
    obtain ⟨z, hz, hq⟩ := cv_min h14 (.of (.mem hy))
    exact ⟨z, hz, hq.trans hp⟩

theorem cd_ext {l : List Bytes} {x : Bytes} (h : Cd l x) : ∃ y ∈ l, x <+: y := by
  induction h with
  | mem h => exact ⟨_, h, List.prefix_refl _⟩
  | ten _ ih =>
    obtain ⟨y, hy, hp⟩ := ih 0 (by omega)
    exact ⟨y, hy, (List.prefix_append _ _).trans hp⟩

/-- The smallest set is no longer than the list. -/
theorem anti_len : ∀ (m l : List Bytes), m.Nodup → (∀ x ∈ m, ∀ y ∈ m, x <+: y → x = y) → (∀ x ∈ m, ∃ y ∈ l, x <+: y) → m.length ≤ l.length
  | [], _, _, _, _ => by simp
  | x :: m, l, hn, ha, hl => by
    obtain ⟨y, hy, hp⟩ := hl x (by simp)
    have := anti_len m (l.erase y) (List.nodup_cons.1 hn).2 (fun a ha' b hb => ha a (by simp [ha']) b (by simp [hb])) (fun a ha' => by
      obtain ⟨z, hz, hq⟩ := hl a (by simp [ha'])
      refine ⟨z, (List.mem_erase_of_ne ?_).2 hz, hq⟩
      rintro rfl
      have hne : a ≠ x := fun e => (List.nodup_cons.1 hn).1 (e ▸ ha')
      rcases Nat.le_total a.length x.length with h | h
      · exact hne (ha a (by simp [ha']) x (by simp) (List.prefix_of_prefix_length_le hq hp h))
      · exact hne (ha x (by simp) a (by simp [ha']) (List.prefix_of_prefix_length_le hp hq h)).symm)
    rw [List.length_erase_of_mem hy] at this
    have h1 : 0 < l.length := List.length_pos_of_mem hy
    simp only [List.length_cons]
    omega
theorem minL_len {l : List Bytes} (h14 : ∀ x ∈ l, x.length ≤ 14) : (minL l).length ≤ l.length :=
  anti_len _ _ (minL_nodup l) (fun x hx y hy => minL_anti h14 hx hy) (fun x hx => cd_ext ((mem_minL h14).1 hx).1)

/-- A sorted list of which none begins another, and which holds not all ten extensions of any string, is its own smallest set. -/
theorem fix_minL {L : List Bytes} (h14 : ∀ x ∈ L, x.length ≤ 14) (hs : L.Pairwise (fun a b => leL a b = true)) (hn : L.Nodup) (ha : ∀ x ∈ L, ∀ y ∈ L, x <+: y → x = y)
    (hf : ∀ p, ¬ ∀ d, d < 10 → p ++ [dg d] ∈ L) : minL L = L := by
  have hc : ∀ y, Cd L y → ∃ z ∈ L, z <+: y := by
    intro y hy
    induction hy with
    | mem h => exact ⟨_, h, List.prefix_refl _⟩
    | @ten y _ ih =>
      by_cases e : ∃ z ∈ L, z <+: y
      · exact e
      · refine absurd (fun d hd => ?_) (hf y)
        obtain ⟨z, hz, hp⟩ := ih d hd
        rcases prefix_snoc hp with hp | rfl
        · exact absurd ⟨z, hz, hp⟩ e
        · exact hz
  refine sorted_eq (minL_sorted _) hs (minL_nodup _) hn fun x => ?_
  rw [mem_minL h14]
  constructor
  · rintro ⟨h1, h2⟩
    obtain ⟨z, hz, hp⟩ := hc x h1
    by_cases e : z = x
    · exact e ▸ hz
    · exact absurd (.mem hz) (h2 z hp e)
  · intro hx
    refine ⟨.mem hx, fun y hy hne hd => ?_⟩
    obtain ⟨z, hz, hp⟩ := hc y hd
    have e := ha z hz x hx (hp.trans hy)
    subst e
    have := hp.length_le; have := hy.length_le
    exact hne (hy.eq_of_length (by omega))
end Go.Proofs.Ytajddminbfiipaa.Ext
namespace Go.Proofs.Ytajddminbfiipaa.Ext
open Go.RowKit Go.Proofs.YtajddminbfiipaaW.PrintWords

theorem strs_none (w : World) : Kd.C Kd.string w none ([] : List ByteArray).length [] := ⟨rfl, by simp, fun h => by simp at h⟩

theorem strs_some {w : World} {a : Addr} {len : Nat} {ss : List ByteArray} (hl : len ≤ ss.length) (hm : len ≤ 9223372036854775807)
    (hc : ∀ i, i < ss.length → w.cell? (a.add i) = some (.string (ss.getD i ByteArray.empty))) : Kd.C Kd.string w (some a) (ss.take len).length (ss.take len) := by
  have hlen : (ss.take len).length = len := by rw [List.length_take]; omega
  refine ⟨rfl, by omega, fun _ => ⟨a, rfl, fun j p hj => ?_⟩⟩
  have hj' := (List.getElem?_eq_some_iff.1 hj)
  obtain ⟨hlt, he⟩ := hj'
  rw [hlen] at hlt
  refine ⟨[.string p], rfl, rfl, fun i u hu => ?_⟩
  have h1 := hc j (by omega)
  cases i with
  | succ i => simp at hu
  | zero =>
    simp at hu
    subst hu
    show w.cell? (a.add (j * 1 + 0)) = _
    rw [Nat.mul_one, Nat.add_zero, h1]
    have : ss.getD j ByteArray.empty = p := by
      rw [← he]
      rw [List.getElem_take, List.getD_eq_getElem?_getD, List.getElem?_eq_getElem (by omega)]
      rfl
    rw [this]
end Go.Proofs.Ytajddminbfiipaa.Ext
namespace Go.Proofs.Ytajddminbfiipaa.Pure
set_option linter.unusedVariables false
set_option linter.unusedSimpArgs false
open Go.RowKit Go.Proofs.Ytajddminbfiipaa.Q Go.Proofs.Ytajddminbfiipaa.Ext Go.Proofs.YtajddminbfiipaaW.PrintWords Go.Proofs.YtajddminbfiipaaW.PrintLast

theorem few_l0 (l : List ByteArray) : ∀ (d i k : Nat), 60 - i = d → i ≤ l.length → i ≤ 60 → 2 * d + 2 ≤ k → (∀ x ∈ l.take i, x.size ≤ 40) →
    ∃ b, crossbarref06_Few.l0 k l (i : Int) = some b ∧ (b = true → l.length ≤ 60 ∧ ∀ x ∈ l, x.size ≤ 40) := by
  intro d
  induction d with
  | zero =>
    intro i k hd hi h60 hk hx
    obtain ⟨k, rfl⟩ : ∃ m, k = m + 2 := ⟨k - 2, by omega⟩
    simp only [crossbarref06_Few.l0]
    split
    next h =>
      rw [decide_eq_false (by omega)]
      simp only [crossbarref06_Few.j1, Bool.false_eq_true, if_false]
      exact ⟨_, rfl, fun h => by have := of_decide_eq_true h; omega⟩
    next h =>
      simp only [crossbarref06_Few.j1, Bool.false_eq_true, if_false]
      refine ⟨_, rfl, fun h' => ⟨by have := of_decide_eq_true h'; omega, fun x hm => hx x ?_⟩⟩
      rw [List.take_of_length_le (by omega)]; exact hm
  | succ d ih =>
    intro i k hd hi h60 hk hx
    obtain ⟨k, rfl⟩ : ∃ m, k = m + 2 := ⟨k - 2, by omega⟩
    simp only [crossbarref06_Few.l0]
    split
    next h =>
      rw [decide_eq_true (by omega)]
      simp only [crossbarref06_Few.j1, if_true]
      rw [if_pos (by omega), if_pos h, rd_nat]
      have hi' : i < l.length := by omega
      have hg : l.getD i ByteArray.empty = l[i] := by simp [List.getD_eq_getElem?_getD, hi']
      rw [hg]
      split
      next => exact ⟨_, rfl, fun h => by cases h⟩
      next hs =>
        have hw : wrap64 ((i : Int) + 1) = ((i + 1 : Nat) : Int) := by unfold wrap64; omega
        rw [hw]
        refine ih (i + 1) k (by omega) (by omega) (by omega) (by omega) fun x hm => ?_
        rw [List.take_succ_eq_append_getElem hi', List.mem_append] at hm
        rcases hm with hm | hm
        · exact hx x hm
        · rw [List.mem_singleton] at hm; subst hm; omega
    next h =>
      simp only [crossbarref06_Few.j1, Bool.false_eq_true, if_false]
      refine ⟨_, rfl, fun h' => ⟨by have := of_decide_eq_true h'; omega, fun x hm => hx x ?_⟩⟩
      rw [List.take_of_length_le (by omega)]; exact hm

theorem few_any (l : List ByteArray) {k : Nat} (hk : 200 ≤ k) : ∃ b, crossbarref06_Few.f k l = some b ∧ (b = true → l.length ≤ 60 ∧ ∀ x ∈ l, x.size ≤ 40) := by
  obtain ⟨b, h1, h2⟩ := few_l0 l 60 0 k (by omega) (by omega) (by omega) (by omega) (by simp)
  exact ⟨b, h1, h2⟩

theorem mkB_list (x : Bytes) : (mkB x).data.toList = x := by simp [mkB]
theorem bytes_mkB (L : List Bytes) : Ext.bytes (L.map mkB) = L := by
  unfold Ext.bytes
  rw [List.map_map]
  conv => rhs; rw [← List.map_id L]
  exact List.map_congr_left fun x _ => mkB_list x
theorem mkB_bytes (l : List ByteArray) : (Ext.bytes l).map mkB = l := by
  unfold Ext.bytes
  rw [List.map_map]
  conv => rhs; rw [← List.map_id l]
  exact List.map_congr_left fun x _ => by rw [Function.comp, ba_eq, mkB_list]; rfl

/-- Every prefix is one of at most 14 digits. -/
def AllOk (l : List ByteArray) : Prop := ∀ p ∈ l, onlyB p 0 14 = true
theorem AllOk.len {l : List ByteArray} (h : AllOk l) : ∀ x ∈ Ext.bytes l, x.length ≤ 14 := by
  intro x hx
  obtain ⟨p, hp, rfl⟩ := List.mem_map.1 hx
  exact (only_parts (h p hp)).1
theorem AllOk.dig {l : List ByteArray} (h : AllOk l) : ∀ x ∈ Ext.bytes l, ∀ c ∈ x, isDig c = true := by
  intro x hx
  obtain ⟨p, hp, rfl⟩ := List.mem_map.1 hx
  exact (only_parts (h p hp)).2
theorem only_of {x : Bytes} (h : x.length ≤ 14) (hd : ∀ c ∈ x, isDig c = true) : onlyB (mkB x) 0 14 = true := by
  rw [onlyB_iff, mkB_list]
  have : (mkB x).size = x.length := by rw [← size_list, mkB_list]
  exact ⟨by omega, by omega, hd⟩

theorem min_cases {l : List ByteArray} (h : l.length ≤ 1024) : (AllOk l ∧ minimalB l = ((minL (Ext.bytes l)).map mkB, 0)) ∨ minimalB l = ([], 60) := by
  unfold minimalB
  rw [if_neg (by omega)]
  split
  next h => exact .inl ⟨by rw [List.all_eq_true] at h; exact h, rfl⟩
  next => exact .inr rfl
theorem min_ok {l : List ByteArray} (h : l.length ≤ 1024) (ha : AllOk l) : minimalB l = ((minL (Ext.bytes l)).map mkB, 0) := by
  unfold minimalB
  rw [if_neg (by omega), if_pos (by rw [List.all_eq_true]; exact ha)]

theorem matches_iff {l : List ByteArray} {s : ByteArray} : matchesB l s = true ↔ ∃ y ∈ Ext.bytes l, y <+: s.data.toList := by
  unfold matchesB Ext.bytes
  rw [List.any_eq_true]
  constructor
  · rintro ⟨x, hx, hp⟩; exact ⟨_, List.mem_map.2 ⟨x, hx, rfl⟩, hasP_iff.1 hp⟩
  · rintro ⟨y, hy, hp⟩
    obtain ⟨x, hx, rfl⟩ := List.mem_map.1 hy
    exact ⟨x, hx, hasP_iff.2 hp⟩
end Go.Proofs.Ytajddminbfiipaa.Pure
