/- The law DigitsPrefixesMatchSpecification holds: it answers true for every input that the statement names. -/
import Derived.Test.YtajddminbfiipaaQx4
import Derived.Test.YtajddminbfiipaaEPlain
import Derived.Test.YtajddminbfiipaaRows
import Derived.WalkKit
import Derived.ProofKit
import Derived.OpenShut
import Derived.ShutString
import Derived.ChangeOld
import Derived.Below
import Derived.SizedLaws
import Derived.SliceStrings
namespace Go.Proofs.Ytajddminbfiipaa.Pure
set_option linter.unusedVariables false
set_option linter.unusedSimpArgs false
open Go.RowKit Go.Proofs.Ytajddminbfiipaa.Q Go.Proofs.Ytajddminbfiipaa.Ext Go.Proofs.YtajddminbfiipaaW.PrintWords Go.Proofs.YtajddminbfiipaaW.PrintLast

theorem getD_at {l : List ByteArray} {i : Nat} (h : i < l.length) : l.getD i ByteArray.empty = l[i] := by simp [List.getD_eq_getElem?_getD, h]
theorem wsucc {i : Nat} (h : i < 1000000000) : wrap64 ((i : Int) + 1) = ((i + 1 : Nat) : Int) := by unfold wrap64; omega

instance memDec (s : ByteArray) (l : List ByteArray) : Decidable (s ∈ l) := decidable_of_iff (l.any (eqB s) = true) (by
  rw [List.any_eq_true]
  constructor
  · rintro ⟨x, hx, he⟩; rw [eqB_iff.1 he]; exact hx
  · intro h; exact ⟨s, h, eqB_iff.2 rfl⟩)

theorem mem_bytes' {l : List ByteArray} {y : ByteArray} (h : y ∈ l) : y.data.toList ∈ Ext.bytes l := List.mem_map.2 ⟨y, h, rfl⟩

/-! ### has -/
theorem has_l0 (l : List ByteArray) (s : ByteArray) (hn : l.length ≤ 1000) : ∀ (d i k : Nat), l.length - i = d → i ≤ l.length → d < k → crossbarref06_has.l0 k l s (i : Int) = some (decide (s ∈ l.drop i)) := by
  intro d
  induction d with
  | zero =>
    intro i k hd hi hk
    obtain ⟨k, rfl⟩ : ∃ q, k = q + 1 := ⟨k - 1, by omega⟩
    simp only [crossbarref06_has.l0]
    rw [if_neg (by omega), List.drop_of_length_le (by omega)]
    simp
  | succ d ih =>
    intro i k hd hi hk
    obtain ⟨k, rfl⟩ : ∃ q, k = q + 1 := ⟨k - 1, by omega⟩
    have hi' : i < l.length := by omega
    simp only [crossbarref06_has.l0]
    rw [if_pos (by omega), if_pos (by omega), rd_nat, getD_at hi', wsucc (by omega), toList_eq, toList_eq, List.drop_eq_getElem_cons hi']
    by_cases e : l[i] = s
    · rw [if_pos (by rw [e]), decide_eq_true (by rw [e]; exact List.mem_cons_self)]
    · rw [if_neg (fun h => e (ba_eq.2 h)), ih (i + 1) k (by omega) (by omega) (by omega)]
      refine congrArg some ?_
      rw [decide_eq_decide, List.mem_cons]
      exact ⟨.inr, fun h => h.elim (fun h => absurd h.symm e) id⟩
theorem has_eq (l : List ByteArray) (s : ByteArray) (hn : l.length ≤ 1000) {k : Nat} (hk : l.length < k) : crossbarref06_has.f k l s = some (decide (s ∈ l)) :=
  has_l0 l s hn l.length 0 k rfl (Nat.zero_le _) hk

/-! ### uncovered -/
def insS (x : ByteArray) : List ByteArray → List ByteArray
  | [] => [x]
  | y :: l => if Op.bytesLess y.data.toList x.data.toList = true then y :: insS x l else x :: y :: l
def preB (l : List ByteArray) (x : ByteArray) : Nat → Nat → Bool
  | 0, _ => false
  | e + 1, m => decide (x.extract 0 m ∈ l) || preB l x e (m + 1)
def stepU (l out : List ByteArray) (x : ByteArray) : List ByteArray := if (decide (x ∈ out) || preB l x x.size 0) = true then out else insS x out

theorem insS_len (x : ByteArray) : ∀ l, (insS x l).length = l.length + 1
  | [] => rfl
  | y :: l => by
    unfold insS
    split
    · simp [insS_len x l]
    · rfl

theorem unc_l2 (l out : List ByteArray) (i : Nat) (hi : i < l.length) (hl : l.length ≤ 100) (ho : out.length ≤ 100) (R : Option (List ByteArray)) (need : Nat)
    (next : ∀ k, need ≤ k → crossbarref06_uncovered.l0 k l (insS l[i] out) ((i + 1 : Nat) : Int) = R) :
    ∀ (e a k : Nat), out.length - a = e → a ≤ out.length → need + e + 1 ≤ k → out.take a ++ insS l[i] (out.drop a) = insS l[i] out → crossbarref06_uncovered.l2 k l out (i : Int) (a : Int) = R := by
  intro e
  induction e with
  | zero =>
    intro a k he ha hk heq
    obtain ⟨k, rfl⟩ : ∃ q, k = q + 1 := ⟨k - 1, by omega⟩
    obtain rfl : a = out.length := by omega
    simp only [crossbarref06_uncovered.l2]
    rw [if_neg (by omega), if_pos (by omega), if_pos (by omega)]
    simp only [Option.bind_some, Int.toNat_natCast, List.nil_append, List.length_nil]
    rw [if_pos (by rw [List.length_take]; omega), if_pos (by omega), if_pos (by omega), if_pos (by rw [List.length_take]; omega)]
    rw [if_pos (by simp only [List.length_append, List.length_take, List.length_drop, List.length_singleton]; omega), rd_nat, getD_at hi, wsucc (by omega)]
    have : (List.take out.length out ++ [l[i]]) ++ List.drop out.length out = insS l[i] out := by
      rw [← heq, List.drop_of_length_le (Nat.le_refl _)]
      simp [insS]
    rw [this]
    exact next k (by omega)
  | succ e ih =>
    intro a k he ha hk heq
    obtain ⟨k, rfl⟩ : ∃ q, k = q + 1 := ⟨k - 1, by omega⟩
    have ha' : a < out.length := by omega
    simp only [crossbarref06_uncovered.l2]
    rw [if_pos (by omega), if_pos (by omega), if_pos (by omega), if_pos (by omega), rd_nat, rd_nat, getD_at hi, getD_at ha', toList_eq, toList_eq]
    rw [List.drop_eq_getElem_cons ha'] at heq
    simp only [insS] at heq
    by_cases hb : Op.bytesLess out[a].data.toList l[i].data.toList = true
    · rw [if_pos hb, wsucc (by omega)]
      rw [if_pos hb] at heq
      refine ih (a + 1) k (by omega) (by omega) (by omega) ?_
      rw [← heq, List.take_succ_eq_append_getElem ha', List.append_assoc, List.singleton_append]
    · rw [if_neg hb, if_pos (by omega)]
      rw [if_neg hb] at heq
      simp only [Option.bind_some, Int.toNat_natCast, List.nil_append, List.length_nil]
      rw [if_pos (by rw [List.length_take]; omega), if_pos (by rw [List.length_take]; omega)]
      rw [if_pos (by simp only [List.length_append, List.length_take, List.length_drop, List.length_singleton]; omega), wsucc (by omega)]
      have : (List.take a out ++ [l[i]]) ++ List.drop a out = insS l[i] out := by
        rw [← heq, List.drop_eq_getElem_cons ha', List.append_assoc, List.singleton_append]
      rw [this]
      exact next k (by omega)

theorem unc_l1 (l out : List ByteArray) (i : Nat) (hi : i < l.length) (hl : l.length ≤ 100) (hsz : l[i].size ≤ 14) (R : Option (List ByteArray)) (need : Nat) (hneed : 110 ≤ need)
    (nextc : ∀ k, need ≤ k → crossbarref06_uncovered.l0 k l out ((i + 1 : Nat) : Int) = R ∨ False → True) (b0 : Bool)
    (yes : (b0 || preB l l[i] l[i].size 0) = true → ∀ k, need ≤ k → crossbarref06_uncovered.l0 k l out ((i + 1 : Nat) : Int) = R)
    (no : (b0 || preB l l[i] l[i].size 0) = false → ∀ k, need ≤ k → crossbarref06_uncovered.l2 k l out (i : Int) 0 = R) :
    ∀ (e m k : Nat) (b : Bool), l[i].size - m = e → m ≤ l[i].size → need + e + 1 ≤ k → (b || preB l l[i] e m) = (b0 || preB l l[i] l[i].size 0) →
      crossbarref06_uncovered.l1 k l out (i : Int) b (m : Int) = R := by
  intro e
  induction e with
  | zero =>
    intro m k b he hm hk hb
    obtain ⟨k, rfl⟩ : ∃ q, k = q + 1 := ⟨k - 1, by omega⟩
    simp only [crossbarref06_uncovered.l1]
    rw [if_pos (by omega), if_pos (by omega), rd_nat, getD_at hi, if_neg (by omega)]
    simp only [preB, Bool.or_false] at hb
    cases b with
    | true => rw [if_pos rfl, wsucc (by omega)]; exact yes hb.symm k (by omega)
    | false => rw [if_neg (by decide)]; exact no hb.symm k (by omega)
  | succ e ih =>
    intro m k b he hm hk hb
    obtain ⟨k, rfl⟩ : ∃ q, k = q + 1 := ⟨k - 1, by omega⟩
    simp only [crossbarref06_uncovered.l1]
    rw [if_pos (by omega), if_pos (by omega), rd_nat, getD_at hi, if_pos (by omega), wsucc (by omega)]
    cases b with
    | true =>
      rw [if_pos rfl]
      exact ih (m + 1) k true (by omega) (by omega) (by omega) (by rw [← hb]; rfl)
    | false =>
      rw [if_neg (by decide), if_pos (by omega), if_pos (by omega), Int.toNat_natCast, has_eq l _ (by omega) (by omega)]
      simp only [Option.bind_some]
      exact ih (m + 1) k _ (by omega) (by omega) (by omega) (by rw [← hb]; simp [preB])

theorem unc_l0 (l : List ByteArray) (hl : l.length ≤ 100) (hsz : ∀ x ∈ l, x.size ≤ 14) : ∀ (d i k : Nat) (out : List ByteArray), l.length - i = d → i ≤ l.length → out.length ≤ i → 200 * d + 300 ≤ k →
    crossbarref06_uncovered.l0 k l out (i : Int) = some ((l.drop i).foldl (stepU l) out) := by
  intro d
  induction d with
  | zero =>
    intro i k out hd hi ho hk
    obtain ⟨k, rfl⟩ : ∃ q, k = q + 1 := ⟨k - 1, by omega⟩
    simp only [crossbarref06_uncovered.l0]
    rw [if_neg (by omega), List.drop_of_length_le (by omega)]; rfl
  | succ d ih =>
    intro i k out hd hi ho hk
    obtain ⟨k, rfl⟩ : ∃ q, k = q + 1 := ⟨k - 1, by omega⟩
    have hi' : i < l.length := by omega
    have hs := hsz _ (List.getElem_mem hi')
    simp only [crossbarref06_uncovered.l0]
    rw [if_pos (by omega), if_pos (by omega), rd_nat, getD_at hi', has_eq out _ (by omega) (by omega)]
    simp only [Option.bind_some]
    rw [List.drop_eq_getElem_cons hi', List.foldl_cons]
    refine unc_l1 l out i hi' hl hs _ (200 * d + 420) (by omega) (fun _ _ _ => trivial) (decide (l[i] ∈ out)) ?_ ?_ l[i].size 0 k _ (by omega) (by omega) (by omega) rfl
    · intro hb k hk
      rw [ih (i + 1) k out (by omega) (by omega) (by omega) (by omega)]
      unfold stepU
      rw [if_pos hb]
    · intro hb k hk
      refine unc_l2 l out i hi' hl (by omega) _ (200 * d + 300) ?_ out.length 0 k (by omega) (by omega) (by omega) (by simp)
      intro k hk
      rw [ih (i + 1) k _ (by omega) (by omega) (by rw [insS_len]; omega) (by omega)]
      unfold stepU
      rw [hb]; rfl

def unc (l : List ByteArray) : List ByteArray := l.foldl (stepU l) []
theorem unc_eq (l : List ByteArray) (hl : l.length ≤ 100) (hsz : ∀ x ∈ l, x.size ≤ 14) {k : Nat} (hk : 20300 ≤ k) : crossbarref06_uncovered.f k l = some (unc l) :=
  unc_l0 l hl hsz l.length 0 k [] rfl (Nat.zero_le _) (Nat.zero_le _) (by omega)

/-! ### what uncovered holds -/
def ltL (a b : Bytes) : Prop := leL a b = true ∧ a ≠ b
theorem ltL_trans {a b c : Bytes} (h1 : ltL a b) (h2 : ltL b c) : ltL a c := by
  refine ⟨leL_trans _ _ _ h1.1 h2.1, ?_⟩
  rintro rfl
  exact h1.2 (leL_anti h1.1 h2.1)
theorem ltL_iff {a b : Bytes} : Op.bytesLess a b = true ↔ ltL a b := by
  rw [Go.Proofs.bytesLess_eq, decide_eq_true_eq]
  constructor
  · intro h
    have hn : leL b a = false := by
      unfold leL; rw [decide_eq_false_iff_not]; intro h2; exact List.not_lt.2 h2 h
    refine ⟨(leL_total a b).resolve_right (by rw [hn]; decide), ?_⟩
    rintro rfl
    rcases leL_total a a with h2 | h2 <;> rw [hn] at h2 <;> cases h2
  · rintro ⟨h1, h2⟩
    apply Classical.byContradiction
    intro h
    exact h2 (leL_anti h1 (by unfold leL; rw [decide_eq_true_eq]; exact List.not_lt.1 h))

def SS (l : List ByteArray) : Prop := (Ext.bytes l).Pairwise ltL
theorem mem_insS {x y : ByteArray} : ∀ {l : List ByteArray}, y ∈ insS x l ↔ y = x ∨ y ∈ l
  | [] => by simp [insS]
  | z :: l => by
    unfold insS
    split
    · rw [List.mem_cons, mem_insS, List.mem_cons]
      constructor
      · rintro (h | h | h)
        · exact .inr (.inl h)
        · exact .inl h
        · exact .inr (.inr h)
      · rintro (h | h | h)
        · exact .inr (.inl h)
        · exact .inl h
        · exact .inr (.inr h)
    · rw [List.mem_cons]
theorem SS_cons {y : ByteArray} {l : List ByteArray} : SS (y :: l) ↔ (∀ z ∈ l, ltL y.data.toList z.data.toList) ∧ SS l := by
  unfold SS Ext.bytes
  rw [List.map_cons, List.pairwise_cons]
  simp only [List.mem_map, forall_exists_index, and_imp, forall_apply_eq_imp_iff₂]
theorem insS_ss {x : ByteArray} : ∀ {l : List ByteArray}, SS l → x ∉ l → SS (insS x l)
  | [], _, _ => by unfold insS SS Ext.bytes; simp
  | y :: l, h, hx => by
    have h' := SS_cons.1 h
    unfold insS
    split
    next hb =>
      refine SS_cons.2 ⟨fun z hz => ?_, insS_ss h'.2 (fun hm => hx (List.mem_cons_of_mem _ hm))⟩
      rcases mem_insS.1 hz with rfl | hz
      · exact ltL_iff.1 hb
      · exact h'.1 z hz
    next hb =>
      have hxy : ltL x.data.toList y.data.toList := by
        have hne : x.data.toList ≠ y.data.toList := fun e => hx (by rw [ba_eq.2 e]; exact List.mem_cons_self)
        refine ⟨(leL_total _ _).resolve_right (fun h2 => hb (ltL_iff.2 ⟨h2, fun e => hne e.symm⟩)), hne⟩
      refine SS_cons.2 ⟨fun z hz => ?_, h⟩
      rcases List.mem_cons.1 hz with rfl | hz
      · exact hxy
      · exact ltL_trans hxy (h'.1 z hz)

theorem preB_iff (l : List ByteArray) (x : ByteArray) : ∀ (e m : Nat), preB l x e m = true ↔ ∃ j, m ≤ j ∧ j < m + e ∧ x.extract 0 j ∈ l
  | 0, m => ⟨fun h => by simp [preB] at h, fun ⟨j, h1, h2, _⟩ => by omega⟩
  | e + 1, m => by
    simp only [preB, Bool.or_eq_true, decide_eq_true_eq]
    rw [preB_iff l x e (m + 1)]
    constructor
    · rintro (h | ⟨j, h1, h2, h3⟩)
      · exact ⟨m, by omega, by omega, h⟩
      · exact ⟨j, by omega, by omega, h3⟩
    · rintro ⟨j, h1, h2, h3⟩
      by_cases hj : j = m
      · subst hj; exact .inl h3
      · exact .inr ⟨j, by omega, by omega, h3⟩
/-- A proper beginning of x is in the list. -/
def Pre (l : List ByteArray) (x : ByteArray) : Prop := ∃ y ∈ l, y.data.toList <+: x.data.toList ∧ y ≠ x
theorem pre_iff (l : List ByteArray) (x : ByteArray) : preB l x x.size 0 = true ↔ Pre l x := by
  rw [preB_iff]
  constructor
  · rintro ⟨j, _, hj, hm⟩
    refine ⟨_, hm, by rw [ext_take']; exact List.take_prefix _ _, fun e => ?_⟩
    have := congrArg ByteArray.size e
    rw [← size_list, ext_take', List.length_take, size_list] at this
    omega
  · rintro ⟨y, hy, hp, hne⟩
    have hle := hp.length_le
    rw [size_list, size_list] at hle
    have hlt : y.size < x.size := by
      rcases Nat.lt_or_ge y.size x.size with h | h
      · exact h
      · exact absurd (ba_eq.2 (hp.eq_of_length (by rw [size_list, size_list]; omega))) hne
    refine ⟨y.size, Nat.zero_le _, by omega, ?_⟩
    have : x.extract 0 y.size = y := by
      rw [ba_eq, ext_take', ← size_list]; exact (List.prefix_iff_eq_take.1 hp).symm
    rw [this]; exact hy

theorem fold_unc (l : List ByteArray) : ∀ (s out : List ByteArray), SS out → SS (s.foldl (stepU l) out) ∧ ∀ y, y ∈ s.foldl (stepU l) out ↔ y ∈ out ∨ (y ∈ s ∧ ¬ Pre l y)
  | [], out, h => ⟨h, fun y => by simp⟩
  | x :: s, out, h => by
    rw [List.foldl_cons]
    by_cases hb : (decide (x ∈ out) || preB l x x.size 0) = true
    · have e : stepU l out x = out := by unfold stepU; rw [if_pos hb]
      rw [e]
      obtain ⟨h1, h2⟩ := fold_unc l s out h
      refine ⟨h1, fun y => ?_⟩
      rw [h2, List.mem_cons]
      constructor
      · rintro (h | ⟨h, h'⟩)
        · exact .inl h
        · exact .inr ⟨.inr h, h'⟩
      · rintro (h | ⟨rfl | h, h'⟩)
        · exact .inl h
        · rcases Bool.or_eq_true_iff.1 hb with hb | hb
          · exact .inl (of_decide_eq_true hb)
          · exact absurd ((pre_iff _ _).1 hb) h'
        · exact .inr ⟨h, h'⟩
    · have e : stepU l out x = insS x out := by unfold stepU; rw [if_neg hb]
      rw [e]
      simp only [Bool.or_eq_true, not_or, decide_eq_true_eq] at hb
      obtain ⟨h1, h2⟩ := fold_unc l s (insS x out) (insS_ss h hb.1)
      refine ⟨h1, fun y => ?_⟩
      rw [h2, List.mem_cons, mem_insS]
      constructor
      · rintro ((rfl | h) | ⟨h, h'⟩)
        · exact .inr ⟨.inl rfl, fun hp => hb.2 ((pre_iff _ _).2 hp)⟩
        · exact .inl h
        · exact .inr ⟨.inr h, h'⟩
      · rintro (h | ⟨rfl | h, h'⟩)
        · exact .inl (.inr h)
        · exact .inl (.inl rfl)
        · exact .inr ⟨h, h'⟩
theorem unc_ss (l : List ByteArray) : SS (unc l) := (fold_unc l l [] (by unfold SS Ext.bytes; simp)).1
theorem mem_unc {l : List ByteArray} {y : ByteArray} : y ∈ unc l ↔ y ∈ l ∧ ¬ Pre l y := by
  have := (fold_unc l l [] (by unfold SS Ext.bytes; simp)).2 y
  rw [unc, this]; simp

theorem unc_cover (l : List ByteArray) : ∀ (n : Nat) (x : ByteArray), x.size ≤ n → x ∈ l → Cv (Ext.bytes (unc l)) x.data.toList := by
  intro n
  induction n with
  | zero =>
    intro x hn hx
    refine .of (.mem (mem_bytes' (mem_unc.2 ⟨hx, ?_⟩)))
    rintro ⟨y, hy, hp, hne⟩
    have hle := hp.length_le
    rw [size_list, size_list] at hle
    exact hne (ba_eq.2 (hp.eq_of_length (by rw [size_list, size_list]; omega)))
  | succ n ih =>
    intro x hn hx
    by_cases hp : Pre l x
    · obtain ⟨y, hy, hp, hne⟩ := hp
      have hle := hp.length_le
      rw [size_list, size_list] at hle
      have hlt : y.size < x.size := by
        rcases Nat.lt_or_ge y.size x.size with h | h
        · exact h
        · exact absurd (ba_eq.2 (hp.eq_of_length (by rw [size_list, size_list]; omega))) hne
      exact (ih y (by omega) hy).up hp
    · exact .of (.mem (mem_bytes' (mem_unc.2 ⟨hx, hp⟩)))
theorem SS_nodup {l : List ByteArray} (h : SS l) : (Ext.bytes l).Nodup := h.imp fun h => h.2
theorem SS_sorted {l : List ByteArray} (h : SS l) : (Ext.bytes l).Pairwise (fun a b => leL a b = true) := h.imp fun h => h.1

/-! ### full -/
/-- All ten extensions of p are in the list. -/
def TenIn (l : List ByteArray) (p : Bytes) : Prop := ∀ d, d < 10 → p ++ [dg d] ∈ Ext.bytes l
theorem mem_bytes_iff {l : List ByteArray} {y : ByteArray} : y ∈ l ↔ y.data.toList ∈ Ext.bytes l := by
  constructor
  · exact mem_bytes'
  · intro h
    obtain ⟨z, hz, he⟩ := List.mem_map.1 h
    rw [← ba_eq.2 he]; exact hz
def FullOk (l : List ByteArray) (r : ByteArray × Bool) : Prop := (r.2 = true ∧ TenIn l r.1.data.toList) ∨ (r.2 = false ∧ ∀ x ∈ l, ∀ p c, x.data.toList = p ++ [c] → ¬ TenIn l p)

def tenDigits : ByteArray := ⟨#[48, 49, 50, 51, 52, 53, 54, 55, 56, 57]⟩
theorem ext_list (d : Nat) (h : d < 10) : (tenDigits.extract d (d + 1)).data.toList = [dg d] := by
  have : d = 0 ∨ d = 1 ∨ d = 2 ∨ d = 3 ∨ d = 4 ∨ d = 5 ∨ d = 6 ∨ d = 7 ∨ d = 8 ∨ d = 9 := by omega
  rcases this with rfl | rfl | rfl | rfl | rfl | rfl | rfl | rfl | rfl | rfl <;> first | rfl | decide

theorem full_l1 (l : List ByteArray) (i : Nat) (p : ByteArray) (hl : l.length ≤ 100) (hi : i < l.length) (hps : p.size ≤ 14) (need : Nat) (hneed : 110 ≤ need)
    (next : ¬ TenIn l p.data.toList → ∀ k, need ≤ k → ∃ r, crossbarref06_full.l0 k l ((i + 1 : Nat) : Int) = some r ∧ FullOk l r) :
    ∀ (e d c k : Nat), 10 - d = e → d ≤ 10 → c ≤ d → need + e + 1 ≤ k → (c = d ↔ ∀ j, j < d → p.data.toList ++ [dg j] ∈ Ext.bytes l) →
      ∃ r, crossbarref06_full.l1 k l (i : Int) p (c : Int) (d : Int) = some r ∧ FullOk l r := by
  intro e
  induction e with
  | zero =>
    intro d c k he hd hc hk hcd
    obtain ⟨k, rfl⟩ : ∃ q, k = q + 1 := ⟨k - 1, by omega⟩
    obtain rfl : d = 10 := by omega
    simp only [crossbarref06_full.l1]
    rw [if_neg (by decide)]
    by_cases h10 : c = 10
    · subst h10
      rw [if_pos (by decide)]
      exact ⟨_, rfl, .inl ⟨rfl, hcd.1 rfl⟩⟩
    · rw [if_neg (by omega), wsucc (by omega)]
      exact next (fun h => h10 (hcd.2 h)) k (by omega)
  | succ e ih =>
    intro d c k he hd hc hk hcd
    obtain ⟨k, rfl⟩ : ∃ q, k = q + 1 := ⟨k - 1, by omega⟩
    have hex : tenDigits.extract d (d + 1) = ⟨#[dg d]⟩ := by rw [ba_eq]; exact ext_list d (by omega)
    have hs1 : ((⟨#[dg d]⟩ : ByteArray)).size = 1 := rfl
    simp only [crossbarref06_full.l1]
    rw [if_pos (by omega), if_pos (by omega), wsucc (by omega), if_pos (by omega), if_pos (by omega)]
    simp only [Int.toNat_natCast]
    show ∃ r, (if p.size + (tenDigits.extract d (d + 1)).size ≤ _ then ((crossbarref06_has.f k l (p ++ tenDigits.extract d (d + 1))).bind _) else none) = some r ∧ _
    rw [hex, hs1, if_pos (by omega), has_eq l _ (by omega) (by omega)]
    simp only [Option.bind_some]
    have hdat : (p ++ (⟨#[dg d]⟩ : ByteArray)).data.toList = p.data.toList ++ [dg d] := app_list _ _
    by_cases hm : p ++ (⟨#[dg d]⟩ : ByteArray) ∈ l
    · rw [decide_eq_true hm, if_pos rfl, wsucc (by omega)]
      have hm' := mem_bytes' hm
      rw [hdat] at hm'
      refine ih (d + 1) (c + 1) k (by omega) (by omega) (by omega) (by omega) ⟨fun h j hj => ?_, fun h => ?_⟩
      · by_cases hjd : j = d
        · subst hjd; exact hm'
        · exact hcd.1 (by omega) j (by omega)
      · have := hcd.2 (fun j hj => h j (by omega)); omega
    · rw [decide_eq_false hm, if_neg (by decide)]
      refine ih (d + 1) c k (by omega) (by omega) (by omega) (by omega) ⟨fun h => by omega, fun h => absurd (h d (by omega)) (fun h' => hm (mem_bytes_iff.2 (by rw [hdat]; exact h')))⟩

theorem full_l0 (l : List ByteArray) (hl : l.length ≤ 100) (hsz : ∀ x ∈ l, x.size ≤ 14) : ∀ (d i k : Nat), l.length - i = d → i ≤ l.length → 20 * d + 200 ≤ k →
    (∀ j, j < i → ∀ h : j < l.length, ∀ p c, (l[j]'h).data.toList = p ++ [c] → ¬ TenIn l p) → ∃ r, crossbarref06_full.l0 k l (i : Int) = some r ∧ FullOk l r := by
  intro d
  induction d with
  | zero =>
    intro i k hd hi hk hno
    obtain ⟨k, rfl⟩ : ∃ q, k = q + 1 := ⟨k - 1, by omega⟩
    simp only [crossbarref06_full.l0]
    rw [if_neg (by omega)]
    refine ⟨_, rfl, .inr ⟨rfl, fun x hx => ?_⟩⟩
    obtain ⟨j, hj, rfl⟩ := List.mem_iff_getElem.1 hx
    exact hno j (by omega) hj
  | succ d ih =>
    intro i k hd hi hk hno
    obtain ⟨k, rfl⟩ : ∃ q, k = q + 1 := ⟨k - 1, by omega⟩
    have hi' : i < l.length := by omega
    have hs := hsz _ (List.getElem_mem hi')
    simp only [crossbarref06_full.l0]
    rw [if_pos (by omega), if_pos (by omega), rd_nat, getD_at hi', toList_eq]
    by_cases h0 : l[i].data.toList = []
    · rw [if_pos h0, wsucc (by omega)]
      refine ih (i + 1) k (by omega) (by omega) (by omega) fun j hj hjl p c hpc => ?_
      by_cases hji : j = i
      · subst hji; rw [h0] at hpc; simp at hpc
      · exact hno j (by omega) hjl p c hpc
    · have hpos : 0 < l[i].size := by rw [← size_list]; exact List.length_pos_iff.2 h0
      have hw : wrap64 ((l[i].size : Int) - 1) = ((l[i].size - 1 : Nat) : Int) := by unfold wrap64; omega
      rw [if_neg h0, hw, if_pos (by omega), if_pos (by omega), Int.toNat_natCast]
      have hdat : (l[i].extract 0 (l[i].size - 1)).data.toList = l[i].data.toList.take (l[i].size - 1) := ext_take' _ _
      refine full_l1 l i _ hl hi' (by rw [← size_list, hdat, List.length_take, size_list]; omega) (20 * d + 200) (by omega) (fun hn k hk => ?_) 10 0 0 k (by omega) (by omega) (by omega) (by omega) ⟨fun _ j hj => by omega, fun _ => rfl⟩
      refine ih (i + 1) k (by omega) (by omega) (by omega) fun j hj hjl p c hpc => ?_
      by_cases hji : j = i
      · subst hji
        have hlen : p.length + 1 = l[j].size := by rw [← size_list, hpc]; simp
        rw [hdat, hpc, show l[j].size - 1 = p.length by omega, List.take_left] at hn
        exact hn
      · exact hno j (by omega) hjl p c hpc

/-! ### Minimal -/
theorem full_any (l : List ByteArray) (hl : l.length ≤ 100) (hsz : ∀ x ∈ l, x.size ≤ 14) {k : Nat} (hk : 2300 ≤ k) : ∃ r, crossbarref06_full.f k l = some r ∧ FullOk l r :=
  full_l0 l hl hsz l.length 0 k rfl (Nat.zero_le _) (by omega) (fun j hj => by omega)

theorem ok_size {l : List ByteArray} (h : AllOk l) : ∀ x ∈ l, x.size ≤ 14 := fun x hx => by
  have := (onlyB_iff.1 (h x hx)).2.1; omega

/-- The reference's list, round by round. -/
structure Rnd (l L : List ByteArray) : Prop where
  ok : AllOk L
  ss : SS L
  anti : ∀ x ∈ L, ∀ y ∈ L, x.data.toList <+: y.data.toList → x = y
  tos : ∀ x ∈ L, Cv (Ext.bytes l) x.data.toList
  ofs : ∀ x ∈ l, Cv (Ext.bytes L) x.data.toList

theorem rnd_unc {l M : List ByteArray} (ok : AllOk M) (tos : ∀ x ∈ M, Cv (Ext.bytes l) x.data.toList) (ofs : ∀ x ∈ l, Cv (Ext.bytes M) x.data.toList) : Rnd l (unc M) where
  ok := fun p hp => ok p (mem_unc.1 hp).1
  ss := unc_ss M
  anti := fun x hx y hy hp => by
    apply Classical.byContradiction
    intro hne
    exact (mem_unc.1 hy).2 ⟨x, (mem_unc.1 hx).1, hp, hne⟩
  tos := fun x hx => tos x (mem_unc.1 hx).1
  ofs := fun x hx => Cv.all (fun b hb => by
    obtain ⟨y, hy, rfl⟩ := List.mem_map.1 hb
    exact unc_cover M _ y (Nat.le_refl _) hy) (ofs x hx)

theorem bytes_len (l : List ByteArray) : (Ext.bytes l).length = l.length := by simp [Ext.bytes]

/-- A round makes the list shorter. -/
theorem rnd_shorter {L : List ByteArray} {p : ByteArray} (ss : SS L) (ht : TenIn L p.data.toList) : (unc (p :: L)).length + 9 ≤ L.length := by
  have hd : ∀ x ∈ Ext.bytes (unc (p :: L)), x ∉ exts p.data.toList := by
    intro x hx he
    obtain ⟨y, hy, rfl⟩ := List.mem_map.1 hx
    obtain ⟨d, hd, e⟩ := mem_exts.1 he
    refine (mem_unc.1 hy).2 ⟨p, List.mem_cons_self, by rw [e]; exact List.prefix_append _ _, ?_⟩
    rintro rfl
    have := congrArg List.length e
    simp at this
  have hn : (Ext.bytes (unc (p :: L)) ++ exts p.data.toList).Nodup := by
    rw [List.nodup_append]
    exact ⟨SS_nodup (unc_ss _), exts_nodup _, fun a ha b hb e => hd a ha (e ▸ hb)⟩
  have hs : ∀ x ∈ Ext.bytes (unc (p :: L)) ++ exts p.data.toList, x ∈ p.data.toList :: Ext.bytes L := by
    intro x hx
    rcases List.mem_append.1 hx with hx | hx
    · obtain ⟨y, hy, rfl⟩ := List.mem_map.1 hx
      rcases List.mem_cons.1 (mem_unc.1 hy).1 with rfl | h
      · exact List.mem_cons_self
      · exact List.mem_cons_of_mem _ (mem_bytes' h)
    · obtain ⟨d, hd, rfl⟩ := mem_exts.1 hx
      exact List.mem_cons_of_mem _ (ht d hd)
  have := len_le _ _ hn hs
  rw [List.length_append, exts_length, bytes_len, List.length_cons, bytes_len] at this
  omega

theorem min_step (l : List ByteArray) (hok : AllOk l) (L : List ByteArray) (k : Nat) (hL : L.length ≤ 60) (hk : 20399 ≤ k) (h : Rnd l L)
    (next : ∀ L' k', L'.length < L.length → k ≤ k' → Rnd l L' → crossbarref06_Minimal.l1 k' L' = some ((minL (Ext.bytes l)).map mkB, 0)) :
    crossbarref06_Minimal.l1 (k + 1) L = some ((minL (Ext.bytes l)).map mkB, 0) := by
  obtain ⟨⟨p, b⟩, hf, hr⟩ := full_any L (by omega) (ok_size h.ok) (k := k) (by omega)
  simp only [crossbarref06_Minimal.l1, hf, Option.bind_some]
  rcases hr with ⟨hb, ht⟩ | ⟨hb, hno⟩
  · simp only at hb ht
    subst hb
    have hlt := rnd_shorter h.ss ht
    have hpo : onlyB p 0 14 = true := by
      rw [onlyB_iff]
      obtain ⟨y, hy, he⟩ := List.mem_map.1 (ht 0 (by omega))
      have hy14 := onlyB_iff.1 (h.ok y hy)
      have hlen := congrArg List.length he
      rw [size_list, List.length_append, size_list] at hlen
      simp at hlen
      exact ⟨by omega, by omega, fun c hc => hy14.2.2 c (by rw [he]; simp [hc])⟩
    have hmore : AllOk (p :: L) := fun x hx => by
      rcases List.mem_cons.1 hx with rfl | hx
      · exact hpo
      · exact h.ok x hx
    have hR : Rnd l (unc (p :: L)) := by
      refine rnd_unc hmore (fun x hx => ?_) (fun x hx => ?_)
      · rcases List.mem_cons.1 hx with rfl | hx
        · refine Cv.ten fun d hd => ?_
          obtain ⟨y, hy, he⟩ := List.mem_map.1 (ht d hd)
          rw [← he]; exact h.tos y hy
        · exact h.tos x hx
      · exact Cv.all (fun b hb => .of (.mem (by
          obtain ⟨y, hy, rfl⟩ := List.mem_map.1 hb
          exact mem_bytes' (List.mem_cons_of_mem _ hy)))) (h.ofs x hx)
    have hu := unc_eq (p :: L) (by rw [List.length_cons]; omega) (ok_size hmore) (k := k) (by omega)
    rw [if_pos rfl, if_pos (by simp only [List.length_singleton]; omega)]
    show (crossbarref06_uncovered.f k (p :: L)).bind _ = _
    rw [hu]
    simp only [Option.bind_some]
    exact next _ k (by omega) (Nat.le_refl _) hR
  · simp only at hb hno
    subst hb
    rw [if_neg (by decide)]
    have hfix : minL (Ext.bytes L) = Ext.bytes L := by
      refine fix_minL h.ok.len (SS_sorted h.ss) (SS_nodup h.ss) (fun x hx y hy hp => ?_) (fun p hp => ?_)
      · obtain ⟨a, ha, rfl⟩ := List.mem_map.1 hx
        obtain ⟨b, hb, rfl⟩ := List.mem_map.1 hy
        rw [h.anti a ha b hb hp]
      · obtain ⟨y, hy, he⟩ := List.mem_map.1 (hp 0 (by omega))
        exact hno y hy p _ he hp
    have hcon : minL (Ext.bytes L) = minL (Ext.bytes l) := minL_congr h.ok.len hok.len (fun b hb => by
      obtain ⟨y, hy, rfl⟩ := List.mem_map.1 hb
      exact h.tos y hy) (fun b hb => by
      obtain ⟨y, hy, rfl⟩ := List.mem_map.1 hb
      exact h.ofs y hy)
    rw [← hcon, hfix, mkB_bytes]

theorem min_l1 (l : List ByteArray) (hok : AllOk l) : ∀ (n k : Nat) (L : List ByteArray), L.length ≤ n → n ≤ 60 → n + 20400 ≤ k → Rnd l L → crossbarref06_Minimal.l1 k L = some ((minL (Ext.bytes l)).map mkB, 0) := by
  intro n
  induction n with
  | zero =>
    intro k L hL hn hk h
    obtain ⟨k, rfl⟩ : ∃ q, k = q + 1 := ⟨k - 1, by omega⟩
    exact min_step l hok L k (by omega) (by omega) h (fun L' k' hlt _ _ => by omega)
  | succ n ih =>
    intro k L hL hn hk h
    obtain ⟨k, rfl⟩ : ∃ q, k = q + 1 := ⟨k - 1, by omega⟩
    exact min_step l hok L k (by omega) (by omega) h (fun L' k' hlt hk' h' => ih k' L' (by omega) (by omega) (by omega) h')

theorem min_l0 (l : List ByteArray) (hl : l.length ≤ 60) : ∀ (d i k : Nat), l.length - i = d → i ≤ l.length → 30000 + d ≤ k → (∀ x ∈ l.take i, onlyB x 0 14 = true) → crossbarref06_Minimal.l0 k l (i : Int) = some (minimalB l) := by
  intro d
  induction d with
  | zero =>
    intro i k hd hi hk h
    obtain ⟨k, rfl⟩ : ∃ q, k = q + 1 := ⟨k - 1, by omega⟩
    have hok : AllOk l := fun x hx => h x (by rw [List.take_of_length_le (by omega)]; exact hx)
    simp only [crossbarref06_Minimal.l0]
    rw [if_neg (by omega), unc_eq l (by omega) (ok_size hok) (by omega)]
    simp only [Option.bind_some]
    have hle : (unc l).length ≤ l.length := by
      have := len_le (Ext.bytes (unc l)) (Ext.bytes l) (SS_nodup (unc_ss l)) (fun x hx => by
        obtain ⟨y, hy, rfl⟩ := List.mem_map.1 hx
        exact mem_bytes' (mem_unc.1 hy).1)
      rw [bytes_len, bytes_len] at this; exact this
    rw [min_l1 l hok 60 k _ (by omega) (by omega) (by omega) (rnd_unc hok (fun x hx => .of (.mem (mem_bytes' hx))) (fun x hx => .of (.mem (mem_bytes' hx)))), min_ok (by omega) hok]
  | succ d ih =>
    intro i k hd hi hk h
    obtain ⟨k, rfl⟩ : ∃ q, k = q + 1 := ⟨k - 1, by omega⟩
    have hi' : i < l.length := by omega
    simp only [crossbarref06_Minimal.l0]
    rw [if_pos (by omega), if_pos (by omega), rd_nat, getD_at hi', wsucc (by omega)]
    have ho : crossbarref06_Only.f l[i] 0 14 = some (onlyB l[i] 0 14) := by unfold crossbarref06_Only.f; rw [if_pos (by omega)]
    rw [ho]
    simp only [Option.bind_some]
    cases hb : onlyB l[i] 0 14 with
    | true =>
      rw [if_pos rfl]
      refine ih (i + 1) k (by omega) (by omega) (by omega) fun x hx => ?_
      rw [List.take_succ_eq_append_getElem hi', List.mem_append] at hx
      rcases hx with hx | hx
      · exact h x hx
      · rw [List.mem_singleton] at hx; subst hx; exact hb
    | false =>
      rw [if_neg (by decide)]
      rcases min_cases (l := l) (by omega) with ⟨ha, _⟩ | hm
      · rw [ha _ (List.getElem_mem hi')] at hb; cases hb
      · rw [hm]

theorem min_eq (l : List ByteArray) (hl : l.length ≤ 60) {k : Nat} (hk : 31000 ≤ k) : crossbarref06_Minimal.f k l = some (minimalB l) := by
  unfold crossbarref06_Minimal.f
  rw [if_neg (by omega)]
  exact min_l0 l hl l.length 0 k rfl (Nat.zero_le _) (by omega) (by simp)

/-! ### Common and Matches -/
theorem com_l0 (a b : ByteArray) (ha : a.size ≤ 200) (hb : b.size ≤ 200) : ∀ (d i k : Nat), a.size - i = d → SameTo a b i → d < k → crossbarref06_Common.l0 k a b (i : Int) = some ((com a.data.toList b.data.toList : Nat) : Int) := by
  intro d
  induction d with
  | zero =>
    intro i k hd hs hk
    obtain ⟨k, rfl⟩ : ∃ q, k = q + 1 := ⟨k - 1, by omega⟩
    simp only [crossbarref06_Common.l0]
    have h1 := hs.1
    rw [if_neg (by omega), com_end hs hs.1 hs.2.1 (.inl (by omega))]
  | succ d ih =>
    intro i k hd hs hk
    obtain ⟨k, rfl⟩ : ∃ q, k = q + 1 := ⟨k - 1, by omega⟩
    simp only [crossbarref06_Common.l0]
    rw [if_pos (by omega)]
    have h2 := hs.2.1
    by_cases hib : i < b.size
    · rw [if_pos (by omega), if_pos (by omega)]
      have hia : i < a.size := by omega
      have e1 : bt a (i : Int) = (a[i].toNat : Int) := by unfold bt; simp only [Int.toNat_natCast]; rw [dif_pos hia]
      have e2 : bt b (i : Int) = (b[i].toNat : Int) := by unfold bt; simp only [Int.toNat_natCast]; rw [dif_pos hib]
      rw [e1, e2]
      by_cases he : a[i] = b[i]
      · rw [if_pos (by rw [he]), wsucc (by omega)]
        exact ih (i + 1) k (by omega) (same_succ hs hia hib he) (by omega)
      · rw [if_neg (fun h => he (UInt8.toNat_inj.1 (by omega))), com_stop hs hia hib he]
    · rw [if_neg (by omega), com_end hs hs.1 hs.2.1 (.inr (by omega))]

theorem match_l0 (l : List ByteArray) (s : ByteArray) (hl : l.length ≤ 100) : ∀ (d i k : Nat), l.length - i = d → i ≤ l.length → d < k → crossbarref06_Matches.l0 k l s (i : Int) = some (matchesB (l.drop i) s) := by
  intro d
  induction d with
  | zero =>
    intro i k hd hi hk
    obtain ⟨k, rfl⟩ : ∃ q, k = q + 1 := ⟨k - 1, by omega⟩
    simp only [crossbarref06_Matches.l0]
    rw [if_neg (by omega), List.drop_of_length_le (by omega)]; rfl
  | succ d ih =>
    intro i k hd hi hk
    obtain ⟨k, rfl⟩ : ∃ q, k = q + 1 := ⟨k - 1, by omega⟩
    have hi' : i < l.length := by omega
    simp only [crossbarref06_Matches.l0]
    rw [if_pos (by omega), if_pos (by omega), rd_nat, getD_at hi', wsucc (by omega), List.drop_eq_getElem_cons hi']
    simp only [crossbarref06_Starts.f, Option.bind_some]
    have e : matchesB (l[i] :: l.drop (i + 1)) s = (hasP s l[i] || matchesB (l.drop (i + 1)) s) := rfl
    rw [e]
    cases hb : hasP s l[i] with
    | true => rw [if_pos rfl]; rfl
    | false => rw [if_neg (by decide), ih (i + 1) k (by omega) (by omega) (by omega)]; rfl

theorem DigitsPrefixesMatchSpecification (l0 : List ByteArray) (a1 a2 : ByteArray) (_hb : l0.length * 16 ≤ 140737488351232) (_w1 : a1.size ≤ 140737488351232) (_w2 : a2.size ≤ 140737488351232) : ∃ k, crossbarlaw06_DigitsPrefixesMatchSpecification.f k l0 a1 a2 = some true := by
  refine ⟨32000, ?_⟩
  unfold crossbarlaw06_DigitsPrefixesMatchSpecification.f
  obtain ⟨b, hf, hb⟩ := few_any l0 (k := 32000) (by omega)
  rw [sane_true 32000 (by omega), hf, short_any]
  simp only [Option.bind_some, if_true]
  split
  next h =>
    obtain ⟨hlen, _⟩ := hb h
    simp only [crossbarlaw06_DigitsPrefixesMatchSpecification.j0]
    split
    next => rfl
    next hsh =>
      have hsz : a1.size ≤ 200 ∧ a2.size ≤ 200 := by
        simp only [Bool.not_eq_true', Bool.not_eq_false, Bool.and_eq_true, decide_eq_true_eq] at hsh
        exact ⟨hsh.1, hsh.2.1⟩
      have C : digits_Common.f a1 a2 = some ((com a1.data.toList a2.data.toList : Nat) : Int) := by unfold digits_Common.f; rw [if_pos ⟨by omega, by omega⟩]
      have C2 : crossbarref06_Common.f 31999 a1 a2 = some ((com a1.data.toList a2.data.toList : Nat) : Int) := com_l0 a1 a2 hsz.1 hsz.2 a1.size 0 31999 rfl (same_zero _ _) (by omega)
      have M2 : crossbarref06_Matches.f 31999 l0 a1 = some (matchesB l0 a1) := match_l0 l0 a1 (by omega) l0.length 0 31999 rfl (Nat.zero_le _) (by omega)
      have hml : (minimalB l0).1.length ≤ 60 := by
        rcases min_cases (l := l0) (by omega) with ⟨ha, hm⟩ | hm
        · rw [hm]
          have := minL_len ha.len
          rw [bytes_len] at this
          show ((minL (Ext.bytes l0)).map mkB).length ≤ 60
          rw [List.length_map]; omega
        · rw [hm]; simp
      have S := strings_eq (minimalB l0).1 (minimalB l0).1 (by omega) 31999 (by omega)
      rw [decide_eq_true rfl] at S
      simp only [digits_Minimal.f, Option.bind_some, min_eq l0 hlen (k := 31999) (by omega), S, if_true, C, C2, digits_Matches.f, M2, beq_self_eq_true]
  next =>
    simp only [crossbarlaw06_DigitsPrefixesMatchSpecification.j0, if_true]
end Go.Proofs.Ytajddminbfiipaa.Pure
namespace Go.Proofs.Ytajddminbfiipaa.digitsPrefixesMatchSpecification
open Go.ChangeShapes Go.WideShapes Go.ChangeAt Go.RowKit
open Go.ChangeMaps (open_string shut_string)
set_option linter.unusedVariables false
set_option linter.unusedSimpArgs false
theorem own : ownKnob Try.prog.godebug = none := by kernel_rfl
theorem laidOut : laidOutB Try.prog = true := by kernel_rfl
theorem cells9 : Try.prog.cellsOf 9 = 1 := by kernel_rfl
theorem bytes9 : Try.prog.bytesOf 9 = 16 := by kernel_rfl
set_option maxRecDepth 100000 in
theorem lifted (os : Os) (started : os.Started) (H : Type) (enc : TypeId × Value → H) :
    ReturnsInHanded {} Try.checked os 4 .any (Rows.digitsPrefixesMatchSpecificationSpec.pre6 enc Try.prog Try.f4 Rows.digitsPrefixesMatchSpecificationRow.domain false) (Rows.digitsPrefixesMatchSpecificationSpec.post enc Try.prog Try.f4 false true false false) := by
  refine returnsInHanded_of_change_sized (C := Try.checked) own started (by kernel_rfl) Try.func4
    (ChangeSpec.witness6 (enc := enc) (C := Try.checked) false ⟨#[], #[.slice none 0 0, .string ByteArray.empty, .string ByteArray.empty], []⟩ 8 (by kernel_rfl) (by kernel_rfl) (by kernel_rfl) (by kernel_rfl)) ?_
  intro W base args ds gs before hval0 hW hcnd hsz0 _
  have hsz : (DataW.weightsEach Try.prog (Try.f4.params.toList ++ Rows.digitsPrefixesMatchSpecificationSpec.plain.varTypes Try.prog) (ds ++ gs)).all (· ≤ reachBytes) = true := hsz0
  have hval : ∀ (j : Nat) t v, Try.f4.params[j]? = some t → args[j]? = some v → Value.okWide Try.prog W .any base t v := hval0
  have hW' := hW
  obtain ⟨p, q, hA0, hV, rfl, hfz, hnd⟩ := hW
  have hA : DataW.TrodAll enc Try.prog W 0 (fun _ => true) true Try.f4.params.toList args.toList ds p := hA0
  rw [Try.params4] at hA hval hsz
  obtain ⟨v0, vs0, d0, ds0, p0, q0, hargs, rfl, rfl, h0, r0⟩ := trodAll_cons hA
  obtain ⟨v1, vs1, d1, ds1, p1, q1, rfl, rfl, rfl, h1, r1⟩ := trodAll_cons r0
  obtain ⟨v2, vs2, d2, ds2, p2, q2, rfl, rfl, rfl, h2, r2⟩ := trodAll_cons r1
  obtain ⟨rfl, rfl, rfl⟩ := trodAll_nil r2
  obtain rfl : args = #[v0, v1, v2] := by cases args; simp_all
  obtain ⟨rfl, rfl⟩ := trodVars_none hV
  obtain ⟨a1, rfl, rfl, rfl, y1⟩ := open_string Try.underlying9 (hval 1 9 v1 rfl rfl) h1
  have w1 : a1.size ≤ 140737488351232 := by
    have z := sized_string hsz (j := 1) (t := 9) rfl rfl
    rw [Array.length_toList] at z
    exact z
  obtain ⟨a2, rfl, rfl, rfl, y2⟩ := open_string Try.underlying9 (hval 2 9 v2 rfl rfl) h2
  have w2 : a2.size ≤ 140737488351232 := by
    have z := sized_string hsz (j := 2) (t := 9) rfl rfl
    rw [Array.length_toList] at z
    exact z
  have h0k := h0
  obtain ⟨fuel, hf⟩ := h0
  have hlt : ∀ x ∈ p0, x.block < W.heap.size := fun x hx => by
    refine hW'.lt x ?_
    simp [hx]
  obtain ⟨A0, len, cap, rfl⟩ := okWide_slice Try.underlying28 (hval 0 28 v0 rfl rfl)
  clear hA0 hval0
  -- the one end: the answer is true, the slice reads as it did
  have fin : ∀ (l : List ByteArray), Go.Proofs.YtajddminbfiipaaW.PrintWords.Kd.C Go.Proofs.YtajddminbfiipaaW.PrintWords.Kd.string W A0 l.length l → l.length = len → len ≤ cap → l.length * 16 ≤ 140737488351232 →
      Calls Try.prog 4 #[.slice A0 len cap, .string a1, .string a2] W fun e W' => ∃ v, e = Ending.returned v ∧ Rows.digitsPrefixesMatchSpecificationSpec.post enc Try.prog Try.f4 false true false false W #[.slice A0 len cap, .string a1, .string a2] v W' := by
    intro l hC hl hc hb
    obtain ⟨k, hk⟩ := Pure.DigitsPrefixesMatchSpecification l a1 a2 hb w1 w2
    subst hl
    refine (Q.crossbarlaw06_DigitsPrefixesMatchSpecification.calls k A0 cap l a1 a2 true W hC hc hk).mono fun e W' ⟨he, bel⟩ => ?_
    subst he
    exact ⟨_, rfl, _, _, _, [], _, [], hW', trodAll_mk1 (shut_bool Try.underlying4 _), (trodAll_cons_mk (Below.trod laidOut (by kernel_rfl) (of_decide_eq_true (by kernel_rfl)) h0k bel hlt) (trodAll_cons_mk (shut_string Try.underlying9 y1) (trodAll_cons_mk (shut_string Try.underlying9 y2) trodAll_mk0))), rfl, bel.frame _, fun h => by cases h⟩
  rcases open_strings Try.underlying28 Try.underlying9 cells9 hf with ⟨hcs, hx⟩ | ⟨a, len', cap', ss, hcs, _, hl, hm, hz, hx, hcell, hws⟩
  · simp [Value.cells] at hcs
    obtain ⟨rfl, rfl, rfl⟩ := hcs
    exact fin [] (Ext.strs_none W) rfl (Nat.le_refl _) (by simp)
  · simp [Value.cells] at hcs
    obtain ⟨rfl, rfl, rfl⟩ := hcs
    simp only [Prod.mk.injEq] at hx
    obtain ⟨rfl, rfl⟩ := hx
    simp only [if_true] at hz
    have hreach : len * 16 ≤ 140737488351232 := by
      have := sized_slice hsz (j := 0) (t := 28) (e := 9) rfl rfl Try.underlying28
      rw [bytes9] at this
      simp only [strs, List.length_map, List.length_take, List.length_drop, reachBytes] at this
      omega
    have hlen : (ss.take len).length = len := by rw [List.length_take]; omega
    exact fin (ss.take len) (Ext.strs_some (by omega) (by omega) hcell) hlen hl (by rw [hlen]; exact hreach)
theorem over : Rows.digitsPrefixesMatchSpecificationRow.holds Try.pinned (OpenSpec.ofChange Rows.digitsPrefixesMatchSpecificationSpec) :=
  OpenClaim.holds_of_wide 4 Try.f4 rfl rfl rfl rfl rfl rfl rfl ⟨rfl, rfl, rfl, rfl, rfl⟩ rfl rfl rfl rfl rfl (by kernel_rfl) Try.func4 (by kernel_rfl)
    (of_decide_eq_true (by kernel_rfl)) (by unfold Func.isWrapper; first | (rw [if_pos (by decide +kernel)]; kernel_rfl) | (rw [if_neg (by decide +kernel)]; exact ⟨rfl, rfl⟩))
    (fun os started H enc _ => lifted os started H enc)
theorem proved : Rows.DigitsPrefixesMatchSpecificationSaid := over
#print axioms proved
end Go.Proofs.Ytajddminbfiipaa.digitsPrefixesMatchSpecification
namespace Go.Proofs.Ytajddminbfiipaa
/-- The row, under a short name, for the claim. -/
theorem digitsPrefixesMatchSpecification_holds : Rows.DigitsPrefixesMatchSpecificationSaid := digitsPrefixesMatchSpecification.proved
end Go.Proofs.Ytajddminbfiipaa
