/- The plain list that digits.Minimal answers with, and the sort at its end. -/
import Derived.Test.YtajddminbfiipaaEMinF
import Derived.Sort.OwnSorted
namespace Go.Proofs.Ytajddminbfiipaa.Ext
set_option linter.unusedVariables false
set_option linter.unusedSimpArgs false
open Go.RowKit Go.Maps Go.WideMaps Go.Sort

def leL (x y : Bytes) : Bool := decide (x ≤ y)

theorem sort_calls (L : Nat) (v : Value) (acc : List Bytes) (W : World) (h : W.ownsRow (L + 16) 9 1 v acc.length (acc.map encStr)) (hl : acc.length ≤ 1000000) :
    Calls Try.prog 38 #[v] W fun e w' => e = .returned (.tuple #[]) ∧ w'.ownsRow (L + 16) 9 1 v acc.length ((acc.mergeSort leL).map encStr) ∧ W.grownBy w' v.ownBlock := by
  rcases h.2 with ⟨rfl, h0⟩ | ⟨g, cap, cur, rfl, hbase, hg, h1, h2, h3, h4⟩
  · have e0 : acc = [] := List.eq_nil_of_length_eq_zero h0
    subst e0
    refine (AnyM.slices_Sort_string_none Try.sort38 none 0 W).mono ?_
    rintro e w' ⟨rfl, rfl⟩
    exact ⟨rfl, by simpa using h, ⟨rfl, rfl, rfl, Nat.le_refl _, fun _ _ _ => rfl⟩⟩
  · refine (AnyM.slices_Sort_string Try.sort38 g 0 cap acc W (holds_of_block hg (by simpa using h4)) (Array.getElem?_eq_some_iff.1 hg).1 (by omega)).mono ?_
    rintro e w' ⟨rfl, n, os, rfl⟩
    exact ⟨rfl, ownsRow_sorted (by simp) hbase hg h1 h2 h3, grownBy_sorted _⟩

/-! ### the plain list -/
def nub : List Bytes → List Bytes
  | [] => []
  | x :: l => if x ∈ nub l then nub l else x :: nub l
theorem mem_nub {x : Bytes} : ∀ {l : List Bytes}, x ∈ nub l ↔ x ∈ l
  | [] => by simp [nub]
  | y :: l => by
    unfold nub
    split
    · rename_i h
      rw [mem_nub, List.mem_cons]
      exact ⟨.inr, fun h' => h'.elim (fun e => by subst e; exact mem_nub.1 h) id⟩
    · rw [List.mem_cons, List.mem_cons, mem_nub]
theorem nodup_nub : ∀ (l : List Bytes), (nub l).Nodup
  | [] => by simp [nub]
  | y :: l => by
    unfold nub
    split
    · exact nodup_nub l
    · rename_i h
      exact List.nodup_cons.2 ⟨h, nodup_nub l⟩

def ins (x : Bytes) : List Bytes → List Bytes
  | [] => [x]
  | y :: l => if leL x y then x :: y :: l else y :: ins x l
def isort : List Bytes → List Bytes
  | [] => []
  | x :: l => ins x (isort l)
theorem ins_perm (x : Bytes) : ∀ l, (ins x l).Perm (x :: l)
  | [] => List.Perm.refl _
  | y :: l => by
    unfold ins
    split
    · exact List.Perm.refl _
    · exact ((ins_perm x l).cons y).trans (List.Perm.swap x y l)
theorem isort_perm : ∀ l, (isort l).Perm l
  | [] => List.Perm.refl _
  | x :: l => (ins_perm x _).trans ((isort_perm l).cons x)
theorem leL_trans (a b c : Bytes) (h1 : leL a b = true) (h2 : leL b c = true) : leL a c = true := by
  simp only [leL, decide_eq_true_eq] at *; exact List.le_trans h1 h2
theorem leL_total (a b : Bytes) : leL a b = true ∨ leL b a = true := by
  simp only [leL, decide_eq_true_eq]; exact List.le_total a b
theorem leL_anti {a b : Bytes} (h1 : leL a b = true) (h2 : leL b a = true) : a = b := by
  simp only [leL, decide_eq_true_eq] at *; exact List.le_antisymm h1 h2
theorem ins_sorted (x : Bytes) : ∀ l, l.Pairwise (fun a b => leL a b = true) → (ins x l).Pairwise (fun a b => leL a b = true)
  | [], _ => by simp [ins]
  | y :: l, h => by
    obtain ⟨h1, h2⟩ := List.pairwise_cons.1 h
    unfold ins
    split
    · rename_i hx
      refine List.pairwise_cons.2 ⟨fun z hz => ?_, h⟩
      rcases List.mem_cons.1 hz with e | hz
      · rw [e]; exact hx
      · exact leL_trans _ _ _ hx (h1 z hz)
    · rename_i hx
      refine List.pairwise_cons.2 ⟨fun z hz => ?_, ins_sorted x l h2⟩
      rcases List.mem_cons.1 ((ins_perm x l).mem_iff.1 hz) with e | hz
      · rw [e]; exact (leL_total x y).resolve_left hx
      · exact h1 z hz
theorem isort_sorted : ∀ l, (isort l).Pairwise (fun a b => leL a b = true)
  | [] => by simp [isort]
  | x :: l => ins_sorted x _ (isort_sorted l)
theorem sort_eq {l l' : List Bytes} (h : l.Perm l') : l.mergeSort leL = isort l' := by
  refine List.Perm.eq_of_pairwise (le := fun a b => leL a b = true) (fun a b _ _ h1 h2 => leL_anti h1 h2) (List.pairwise_mergeSort leL_trans (fun a b => by simpa using leL_total a b) l) (isort_sorted l') ?_
  exact ((List.mergeSort_perm l leL).trans h).trans (isort_perm l').symm

/-- The levels, told from the shortest. -/
def TT (l : List Bytes) (j : Nat) : Bytes → Bool := Tt l (14 - j)
def inits (x : Bytes) : List Bytes := (List.range (x.length + 1)).map fun k => x.take k
theorem mem_inits {x y : Bytes} : x ∈ inits y ↔ x <+: y := by
  unfold inits
  rw [List.mem_map]
  constructor
  · rintro ⟨k, _, rfl⟩; exact List.take_prefix _ _
  · intro h
    exact ⟨x.length, by rw [List.mem_range]; have := h.length_le; omega, (List.prefix_iff_eq_take.1 h).symm⟩

/-- The smallest sorted set of prefixes that matches the same strings. -/
def minL (l : List Bytes) : List Bytes := isort ((nub (l.flatMap inits)).filter fun x => TT l x.length x && !cov (TT l) x.length x)

theorem Tt_prefix {l : List Bytes} : ∀ (k : Nat) (x : Bytes), Tt l k x = true → ∃ y ∈ l, x <+: y
  | 0, x, h => by
    simp only [Tt, S0, Bool.and_eq_true] at h
    exact ⟨x, by simpa using h.1, List.prefix_refl _⟩
  | k + 1, x, h => by
    simp only [Tt, Bool.or_eq_true] at h
    rcases h with h | h
    · simp only [S0, Bool.and_eq_true] at h
      exact ⟨x, by simpa using h.1, List.prefix_refl _⟩
    · rw [tenB_iff] at h
      obtain ⟨y, hy, hp⟩ := Tt_prefix k _ (h 0 (by omega))
      exact ⟨y, hy, (List.prefix_append _ _).trans hp⟩

theorem acc_min {l acc : List Bytes} (h14 : ∀ x ∈ l, x.length ≤ 14) (h : AccOK (TT l) 0 acc) : acc.mergeSort leL = minL l := by
  refine sort_eq ((List.perm_ext_iff_of_nodup h.nodup ((nodup_nub _).filter _)).2 fun x => ?_)
  rw [h.mem, List.mem_filter, mem_nub, List.mem_flatMap]
  constructor
  · rintro ⟨_, _, h3, h4⟩
    obtain ⟨y, hy, hp⟩ := Tt_prefix _ _ h3
    exact ⟨⟨y, hy, mem_inits.2 hp⟩, by simp [h3, h4]⟩
  · rintro ⟨⟨y, hy, hp⟩, h2⟩
    simp only [Bool.and_eq_true, Bool.not_eq_true'] at h2
    exact ⟨Nat.zero_le _, by have := (mem_inits.1 hp).length_le; have := h14 y hy; omega, h2.1, h2.2⟩
end Go.Proofs.Ytajddminbfiipaa.Ext
