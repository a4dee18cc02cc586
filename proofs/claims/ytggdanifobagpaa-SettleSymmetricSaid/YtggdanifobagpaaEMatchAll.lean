/- The pure form of Match, and its contract. -/
import Derived.Test.YtggdanifobagpaaECheck
import Derived.Test.YtggdanifobagpaaELoopM
import Derived.Laws.ResultCell
namespace Go.Proofs.Ytggdanifobagpaa.Ext
set_option linter.unusedVariables false
set_option linter.unusedSimpArgs false
open Go.RowKit Go.Lib Go.Proofs.Ytggdanifobagpaa.Q Go.Proofs.Ytggdanifobagpaa.QC Go.Proofs.YtggdanifobagpaaW.PrintWords Go.Proofs.YtggdanifobagpaaW.PrintLast Go.Proofs.YtggdanifobagpaaW.PrintMore

/-- A record that check accepts. -/
def okRec (r : S36) : Prop := 1 ≤ r.f0 ∧ r.f0 ≤ 1099511627776 ∧ 1 ≤ r.f1 ∧ r.f1 ≤ 3 ∧ 0 ≤ r.f4 ∧ r.f4 < r.f5 ∧ r.f5 ≤ 1099511627776 ∧ 0 ≤ r.f6 ∧ r.f6 ≤ 1000000 ∧ r.f7 = (r.f5 - r.f4) * r.f6
instance (r : S36) : Decidable (okRec r) := by unfold okRec; infer_instance
def allOk (l : List S36) : Bool := l.all fun r => decide (okRec r)

theorem prod_le {r : S36} (h1 : 0 ≤ r.f4) (h2 : r.f4 < r.f5) (h3 : r.f5 ≤ 1099511627776) (h4 : 0 ≤ r.f6) (h5 : r.f6 ≤ 1000000) : 0 ≤ (r.f5 - r.f4) * r.f6 ∧ (r.f5 - r.f4) * r.f6 ≤ 1099511627776000000 := by
  constructor
  · exact Int.mul_nonneg (by omega) h4
  · have := Int.mul_le_mul (show r.f5 - r.f4 ≤ 1099511627776 by omega) h5 h4 (by decide)
    omega
theorem wrap64_id (x : Int) (h1 : -9223372036854775808 ≤ x) (h2 : x ≤ 9223372036854775807) : wrap64 x = x := by
  unfold wrap64
  omega
theorem okRec.good {r : S36} (h : okRec r) : Good r := by
  obtain ⟨_, _, _, _, h4, h5, h6, h7, h8, h9⟩ := h
  have := prod_le h4 h5 h6 h7 h8
  unfold Good
  omega
theorem okRec.units {r : S36} (h : okRec r) : 0 ≤ r.f7 ∧ r.f7 ≤ 1099511627776000000 := by
  obtain ⟨_, _, _, _, h4, h5, h6, h7, h8, h9⟩ := h
  have := prod_le h4 h5 h6 h7 h8
  omega

theorem rdT_nat' {l : List S36} {i : Nat} (h : i < l.length) : rd_T36 l (i : Int) = l[i] := by simp [rd_T36, List.getD_eq_getElem?_getD, h]
theorem wrap_succ (i : Nat) (h : i < 9223372036854775806) : wrap64 ((i : Int) + 1) = ((i + 1 : Nat) : Int) := by rw [wrap64_id _ (by omega) (by omega)]; simp

theorem check_l0 (l : List S36) (hl : l.length ≤ 1000000) : ∀ (d i k : Nat), l.length - i = d → i ≤ l.length → d < k → settle_check.l0 k l (l.length : Int) (i : Int) = some (if allOk (l.drop i) = true then 0 else 1) := by
  intro d
  induction d with
  | zero =>
    intro i k hd hi hk
    obtain ⟨k, rfl⟩ : ∃ q, k = q + 1 := ⟨k - 1, by omega⟩
    simp only [settle_check.l0]
    rw [if_neg (by omega), List.drop_of_length_le (by omega)]; simp [allOk]
  | succ d ih =>
    intro i k hd hi hk
    obtain ⟨k, rfl⟩ : ∃ q, k = q + 1 := ⟨k - 1, by omega⟩
    have hi' : i < l.length := by omega
    simp only [settle_check.l0]
    rw [if_pos (by omega), if_pos (by omega), if_pos (by omega), rdT_nat' hi', wrap_succ i (by omega), ih (i + 1) k (by omega) (by omega) (by omega), List.drop_eq_getElem_cons hi']
    generalize l[i] = r
    have hall : allOk (r :: l.drop (i + 1)) = (decide (okRec r) && allOk (l.drop (i + 1))) := rfl
    rw [hall]
    generalize allOk (l.drop (i + 1)) = rest
    by_cases hr : okRec r
    · have hr' := hr
      obtain ⟨h0, h1, h2, h3, h4, h5, h6, h7, h8, h9⟩ := hr
      have hp := prod_le h4 h5 h6 h7 h8
      have e1 : wrap64 (r.f5 - r.f4) = r.f5 - r.f4 := wrap64_id _ (by omega) (by omega)
      have e2 : wrap64 ((r.f5 - r.f4) * r.f6) = (r.f5 - r.f4) * r.f6 := wrap64_id _ (by omega) (by omega)
      rw [if_pos h0, if_pos h1, if_pos h2, if_pos h4, if_pos h5, if_pos h3, if_pos h6, if_neg (by omega), if_neg (by omega), e1, e2, if_pos h9]
      simp [hr']
    · have e : (decide (okRec r) && rest) = false := by simp [hr]
      rw [e]
      simp only [Bool.false_eq_true, if_false]
      by_cases h0 : r.f0 ≥ 1
      · rw [if_pos h0]
        by_cases h1 : r.f0 ≤ 1099511627776
        · rw [if_pos h1]
          by_cases h2 : r.f1 ≥ 1
          · rw [if_pos h2]
            by_cases h4 : r.f4 ≥ 0
            · rw [if_pos h4]
              by_cases h5 : r.f4 < r.f5
              · rw [if_pos h5]
                by_cases h3 : r.f1 ≤ 3
                · rw [if_pos h3]
                  by_cases h6 : r.f5 ≤ 1099511627776
                  · rw [if_pos h6]
                    by_cases h7 : r.f6 < 0
                    · rw [if_pos h7]
                    · rw [if_neg h7]
                      by_cases h8 : r.f6 > 1000000
                      · rw [if_pos h8]
                      · rw [if_neg h8]
                        have hp := prod_le h4 h5 h6 (by omega) (by omega)
                        have e1 : wrap64 (r.f5 - r.f4) = r.f5 - r.f4 := wrap64_id _ (by omega) (by omega)
                        have e2 : wrap64 ((r.f5 - r.f4) * r.f6) = (r.f5 - r.f4) * r.f6 := wrap64_id _ (by omega) (by omega)
                        rw [e1, e2, if_neg (fun h9 => hr ⟨h0, h1, h2, h3, h4, h5, h6, by omega, by omega, h9⟩)]
                  · rw [if_neg h6]
                · rw [if_neg h3]
              · rw [if_neg h5]; split <;> rfl
            · rw [if_neg h4]; split <;> rfl
          · rw [if_neg h2]; split <;> first | rfl | (split <;> rfl)
        · rw [if_neg h1]; split <;> first | rfl | (split <;> rfl)
      · rw [if_neg h0]; split <;> first | rfl | (split <;> rfl)

theorem check_eq (l : List S36) (hl : l.length ≤ 1000000) {k : Nat} (hk : l.length < k) : settle_check.f k l = some (if allOk l = true then 0 else 1) := by
  unfold settle_check.f
  have := check_l0 l hl l.length 0 k rfl (Nat.zero_le _) hk
  simpa using this

def limE (l : List S36) : Int := if unitsOf l > 1152921504606846976 then 2 else if l.length > 1024 then 2 else 0
theorem limit_l0 (l : List S36) (hl : l.length ≤ 1000000) (hok : ∀ r ∈ l, okRec r) : ∀ (d i k : Nat) (rest : Int), l.length - i = d → i ≤ l.length → d < k → 0 ≤ rest → rest ≤ 1152921504606846976 →
    settle_limit.l0 k l rest l (l.length : Int) (i : Int) = some (if unitsOf (l.drop i) > rest then 2 else if l.length > 1024 then 2 else 0) := by
  intro d
  induction d with
  | zero =>
    intro i k rest hd hi hk h0 h1
    obtain ⟨k, rfl⟩ : ∃ q, k = q + 1 := ⟨k - 1, by omega⟩
    simp only [settle_limit.l0]
    rw [if_neg (by omega), List.drop_of_length_le (by omega)]
    have e : unitsOf ([] : List S36) = 0 := rfl
    have hr : ¬ ((0 : Int) > rest) := by omega
    rw [e]
    by_cases h : l.length > 1024
    · have h' : (l.length : Int) > 1024 := by omega
      simp only [if_pos h, if_pos h', if_neg hr]
    · have h' : ¬ (l.length : Int) > 1024 := by omega
      simp only [if_neg h, if_neg h', if_neg hr]
  | succ d ih =>
    intro i k rest hd hi hk h0 h1
    obtain ⟨k, rfl⟩ : ∃ q, k = q + 1 := ⟨k - 1, by omega⟩
    have hi' : i < l.length := by omega
    simp only [settle_limit.l0]
    have hu := (hok l[i] (List.getElem_mem hi')).units
    rw [if_pos (by omega), if_pos (by omega), if_pos (by omega), rdT_nat' hi', wrap_succ i (by omega), List.drop_eq_getElem_cons hi']
    have eu : unitsOf (l[i] :: l.drop (i + 1)) = l[i].f7 + unitsOf (l.drop (i + 1)) := by unfold unitsOf; rw [List.map_cons, List.sum_cons]
    have hn := units_nonneg (l.drop (i + 1)) (fun r hr => (hok r (List.mem_of_mem_drop hr)).good)
    have ew : wrap64 (rest - l[i].f7) = rest - l[i].f7 := wrap64_id _ (by omega) (by omega)
    rw [ew, eu]
    by_cases hlt : rest - l[i].f7 < 0
    · rw [if_pos hlt, if_pos (by omega)]
    · rw [if_neg hlt, ih (i + 1) k _ (by omega) (by omega) (by omega) (by omega) (by omega)]
      have e : (unitsOf (l.drop (i + 1)) > rest - l[i].f7) = (l[i].f7 + unitsOf (l.drop (i + 1)) > rest) := propext (by omega)
      simp only [e]
theorem limit_eq (l : List S36) (hl : l.length ≤ 1000000) (hok : ∀ r ∈ l, okRec r) {k : Nat} (hk : l.length < k) : settle_limit.f k l = some (limE l) := by
  unfold settle_limit.f limE
  have := limit_l0 l hl hok l.length 0 k 1152921504606846976 rfl (Nat.zero_le _) hk (by decide) (by decide)
  simpa using this
end Go.Proofs.Ytggdanifobagpaa.Ext
namespace Go.Proofs.Ytggdanifobagpaa.Ext
set_option linter.unusedVariables false
set_option linter.unusedSimpArgs false
open Go.RowKit Go.Lib Go.Maps Go.Proofs.Ytggdanifobagpaa.Q Go.Proofs.YtggdanifobagpaaW.PrintWords

theorem addL_eq (φ : Int → Int) (c : Bool) (l : List S36) : ∀ (L : LegsL) (k : Key) (c' : Bool), addL φ c L l k c' = if c' = c then L k c ++ l.filter (fun r => decide (r.f1 ≠ 1 ∧ (r.f0, φ r.f1) = k)) else L k c' := by
  induction l with
  | nil => intro L k c'; by_cases h : c' = c <;> simp [addL, h]
  | cons r l ih =>
    intro L k c'
    show addL φ c (if r.f1 = 1 then L else putL L (r.f0, φ r.f1) c r) l k c' = _
    by_cases h1 : r.f1 = 1
    · rw [if_pos h1, ih]
      by_cases h : c' = c
      · simp [h, h1]
      · simp [h]
    · rw [if_neg h1, ih]
      by_cases h : c' = c
      · subst h
        by_cases hk : (r.f0, φ r.f1) = k
        · subst hk; simp [putL, h1]
        · have hk' : k ≠ (r.f0, φ r.f1) := fun e => hk e.symm
          simp [putL, h1, hk, hk']
      · simp [h, putL]

/-- The legs of the records a and b. -/
def LL (a b : List S36) : LegsL := addL exch true (addL id false (fun _ _ => []) a) b
theorem LL_false (a b : List S36) (k : Key) : LL a b k false = a.filter (fun r => decide (r.f1 ≠ 1 ∧ (r.f0, r.f1) = k)) := by
  unfold LL
  rw [addL_eq, if_neg (by simp), addL_eq, if_pos rfl]
  simp
theorem LL_true (a b : List S36) (k : Key) : LL a b k true = b.filter (fun r => decide (r.f1 ≠ 1 ∧ (r.f0, exch r.f1) = k)) := by
  unfold LL; rw [addL_eq, addL_eq]; simp

theorem units_filter_le (l : List S36) (p : S36 → Bool) (h : ∀ r ∈ l, Good r) : unitsOf (l.filter p) ≤ unitsOf l := by
  induction l with
  | nil => simp [unitsOf]
  | cons r l ih =>
    have h1 := ih (fun x hx => h x (by simp [hx]))
    have h2 := (h r (by simp)).1
    by_cases hp : p r = true
    · rw [List.filter_cons_of_pos hp]; simp only [unitsOf, List.map_cons, List.sum_cons] at *; omega
    · rw [List.filter_cons_of_neg hp]; simp only [unitsOf, List.map_cons, List.sum_cons] at *; omega

theorem allOk_mem {l : List S36} (h : allOk l = true) : ∀ r ∈ l, okRec r := fun r hr => by
  have := List.all_eq_true.1 h r hr
  simpa using this

theorem LL_ok {a b : List S36} (ha : allOk a = true) (hb : allOk b = true) (ua : unitsOf a ≤ 1152921504606846976) (ub : unitsOf b ≤ 1152921504606846976) (la : a.length ≤ 1024) (lb : b.length ≤ 1024) : LegsOk (LL a b) := by
  have ga : ∀ r ∈ a, Good r := fun r hr => (allOk_mem ha r hr).good
  have gb : ∀ r ∈ b, Good r := fun r hr => (allOk_mem hb r hr).good
  intro q c
  cases c
  · rw [LL_false]
    refine ⟨fun r hr => ga r (List.mem_filter.1 hr).1, Int.le_trans (units_filter_le _ _ ga) ua, ?_⟩
    have := List.length_filter_le (fun r : S36 => decide (r.f1 ≠ 1 ∧ (r.f0, r.f1) = q)) a
    omega
  · rw [LL_true]
    refine ⟨fun r hr => gb r (List.mem_filter.1 hr).1, Int.le_trans (units_filter_le _ _ gb) ub, ?_⟩
    have := List.length_filter_le (fun r : S36 => decide (r.f1 ≠ 1 ∧ (r.f0, exch r.f1) = q)) b
    omega

theorem wf_of {n : Int} (h1 : -9223372036854775808 ≤ n) (h2 : n ≤ 9223372036854775807) : (Lit.int .i64 n).wf = true := WalkArith.wf_i64 ⟨h1, h2⟩
theorem exch_range {x : Int} (h1 : 1 ≤ x) (h2 : x ≤ 3) : 1 ≤ exch x ∧ exch x ≤ 3 := by unfold exch; split <;> (try split) <;> omega
theorem okRec.wf1 {r : S36} (h : okRec r) : KeyWf (r.f0, r.f1) := by
  obtain ⟨h0, h1, h2, h3, _⟩ := h
  exact ⟨wf_of (by show _ ≤ r.f0; omega) (by show r.f0 ≤ _; omega), wf_of (by show _ ≤ r.f1; omega) (by show r.f1 ≤ _; omega)⟩
theorem okRec.wf2 {r : S36} (h : okRec r) : KeyWf (r.f0, exch r.f1) := by
  obtain ⟨h0, h1, h2, h3, _⟩ := h
  have := exch_range h2 h3
  exact ⟨wf_of (by show _ ≤ r.f0; omega) (by show r.f0 ≤ _; omega), wf_of (by show _ ≤ exch r.f1; omega) (by show exch r.f1 ≤ _; omega)⟩

/-! ### the keys, in order -/
def insK (k : Key) : List Key → List Key
  | [] => [k]
  | x :: r => if ltKey k x = true then k :: x :: r else if ltKey x k = true then x :: insK k r else x :: r
def keysL (a b : List S36) : List Key := ((a.filter (fun r => decide (r.f1 ≠ 1))).map (fun r => (r.f0, r.f1)) ++ (b.filter (fun r => decide (r.f1 ≠ 1))).map (fun r => (r.f0, exch r.f1))).foldr insK []
theorem ltKey_iff (x y : Key) : ltKey x y = true ↔ (x.1 < y.1 ∨ (x.1 = y.1 ∧ x.2 < y.2)) := by simp [ltKey]
theorem ltKey_trans {x y z : Key} (h1 : ltKey x y = true) (h2 : ltKey y z = true) : ltKey x z = true := by rw [ltKey_iff] at *; omega
theorem ltKey_tri (x y : Key) : ltKey x y = true ∨ ltKey y x = true ∨ x = y := by
  rw [ltKey_iff, ltKey_iff]
  by_cases h1 : x.1 = y.1
  · by_cases h2 : x.2 = y.2
    · exact .inr (.inr (Prod.ext h1 h2))
    · omega
  · omega
theorem mem_insK (k x : Key) : ∀ l, x ∈ insK k l ↔ x = k ∨ x ∈ l
  | [] => by simp [insK]
  | y :: r => by
    unfold insK
    split
    · simp
    · split
      · rw [List.mem_cons, mem_insK k x r, List.mem_cons]
        constructor
        · rintro (h | h | h) <;> simp [h]
        · rintro (h | h | h) <;> simp [h]
      · rename_i h1 h2
        have : k = y := by
          rcases ltKey_tri k y with h | h | h
          · exact absurd h h1
          · exact absurd h h2
          · exact h
        subst this
        simp
theorem sorted_insK (k : Key) : ∀ l, l.Pairwise (fun a b => ltKey a b = true) → (insK k l).Pairwise (fun a b => ltKey a b = true)
  | [], _ => by simp [insK]
  | y :: r, h => by
    obtain ⟨h1, h2⟩ := List.pairwise_cons.1 h
    unfold insK
    split
    · rename_i hk
      refine List.pairwise_cons.2 ⟨fun z hz => ?_, h⟩
      rcases List.mem_cons.1 hz with rfl | hz
      · exact hk
      · exact ltKey_trans hk (h1 z hz)
    · split
      · rename_i _ hk
        refine List.pairwise_cons.2 ⟨fun z hz => ?_, sorted_insK k r h2⟩
        rcases (mem_insK k z r).1 hz with rfl | hz
        · exact hk
        · exact h1 z hz
      · exact h
theorem keys_sorted (l : List Key) : (l.foldr insK []).Pairwise (fun a b => ltKey a b = true) := by
  induction l with
  | nil => simp
  | cons k l ih => exact sorted_insK k _ ih
theorem keys_mem (l : List Key) (x : Key) : x ∈ l.foldr insK [] ↔ x ∈ l := by
  induction l with
  | nil => simp
  | cons k l ih => rw [List.foldr_cons, mem_insK, ih, List.mem_cons]
theorem keysL_sorted (a b : List S36) : (keysL a b).Pairwise (fun a b => ltKey a b = true) := keys_sorted _
theorem keysL_mem (a b : List S36) (k : Key) : k ∈ keysL a b ↔ (LL a b k false ≠ [] ∨ LL a b k true ≠ []) := by
  have e : ∀ (l : List S36) (p : S36 → Bool), l.filter p ≠ [] ↔ ∃ r ∈ l, p r = true := fun l p => by
    constructor
    · intro h
      obtain ⟨x, hx⟩ := List.exists_mem_of_ne_nil _ h
      exact ⟨x, (List.mem_filter.1 hx).1, (List.mem_filter.1 hx).2⟩
    · rintro ⟨r, h1, h2⟩ e
      have : r ∈ l.filter p := List.mem_filter.2 ⟨h1, h2⟩
      rw [e] at this
      cases this
  unfold keysL
  rw [keys_mem, LL_false, LL_true, e, e, List.mem_append, List.mem_map, List.mem_map]
  simp only [List.mem_filter, decide_eq_true_eq]
  constructor
  · rintro (⟨r, ⟨h1, h2⟩, h3⟩ | ⟨r, ⟨h1, h2⟩, h3⟩)
    · exact .inl ⟨r, h1, h2, h3⟩
    · exact .inr ⟨r, h1, h2, h3⟩
  · rintro (⟨r, h1, h2, h3⟩ | ⟨r, h1, h2, h3⟩)
    · exact .inl ⟨r, ⟨h1, h2⟩, h3⟩
    · exact .inr ⟨r, ⟨h1, h2⟩, h3⟩
theorem keysL_wf {a b : List S36} (ha : allOk a = true) (hb : allOk b = true) : ∀ k ∈ keysL a b, KeyWf k := by
  intro k hk
  unfold keysL at hk
  rw [keys_mem, List.mem_append, List.mem_map, List.mem_map] at hk
  rcases hk with ⟨r, h1, rfl⟩ | ⟨r, h1, rfl⟩
  · exact (allOk_mem ha r (List.mem_filter.1 h1).1).wf1
  · exact (allOk_mem hb r (List.mem_filter.1 h1).1).wf2
theorem keysL_len (a b : List S36) : (keysL a b).length ≤ a.length + b.length := by
  have hl : ∀ l : List Key, (l.foldr insK []).length ≤ l.length := by
    have h1 : ∀ (k : Key) (l : List Key), (insK k l).length ≤ l.length + 1 := by
      intro k l
      induction l with
      | nil => simp [insK]
      | cons x r ih => unfold insK; split <;> (try split) <;> simp <;> omega
    intro l
    induction l with
    | nil => simp
    | cons k l ih => rw [List.foldr_cons]; have := h1 k (l.foldr insK []); simp; omega
  unfold keysL
  refine Nat.le_trans (hl _) ?_
  rw [List.length_append, List.length_map, List.length_map]
  have := List.length_filter_le (fun r : S36 => decide (r.f1 ≠ 1)) a
  have := List.length_filter_le (fun r : S36 => decide (r.f1 ≠ 1)) b
  omega
theorem strict_unique {l m : List Key} (hl : l.Pairwise (fun a b => ltKey a b = true)) (hm : m.Pairwise (fun a b => ltKey a b = true)) (h : ∀ k, k ∈ l ↔ k ∈ m) : l = m := by
  have irr : ∀ x : Key, ltKey x x = true → False := fun x h => by rw [ltKey_iff] at h; omega
  have nl : l.Nodup := by unfold List.Nodup; exact hl.imp (fun {a b} h (e : a = b) => irr a (by subst e; exact h))
  have nm : m.Nodup := by unfold List.Nodup; exact hm.imp (fun {a b} h (e : a = b) => irr a (by subst e; exact h))
  refine List.Perm.eq_of_pairwise (le := fun a b => ltKey a b = true) (fun a b _ _ h1 h2 => ?_) hl hm ((List.perm_ext_iff_of_nodup nl nm).2 h)
  exact (irr a (ltKey_trans h1 h2)).elim

theorem wrap_eq64 (x : Int) : IntKind.i64.wrap x = wrap64 x := by
  simp [IntKind.wrap, IntKind.bits, IntKind.signed, wrap64]
  try omega
/-- What settle.Match answers: units, calls, mismatches, error. -/
def matchL (a b : List S36) (tol : Int) : Int × List Int × List S38 × Int :=
  if tol < 0 ∨ 1099511627776 < tol ∨ allOk a = false ∨ allOk b = false then (0, [], [], 1)
  else if limE a ≠ 0 ∨ limE b ≠ 0 then (0, [], [], 2)
  else (wrap64 (setL tol (LL a b) (keysL a b)).u, (setL tol (LL a b) (keysL a b)).calls, (setL tol (LL a b) (keysL a b)).mis, 0)
end Go.Proofs.Ytggdanifobagpaa.Ext
namespace Go.Proofs.Ytggdanifobagpaa.Ext
set_option linter.unusedVariables false
set_option linter.unusedSimpArgs false
open Go.RowKit Go.Lib Go.Maps Go.Proofs.Ytggdanifobagpaa.Q Go.Proofs.Ytggdanifobagpaa.QC Go.Proofs.YtggdanifobagpaaW.PrintWords

theorem info28s : (Try.prog.info? 28).map (·.size) = some 3 := by kernel_rfl
theorem results_cell2 {P : Program} {fn : Func} {p u : Tmp} {ty : TypeId} (h : fn.results = #[.cell p ty, .tmp u]) (tmps : Array Value) (w : World) (g : Nat) (t : TypeId) (cs : Array Value) (fr : Nat × Nat) (d : TypeDesc)
    (hp : tmps.getD p undef = .pointer (some ⟨g, 0, none⟩)) (hg : w.heap[g]? = some (.cells cs t fr))
    (hu : P.underlying ty = some d) (hd : (match d with | .struct _ | .array _ _ => true | _ => false) = true) (hi : (P.info? ty).map (·.size) = some cs.size) :
    (results fn tmps).run P w = .ok (.tuple #[.agg cs, tmps.getD u undef]) w := by
  rw [results_cell_tmp h, hp]
  simp [asAddr, run_loadVar_row w g t ty cs fr d hg hu hd hi, Result.andThen]

theorem ownsMap_size {W : World} {b n : Nat} {D : DataW Value} (h : W.ownsMap Try.prog 59 rawElem b n D) : Maps.size D ≤ n := by
  obtain ⟨es, clock, hb, F, hs, rfl⟩ := h
  simpa [Maps.size, length_sorted] using hs
theorem row_low {W : World} {base base' e size n : Nat} {v : Value} {xs : List Value} (h : W.ownsRow base e size v n xs) (hb : base' ≤ base) : W.ownsRow base' e size v n xs := by
  refine ⟨h.1, h.2.imp id ?_⟩
  rintro ⟨g, cap, cur, k1, k2, k3⟩
  exact ⟨g, cap, cur, k1, Nat.le_trans hb k2, k3⟩
def Z28 : Array Value := #[.int .i64 0, .slice none 0 0, .slice none 0 0]
/-- What Match asks of its result's own variable: nothing stands there yet. -/
structure Zero28 (R : Nat) (W : World) : Prop where
  blk : W.heap[R]? = some (.cells #[.int .i64 0, .slice none 0 0, .slice none 0 0] 28 (0, 0))
theorem Zero28.kept {R : Nat} {W W' : World} (h : Zero28 R W) (hb : Below W.heap.size W W') : Zero28 R W' := ⟨(hb.block R (Array.getElem?_eq_some_iff.1 h.blk).1).trans h.blk⟩

theorem R_ints {w : World} {base : Nat} {v : Value} {xs : List Int} (h : w.ownsRow base 3 1 v xs.length (xs.map encI64)) : Kd.R (Kd.int .i64) 3 w base (fun _ => True) v xs :=
  Kd.R_of_own h (fun _ _ => trivial)
theorem drop_take_flat38 (l : List S38) : ∀ (j : Nat) (p : S38), l[j]? = some p → ((l.flatMap cells38).drop (j * 4)).take 4 = cells38 p := by
  induction l with
  | nil => intro j p h; simp at h
  | cons r l ih =>
    intro j p h
    cases j with
    | zero => simp at h; subst h; simp [cells38]
    | succ j =>
      have h' : l[j]? = some p := by simpa using h
      rw [List.flatMap_cons, show (j + 1) * 4 = 4 + j * 4 by omega, ← List.drop_drop]
      have e : (cells38 r ++ l.flatMap cells38).drop 4 = l.flatMap cells38 := by simp [cells38]
      rw [e]
      exact ih j p h'
theorem R_mis {w : World} {base : Nat} {ok : Nat → Prop} {v : Value} {xs : List S38} (h : w.ownsRow base 38 4 v xs.length (xs.flatMap cells38)) (hok : ∀ k, v.ownBlock = some k → ok k) : Kd.R k38 38 w base ok v xs :=
  ⟨hok, xs.flatMap cells38, h, flat_length (enc := cells38) (k := 4) (fun _ => rfl) xs, fun j p hj => by
    show k38.M w base _ p (((xs.flatMap cells38).drop (j * 4)).take 4)
    rw [drop_take_flat38 xs j p hj]
    exact k38_mkM w base _ p⟩

-- MATCHOK
set_option maxRecDepth 100000 in
set_option maxHeartbeats 8000000 in
theorem match_ok (A0 : Option Addr) (c0 : Nat) (l0 : List S36) (A1 : Option Addr) (c1 : Nat) (l1 : List S36) (tol : Int) (w : World) (hr0 : Kd.C k36 w A0 l0.length l0) (hc0 : l0.length ≤ c0) (hr1 : Kd.C k36 w A1 l1.length l1) (hc1 : l1.length ≤ c1) (hl0 : l0.length ≤ 1000000) (hl1 : l1.length ≤ 1000000)
    (ht0 : ¬ tol < 0) (ht1 : ¬ 1099511627776 < tol) (ha : allOk l0 = true) (hb : allOk l1 = true) (WR : World) (hWR : w.alloc (.cells #[.int .i64 0, .slice none 0 0, .slice none 0 0] 28) = WR) (hsR : WR.heap.size = w.heap.size + 1) (hBR : Below w.heap.size w WR) (hZR : Zero28 w.heap.size WR)
    (hch0 : ∀ W', Below w.heap.size w W' → Calls Try.prog 26 #[.slice A0 l0.length c0] W' fun e w' => e = .returned (.int .i64 0) ∧ Below W'.heap.size W' w')
    (hch1 : ∀ W', Below w.heap.size w W' → Calls Try.prog 26 #[.slice A1 l1.length c1] W' fun e w' => e = .returned (.int .i64 0) ∧ Below W'.heap.size W' w') :
    Calls Try.prog 12 #[.slice A0 l0.length c0, .slice A1 l1.length c1, .int .i64 tol] w fun e w' => ∃ v0_ v1_ : Value, e = .returned (.tuple #[.agg #[.int .i64 (matchL l0 l1 tol).1, v0_, v1_], .int .i64 (matchL l0 l1 tol).2.2.2]) ∧ Kd.R (Kd.int .i64) 3 w' w.heap.size (fun _ => True) v0_ (matchL l0 l1 tol).2.1 ∧ Kd.R k38 38 w' w.heap.size (fun k => some k ≠ v0_.ownBlock) v1_ (matchL l0 l1 tol).2.2.1 ∧ Below w.heap.size w w' := by
  have n0 : decide (tol < 0) = false := decide_eq_false ht0
  have n1 : decide (1099511627776 < tol) = false := decide_eq_false ht1
  have hli0 : ∀ W', Below w.heap.size w W' → Calls Try.prog 27 #[.slice A0 l0.length c0] W' fun e w' => e = .returned (.int .i64 (limE l0)) ∧ Below W'.heap.size W' w' := fun W' h =>
    settle_limit.calls (l0.length + 1) A0 c0 l0 _ W' (Kd.C_below hr0 h) hc0 (limit_eq l0 hl0 (allOk_mem ha) (by omega))
  have hli1 : ∀ W', Below w.heap.size w W' → Calls Try.prog 27 #[.slice A1 l1.length c1] W' fun e w' => e = .returned (.int .i64 (limE l1)) ∧ Below W'.heap.size W' w' := fun W' h =>
    settle_limit.calls (l1.length + 1) A1 c1 l1 _ W' (Kd.C_below hr1 h) hc1 (limit_eq l1 hl1 (allOk_mem hb) (by omega))
  by_cases hlim : limE l0 ≠ 0 ∨ limE l1 ≠ 0
  · have e : matchL l0 l1 tol = (0, [], [], 2) := by unfold matchL; rw [if_neg (by simp [ht0, ht1, ha, hb]), if_pos hlim]
    rw [e]
    have hmax : max (limE l0) (limE l1) = 2 := by
      have h1 : limE l0 = 0 ∨ limE l0 = 2 := by unfold limE; split <;> (try split) <;> simp
      have h2 : limE l1 = 0 ∨ limE l1 = 2 := by unfold limE; split <;> (try split) <;> simp
      rcases h1 with h1 | h1 <;> rcases h2 with h2 | h2 <;> first | (rw [h1, h2]; rfl) | (exfalso; rcases hlim with h | h <;> simp_all)
    have hcall := hch0 WR hBR
    go_enter Try.func12, Try.ntmps12
    go_wp2_with fail
    refine hcall.mono ?_
    rintro e W1 ⟨rfl, hb1⟩
    have hB1 := hBR.trans (hb1.mono hBR.size)
    have hZ1 := hZR.kept hb1
    have hcall1 := hch1 W1 hB1
    clear hcall hb1
    go_wp2_with fail
    refine hcall1.mono ?_
    rintro e W2 ⟨rfl, hb2⟩
    have hB2 := hB1.trans (hb2.mono hB1.size)
    have hZ2 := hZ1.kept hb2
    have hcall2 := hli0 W2 hB2
    clear hcall1 hb2 hZ1 hB1
    go_wp2_with fail
    refine hcall2.mono ?_
    rintro e W3 ⟨rfl, hb3⟩
    have hB3 := hB2.trans (hb3.mono hB2.size)
    have hZ3 := hZ2.kept hb3
    have hcall3 := hli1 W3 hB3
    clear hcall2 hb3 hZ2 hB2
    go_wp2_with fail
    refine hcall3.mono ?_
    rintro e W4 ⟨rfl, hb4⟩
    have hB4 := hB3.trans (hb4.mono hB3.size)
    have hZ4 := hZ3.kept hb4
    clear hcall3 hb4 hZ3 hB3 hch0 hch1 hli0 hli1
    generalize limE l0 = e0 at *
    generalize limE l1 = e1 at *
    have hblk := (hZ4).blk
    have z0 := setCell_self hblk 0 (.int .i64 0) rfl
    have z1 := setCell_self hblk 1 (.slice none 0 0) rfl
    have z2 := setCell_self hblk 2 (.slice none 0 0) rfl
    have g0 := cell_of_blk hblk 0 _ rfl
    have g1 := cell_of_blk hblk 1 _ rfl
    have g2 := cell_of_blk hblk 2 _ rfl
    have fz := frozen_blk hblk
    have HB := Lib.hid (hB4)
    have HK := Lib.hid hblk
    clear hblk
    clear hr0 hr1 hBR hZR hB4 hZ4 hlim
    go_wp2
    try simp only [Exit.inBlock, Exit.then]
    refine bodyPost_ret (results_cell2 rfl _ _ w.heap.size 28 _ (0, 0) _ rfl HK.out Try.underlying28 rfl (by rw [info28s]; rfl)) rfl ?_
    exact ⟨_, _, rfl, Kd.R_nil _ _ _ _ _, Kd.R_nil _ _ _ _ _, HB.out⟩
  · have h0 : limE l0 = 0 := by by_cases h : limE l0 = 0; exact h; exact absurd (.inl h) hlim
    have h1 : limE l1 = 0 := by by_cases h : limE l1 = 0; exact h; exact absurd (.inr h) hlim
    have e : matchL l0 l1 tol = (wrap64 (setL tol (LL l0 l1) (keysL l0 l1)).u, (setL tol (LL l0 l1) (keysL l0 l1)).calls, (setL tol (LL l0 l1) (keysL l0 l1)).mis, 0) := by
      unfold matchL; rw [if_neg (by simp [ht0, ht1, ha, hb]), if_neg hlim]
    rw [e]
    have hsz : ∀ l : List S36, limE l = 0 → unitsOf l ≤ 1152921504606846976 ∧ l.length ≤ 1024 := fun l h => by
      unfold limE at h
      split at h
      · cases h
      · split at h
        · cases h
        · exact ⟨by omega, by omega⟩
    obtain ⟨u0, s0⟩ := hsz l0 h0
    obtain ⟨u1, s1⟩ := hsz l1 h1
    rw [h0] at hli0
    rw [h1] at hli1
    have hcall := hch0 WR hBR
    go_enter Try.func12, Try.ntmps12
    go_wp2_with fail
    refine hcall.mono ?_
    rintro e W1 ⟨rfl, hb1⟩
    have hB1 := hBR.trans (hb1.mono hBR.size)
    have hZ1 := hZR.kept hb1
    have hcall1 := hch1 W1 hB1
    clear hcall hb1
    go_wp2_with fail
    refine hcall1.mono ?_
    rintro e W2 ⟨rfl, hb2⟩
    have hB2 := hB1.trans (hb2.mono hB1.size)
    have hZ2 := hZ1.kept hb2
    have hcall2 := hli0 W2 hB2
    clear hcall1 hb2 hZ1 hB1
    go_wp2_with fail
    refine hcall2.mono ?_
    rintro e W3 ⟨rfl, hb3⟩
    have hB3 := hB2.trans (hb3.mono hB2.size)
    have hZ3 := hZ2.kept hb3
    have hcall3 := hli1 W3 hB3
    clear hcall2 hb3 hZ2 hB2
    go_wp2_with fail
    refine hcall3.mono ?_
    rintro e W4 ⟨rfl, hb4⟩
    have hB4 := hB3.trans (hb4.mono hB3.size)
    have hZ4 := hZ3.kept hb4
    clear hcall3 hb4 hZ3 hB3 hch0 hch1 hli0 hli1
    have hmm := @run_makeMap Try.prog
    have HR0 := Lib.hid hr0
    have HR1 := Lib.hid hr1
    have HB4 := Lib.hid hB4
    have HZ4 := Lib.hid hZ4
    clear hr0 hr1 hBR hZR hB4 hZ4 hlim e hsz
    go_wp2_with fail
    -- the legs of both carriers
    have hB45 : Below W4.heap.size W4 (W4.alloc (.map #[] 0)) := (Below.refl _ _).alloc (Nat.le_refl _) _
    have hL5 : Legs (W4.alloc (.map #[] 0)) W4.heap.size W4.heap.size 0 (fun _ _ => []) := ⟨_, _, LegsV.made W4 W4.heap.size (Nat.le_refl _)⟩
    have hadd0 := add_false 29 id closure29 (enters_of Try.func29 (by kernel_rfl) rfl) A0 c0 l0 W4 (W4.alloc (.map #[] 0)) W4.heap.size 0 (fun _ _ => []) (Kd.C_below HR0.out HB4.out) hB45 hL5 s0 (by decide) (fun r hr => (allOk_mem ha r hr).wf1) (by simp)
    refine hadd0.mono ?_
    rintro e W6 ⟨rfl, hL6, hB6⟩
    have hadd1 := add_true 30 exch closure30 (enters_of Try.func30 (by kernel_rfl) rfl) A1 c1 l1 W4 W6 W4.heap.size (0 + l0.length) _ (Kd.C_below HR1.out HB4.out) hB6 hL6 s1 (by omega) (fun r hr => (allOk_mem hb r hr).wf2) (fun k => by rw [addL_eq, if_neg (by simp)]; simp)
    clear hadd0 hL6 hB6 hB45 hL5 hmm
    go_wp2_with fail
    refine hadd1.mono ?_
    rintro e W7 ⟨rfl, ⟨D, V, hV7⟩, hB7⟩
    clear hadd1
    have hV7' : LegsV W7 W4.heap.size W4.heap.size (0 + l0.length + l1.length) (LL l0 l1) D V := hV7
    have hmk := callsIn_wide.1 (maps_Keys_in 0 (some W4.heap.size) W7)
    go_wp2_with fail
    refine hmk.mono ?_
    rintro e W8' ⟨rfl, rfl⟩
    have hsk := sorted_keys W4.heap.size _ D hV7'.keys W7 hV7'.own (Nat.le_trans (ownsMap_size hV7'.own) (by omega))
    clear hmk
    go_wp2_with fail
    refine hsk.mono ?_
    rintro e W8 ⟨v8, ts, rfl, ⟨kn, kw, km⟩, hsort, hrow8, hB8⟩
    clear hsk
    have hts : ts = keysL l0 l1 := strict_unique hsort (keysL_sorted l0 l1) (fun k => by
      rw [keysL_mem]
      constructor
      · intro hk
        have := (km k (kw k hk)).1 hk
        exact (hV7'.mem k (kw k hk)).1 this
      · intro hk
        have hkw := keysL_wf ha hb k ((keysL_mem l0 l1 k).2 hk)
        exact (km k hkw).2 ((hV7'.mem k hkw).2 hk))
    subst hts
    have hV8 := hV7'.kept hB8
    have hrow8' : W8.ownsRow W4.heap.size 59 2 v8 (keysL l0 l1).length ((keysL l0 l1).flatMap cellsKey) := by
      refine ⟨hrow8.1, hrow8.2.imp id ?_⟩
      rintro ⟨g, cap, cur, k1, k2, k3⟩
      exact ⟨g, cap, cur, k1, Nat.le_trans hB7.size k2, k3⟩
    have hkl := keysL_len l0 l1
    have hS0 : SetAt W8 ⟨0, [], []⟩ (W8.alloc (.cells #[.int .i64 0, .slice none 0 0, .slice none 0 0] 28)) :=
      ⟨⟨_, _, heap_alloc_new W8 _, ⟨rfl, .inl ⟨rfl, rfl⟩⟩, ⟨rfl, .inl ⟨rfl, rfl⟩⟩⟩, (Below.refl _ _).alloc (Nat.le_refl _) _⟩
    have hB48 : Below W4.heap.size W4 W8 := hB7.trans (hB8.mono hB7.size)
    have hZ8 := HZ4.out.kept hB48
    have hBw8 := HB4.out.trans (hB48.mono HB4.out.size)
    obtain ⟨A8, c8, rfl⟩ := row_slice hrow8
    have HV := Lib.hid hV8
    have HR8 := Lib.hid hrow8'
    have HS0 := Lib.hid hS0
    have HZ8 := Lib.hid hZ8
    have HB8 := Lib.hid hBw8
    clear hV7 hV7' hB7 kn kw km hsort hrow8 hB8 hV8 hrow8' hS0 hB48 hZ8 hBw8 HB4 HZ4 HR0 HR1
    go_wp2
    refine loopM tol (LL l0 l1) (LL_ok ha hb u0 u1 s0 s1) D V W4.heap.size W4.heap.size _ (keysL l0 l1) A8 c8 W8 _ HV.out HR8.out (keysL_wf ha hb) (by omega) HS0.out _ ?_
    rintro u13 u14 u15 u16 u17 u57 u58 u59 u60 u61 u62 u63 u64 u65 u66 u67 u68 u69 u70 u71 u72 u73 u74 u75 u76 u77 u78 u79 u80 u81 u82 u83 u84 u85 u86 u87 u88 u89 u90 u91 u92 u93 u94 u95 u96 u97 u98 u99 u100 u101 u102 u103 u104 u105 u106 u107 u108 u109 u110 u111 W9 ⟨⟨vc, vm, hblk, hvc, hvm⟩, hlow⟩
    dsimp only
    have hZ9 := (HZ8.out.kept hlow).blk
    have hB9 := HB8.out.trans (hlow.mono HB8.out.size)
    obtain ⟨pc, cc, rfl⟩ := row_slice hvc
    obtain ⟨pm, cm, rfl⟩ := row_slice hvm
    have t0 := cell_of_blk hblk 0 _ rfl
    have t1 := cell_of_blk hblk 1 _ rfl
    have t2 := cell_of_blk hblk 2 _ rfl
    have g0 := cell_of_blk hZ9 0 _ rfl
    have g1 := cell_of_blk hZ9 1 _ rfl
    have g2 := cell_of_blk hZ9 2 _ rfl
    have fz := frozen_blk hZ9
    have f0 := heap_setCell_blk (heap_setCell_blk (heap_setCell_blk hZ9 0 (.int .i64 (IntKind.i64.wrap (setL tol (LL l0 l1) (keysL l0 l1)).u))) 1 (.slice pc (setL tol (LL l0 l1) (keysL l0 l1)).calls.length cc)) 2 (.slice pm (setL tol (LL l0 l1) (keysL l0 l1)).mis.length cm)
    have e0 := heap_setCell_blk hZ9 0 (.int .i64 (IntKind.i64.wrap (setL tol (LL l0 l1) (keysL l0 l1)).u))
    have e1 := heap_setCell_blk e0 1 (.slice pc (setL tol (LL l0 l1) (keysL l0 l1)).calls.length cc)
    have rc := row_set (i := 2) (x := .slice pm (setL tol (LL l0 l1) (keysL l0 l1)).mis.length cm) e1 (row_set (i := 1) (x := .slice pc (setL tol (LL l0 l1) (keysL l0 l1)).calls.length cc) e0 (row_set (i := 0) (x := .int .i64 (IntKind.i64.wrap (setL tol (LL l0 l1) (keysL l0 l1)).u)) hZ9 hvc (by decide)) (by decide)) (by decide)
    have rm := row_set (i := 2) (x := .slice pm (setL tol (LL l0 l1) (keysL l0 l1)).mis.length cm) e1 (row_set (i := 1) (x := .slice pc (setL tol (LL l0 l1) (keysL l0 l1)).calls.length cc) e0 (row_set (i := 0) (x := .int .i64 (IntKind.i64.wrap (setL tol (LL l0 l1) (keysL l0 l1)).u)) hZ9 hvm (by decide)) (by decide)) (by decide)
    have hBf := ((hB9.setCell (p := ⟨w.heap.size, 0, none⟩) (Nat.le_refl _) (.int .i64 (IntKind.i64.wrap (setL tol (LL l0 l1) (keysL l0 l1)).u))).setCell (p := ⟨w.heap.size, 1, none⟩) (Nat.le_refl _) (.slice pc (setL tol (LL l0 l1) (keysL l0 l1)).calls.length cc)).setCell (p := ⟨w.heap.size, 2, none⟩) (Nat.le_refl _) (.slice pm (setL tol (LL l0 l1) (keysL l0 l1)).mis.length cm)
    have hne : ∀ k, (Value.slice pm (setL tol (LL l0 l1) (keysL l0 l1)).mis.length cm).ownBlock = some k → some k ≠ (Value.slice pc (setL tol (LL l0 l1) (keysL l0 l1)).calls.length cc).ownBlock := fun k h1 h2 => by
      obtain ⟨x, hx⟩ := own_typed hvm k h1
      obtain ⟨y, hy⟩ := own_typed hvc k h2.symm
      rw [hx] at hy
      exact absurd (Obj.cells.inj (Option.some.inj hy)).2.1 (by decide)
    have F0 := Lib.hid f0
    have RC := Lib.hid (row_low rc HB8.out.size)
    have RM := Lib.hid (row_low rm HB8.out.size)
    have BF := Lib.hid hBf
    have NE := Lib.hid hne
    clear hblk hvc hvm hlow hZ9 hB9 f0 e0 e1 rc rm hBf hne HV HR8 HS0 HZ8 HB8
    generalize hUW : IntKind.i64.wrap (setL tol (LL l0 l1) (keysL l0 l1)).u = UW at *
    have HUW := Lib.hid hUW
    clear hUW
    go_wp2
    try simp only [Exit.inBlock, Exit.then]
    refine bodyPost_ret (results_cell2 rfl _ _ w.heap.size 28 _ (0, 0) _ rfl F0.out Try.underlying28 rfl (by rw [info28s]; rfl)) rfl ?_
    exact ⟨_, _, by rw [← wrap_eq64, HUW.out]; rfl, R_ints RC.out, R_mis RM.out NE.out, BF.out⟩

set_option maxRecDepth 100000 in
set_option maxHeartbeats 8000000 in
theorem match_any (A0 : Option Addr) (c0 : Nat) (l0 : List S36) (A1 : Option Addr) (c1 : Nat) (l1 : List S36) (tol : Int) (w : World) (hr0 : Kd.C k36 w A0 l0.length l0) (hc0 : l0.length ≤ c0) (hr1 : Kd.C k36 w A1 l1.length l1) (hc1 : l1.length ≤ c1) (hl0 : l0.length ≤ 1000000) (hl1 : l1.length ≤ 1000000) :
    Calls Try.prog 12 #[.slice A0 l0.length c0, .slice A1 l1.length c1, .int .i64 tol] w fun e w' => ∃ v0_ v1_ : Value, e = .returned (.tuple #[.agg #[.int .i64 (matchL l0 l1 tol).1, v0_, v1_], .int .i64 (matchL l0 l1 tol).2.2.2]) ∧ Kd.R (Kd.int .i64) 3 w' w.heap.size (fun _ => True) v0_ (matchL l0 l1 tol).2.1 ∧ Kd.R k38 38 w' w.heap.size (fun k => some k ≠ v0_.ownBlock) v1_ (matchL l0 l1 tol).2.2.1 ∧ Below w.heap.size w w' := by
  obtain ⟨WR, hWR⟩ : ∃ WR, w.alloc (.cells #[.int .i64 0, .slice none 0 0, .slice none 0 0] 28) = WR := ⟨_, rfl⟩
  have hsR : WR.heap.size = w.heap.size + 1 := by rw [← hWR]; simp
  have hBR : Below w.heap.size w WR := by rw [← hWR]; exact (Below.refl _ _).alloc (Nat.le_refl _) _
  have hZR : Zero28 w.heap.size WR := ⟨by rw [← hWR]; exact heap_alloc_new w _⟩
  have hch0 : ∀ W', Below w.heap.size w W' → Calls Try.prog 26 #[.slice A0 l0.length c0] W' fun e w' => e = .returned (.int .i64 (if allOk l0 = true then 0 else 1)) ∧ Below W'.heap.size W' w' := fun W' hb =>
    settle_check.calls (l0.length + 1) A0 c0 l0 _ W' (Kd.C_below hr0 hb) hc0 (check_eq l0 hl0 (by omega))
  have hch1 : ∀ W', Below w.heap.size w W' → Calls Try.prog 26 #[.slice A1 l1.length c1] W' fun e w' => e = .returned (.int .i64 (if allOk l1 = true then 0 else 1)) ∧ Below W'.heap.size W' w' := fun W' hb =>
    settle_check.calls (l1.length + 1) A1 c1 l1 _ W' (Kd.C_below hr1 hb) hc1 (check_eq l1 hl1 (by omega))
  by_cases ht0 : tol < 0
  · have e : matchL l0 l1 tol = (0, [], [], 1) := by unfold matchL; rw [if_pos (.inl ht0)]
    rw [e]
    have n0 : decide (tol < 0) = true := decide_eq_true ht0
    have hblk := (hZR).blk
    have z0 := setCell_self hblk 0 (.int .i64 0) rfl
    have z1 := setCell_self hblk 1 (.slice none 0 0) rfl
    have z2 := setCell_self hblk 2 (.slice none 0 0) rfl
    have g0 := cell_of_blk hblk 0 _ rfl
    have g1 := cell_of_blk hblk 1 _ rfl
    have g2 := cell_of_blk hblk 2 _ rfl
    have fz := frozen_blk hblk
    have HB := Lib.hid (hBR)
    have HK := Lib.hid hblk
    clear hblk
    clear hch0 hch1 hr0 hr1 hBR hZR
    go_enter Try.func12, Try.ntmps12
    go_wp2
    try simp only [Exit.inBlock, Exit.then]
    refine bodyPost_ret (results_cell2 rfl _ _ w.heap.size 28 _ (0, 0) _ rfl HK.out Try.underlying28 rfl (by rw [info28s]; rfl)) rfl ?_
    exact ⟨_, _, rfl, Kd.R_nil _ _ _ _ _, Kd.R_nil _ _ _ _ _, HB.out⟩
  have n0 : decide (tol < 0) = false := decide_eq_false ht0
  by_cases ht1 : 1099511627776 < tol
  · have e : matchL l0 l1 tol = (0, [], [], 1) := by unfold matchL; rw [if_pos (.inr (.inl ht1))]
    rw [e]
    have n1 : decide (1099511627776 < tol) = true := decide_eq_true ht1
    have hblk := (hZR).blk
    have z0 := setCell_self hblk 0 (.int .i64 0) rfl
    have z1 := setCell_self hblk 1 (.slice none 0 0) rfl
    have z2 := setCell_self hblk 2 (.slice none 0 0) rfl
    have g0 := cell_of_blk hblk 0 _ rfl
    have g1 := cell_of_blk hblk 1 _ rfl
    have g2 := cell_of_blk hblk 2 _ rfl
    have fz := frozen_blk hblk
    have HB := Lib.hid (hBR)
    have HK := Lib.hid hblk
    clear hblk
    clear hch0 hch1 hr0 hr1 hBR hZR
    go_enter Try.func12, Try.ntmps12
    go_wp2
    try simp only [Exit.inBlock, Exit.then]
    refine bodyPost_ret (results_cell2 rfl _ _ w.heap.size 28 _ (0, 0) _ rfl HK.out Try.underlying28 rfl (by rw [info28s]; rfl)) rfl ?_
    exact ⟨_, _, rfl, Kd.R_nil _ _ _ _ _, Kd.R_nil _ _ _ _ _, HB.out⟩
  have n1 : decide (1099511627776 < tol) = false := decide_eq_false ht1
  by_cases ha : allOk l0 = true
  · rw [if_pos ha] at hch0
    by_cases hb : allOk l1 = true
    · rw [if_pos hb] at hch1
      exact match_ok A0 c0 l0 A1 c1 l1 tol w hr0 hc0 hr1 hc1 hl0 hl1 ht0 ht1 ha hb WR hWR hsR hBR hZR hch0 hch1
    · have e : matchL l0 l1 tol = (0, [], [], 1) := by unfold matchL; rw [if_pos (.inr (.inr (.inr (by simpa using hb))))]
      rw [e]
      rw [if_neg hb] at hch1
      have hcall := hch0 WR hBR
      go_enter Try.func12, Try.ntmps12
      go_wp2_with fail
      refine hcall.mono ?_
      rintro e W1 ⟨rfl, hb1⟩
      have hcall1 := hch1 W1 (hBR.trans (hb1.mono hBR.size))
      go_wp2_with fail
      refine hcall1.mono ?_
      rintro e W2 ⟨rfl, hb2⟩
      have hB2 := (hBR.trans (hb1.mono hBR.size)).trans (hb2.mono (Nat.le_trans hBR.size hb1.size))
      have hblk := ((hZR.kept hb1).kept hb2).blk
      have z0 := setCell_self hblk 0 (.int .i64 0) rfl
      have z1 := setCell_self hblk 1 (.slice none 0 0) rfl
      have z2 := setCell_self hblk 2 (.slice none 0 0) rfl
      have g0 := cell_of_blk hblk 0 _ rfl
      have g1 := cell_of_blk hblk 1 _ rfl
      have g2 := cell_of_blk hblk 2 _ rfl
      have fz := frozen_blk hblk
      have HB := Lib.hid (hB2)
      have HK := Lib.hid hblk
      clear hblk
      clear hch0 hch1 hr0 hr1 hBR hZR hcall hcall1 hb1 hb2 hB2
      go_wp2
      try simp only [Exit.inBlock, Exit.then]
      refine bodyPost_ret (results_cell2 rfl _ _ w.heap.size 28 _ (0, 0) _ rfl HK.out Try.underlying28 rfl (by rw [info28s]; rfl)) rfl ?_
      exact ⟨_, _, rfl, Kd.R_nil _ _ _ _ _, Kd.R_nil _ _ _ _ _, HB.out⟩
  · have e : matchL l0 l1 tol = (0, [], [], 1) := by unfold matchL; rw [if_pos (.inr (.inr (.inl (by simpa using ha))))]
    rw [e]
    rw [if_neg ha] at hch0
    have hcall := hch0 WR hBR
    go_enter Try.func12, Try.ntmps12
    go_wp2_with fail
    refine hcall.mono ?_
    rintro e W1 ⟨rfl, hb1⟩
    have hB1 := hBR.trans (hb1.mono hBR.size)
    have hblk := (hZR.kept hb1).blk
    have z0 := setCell_self hblk 0 (.int .i64 0) rfl
    have z1 := setCell_self hblk 1 (.slice none 0 0) rfl
    have z2 := setCell_self hblk 2 (.slice none 0 0) rfl
    have g0 := cell_of_blk hblk 0 _ rfl
    have g1 := cell_of_blk hblk 1 _ rfl
    have g2 := cell_of_blk hblk 2 _ rfl
    have fz := frozen_blk hblk
    have HB := Lib.hid (hB1)
    have HK := Lib.hid hblk
    clear hblk
    clear hch0 hch1 hr0 hr1 hBR hZR hcall hb1 hB1
    go_wp2
    try simp only [Exit.inBlock, Exit.then]
    refine bodyPost_ret (results_cell2 rfl _ _ w.heap.size 28 _ (0, 0) _ rfl HK.out Try.underlying28 rfl (by rw [info28s]; rfl)) rfl ?_
    exact ⟨_, _, rfl, Kd.R_nil _ _ _ _ _, Kd.R_nil _ _ _ _ _, HB.out⟩

def settle_Match.f (l0 l1 : List S36) (a2 : Int) : Option (Int × List Int × List S38 × Int) := if l0.length ≤ 1000000 ∧ l1.length ≤ 1000000 then some (matchL l0 l1 a2) else none
theorem settle_Match.calls (A0 : Option Addr) (c0 : Nat) (l0 : List S36) (A1 : Option Addr) (c1 : Nat) (l1 : List S36) (a2 : Int) (r1 : Int) (r2 : List Int) (r3 : List S38) (r4 : Int) (w : World) (hr0 : Kd.C k36 w A0 l0.length l0) (hc0 : l0.length ≤ c0) (hr1 : Kd.C k36 w A1 l1.length l1) (hc1 : l1.length ≤ c1) (h : settle_Match.f l0 l1 a2 = some (r1, r2, r3, r4)) :
    Calls Try.prog 12 #[.slice A0 l0.length c0, .slice A1 l1.length c1, .int .i64 a2] w fun e w' => ∃ v0_ v1_ : Value, e = .returned (.tuple #[.agg #[.int .i64 r1, v0_, v1_], .int .i64 r4]) ∧ Kd.R (Kd.int .i64) 3 w' w.heap.size (fun _ => True) v0_ r2 ∧ Kd.R k38 38 w' w.heap.size (fun k => some k ≠ v0_.ownBlock) v1_ r3 ∧ Below w.heap.size w w' := by
  unfold settle_Match.f at h
  split at h
  · rename_i hl
    have e := Option.some.inj h
    have := match_any A0 c0 l0 A1 c1 l1 a2 w hr0 hc0 hr1 hc1 hl.1 hl.2
    rw [e] at this
    exact this
  · cases h
end Go.Proofs.Ytggdanifobagpaa.Ext
