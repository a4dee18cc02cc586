/- Plain laws: the legs of the records of both sides, in the order of their first records. -/
import Derived.Test.YtggdanifobagpaaEPlainSet
namespace Go.Proofs.Ytggdanifobagpaa.Pure
set_option linter.unusedVariables false
set_option linter.unusedSimpArgs false
open Go.RowKit Go.Proofs.Ytggdanifobagpaa.Q Go.Proofs.Ytggdanifobagpaa.Ext Go.Proofs.YtggdanifobagpaaW.PrintWords Go.Proofs.YtggdanifobagpaaW.PrintLast Go.Proofs.YtggdanifobagpaaW.PrintMore

def sameKey (x y : S36) : Bool := decide (x.f0 = y.f0 ∧ x.f1 = y.f1)
def fresh (l : List S36) (r : S36) : Bool := l.all fun q => !sameKey q r
theorem pS {i : Nat} (h : i < 1000000000) : wrap64 ((i : Int) + 1) = ((i + 1 : Nat) : Int) := by unfold wrap64; omega
theorem pT {l : List S36} {i : Nat} (h : i < l.length) : rd_T36 l (i : Int) = l[i] := by simp [rd_T36, List.getD_eq_getElem?_getD, h]
def addK (D : List Key) (r : S36) : List Key := if r.f1 = 1 ∨ (r.f0, r.f1) ∈ D then D else D ++ [(r.f0, r.f1)]
/-- The legs of the records l, in the order of their first records. -/
def firsts (l : List S36) : List Key := l.foldl addK []
theorem firsts_snoc (l : List S36) (r : S36) : firsts (l ++ [r]) = addK (firsts l) r := by simp [firsts, List.foldl_append]
theorem addK_mem (D : List Key) (r : S36) (k : Key) : k ∈ addK D r ↔ k ∈ D ∨ (r.f1 ≠ 1 ∧ (r.f0, r.f1) = k) := by
  unfold addK
  split
  · rename_i h
    constructor
    · exact .inl
    · rintro (h' | ⟨h1, rfl⟩)
      · exact h'
      · rcases h with h | h
        · exact absurd h h1
        · exact h
  · rename_i h
    rw [List.mem_append, List.mem_singleton]
    constructor
    · rintro (h' | rfl)
      · exact .inl h'
      · exact .inr ⟨fun e => h (.inl e), rfl⟩
    · rintro (h' | ⟨_, rfl⟩)
      · exact .inl h'
      · exact .inr rfl
theorem firsts_mem (l : List S36) (k : Key) : k ∈ firsts l ↔ ∃ r ∈ l, r.f1 ≠ 1 ∧ (r.f0, r.f1) = k := by
  have : ∀ (l : List S36) (D : List Key), k ∈ l.foldl addK D ↔ k ∈ D ∨ ∃ r ∈ l, r.f1 ≠ 1 ∧ (r.f0, r.f1) = k := by
    intro l
    induction l with
    | nil => intro D; simp
    | cons r l ih =>
      intro D
      rw [List.foldl_cons, ih, addK_mem]
      simp only [List.mem_cons, exists_eq_or_imp]
      exact or_assoc
  have h := this l []
  simpa [firsts] using h
theorem firsts_nodup (l : List S36) : (firsts l).Nodup := by
  have : ∀ (l : List S36) (D : List Key), D.Nodup → (l.foldl addK D).Nodup := by
    intro l
    induction l with
    | nil => intro D h; exact h
    | cons r l ih =>
      intro D h
      rw [List.foldl_cons]
      refine ih _ ?_
      unfold addK
      split
      · exact h
      · rename_i h1
        refine List.nodup_append.2 ⟨h, by simp, fun x hx y hy e => ?_⟩
        rw [List.mem_singleton] at hy
        subst hy; subst e
        exact h1 (.inr hx)
  exact this l [] List.nodup_nil
theorem firsts_len (l : List S36) : (firsts l).length ≤ l.length := by
  have : ∀ (l : List S36) (D : List Key), (l.foldl addK D).length ≤ D.length + l.length := by
    intro l
    induction l with
    | nil => intro D; simp
    | cons r l ih =>
      intro D
      rw [List.foldl_cons]
      have h := ih (addK D r)
      have h2 : (addK D r).length ≤ D.length + 1 := by unfold addK; split <;> simp
      rw [List.length_cons]
      omega
  have h := this l []
  simpa [firsts] using h
theorem fresh_iff (l : List S36) (r : S36) (hr : r.f1 ≠ 1) : fresh l r = true ↔ (r.f0, r.f1) ∉ firsts l := by
  rw [firsts_mem]
  unfold fresh
  rw [List.all_eq_true]
  constructor
  · rintro h ⟨q, hq, _, e⟩
    have h1 := h q hq
    have e0 := congrArg Prod.fst e
    have e1 := congrArg Prod.snd e
    simp only at e0 e1
    simp [sameKey, e0, e1] at h1
  · intro h q hq
    by_cases e : q.f0 = r.f0 ∧ q.f1 = r.f1
    · exact absurd ⟨q, hq, by rw [e.2]; exact hr, by rw [e.1, e.2]⟩ h
    · simp only [sameKey, decide_eq_false e, Bool.not_false]
theorem both_roles {a b : List S36} (h3 : allOk a = true) (h4 : allOk b = true) : ∀ r ∈ a ++ mirL 0 b, 1 ≤ r.f1 ∧ r.f1 ≤ 3 := by
  intro r hr
  rcases List.mem_append.1 hr with h | h
  · exact roles_ok h3 r h
  · obtain ⟨q, hq, hq'⟩ := List.mem_flatMap.1 h
    unfold mirE at hq'
    split at hq'
    · cases hq'
    · rw [List.mem_singleton] at hq'
      subst hq'
      have := roles_ok h4 q hq
      exact exch_range this.1 this.2
theorem keys_firsts {a b : List S36} (h3 : allOk a = true) (h4 : allOk b = true) (k : Key) : k ∈ firsts (a ++ mirL 0 b) ↔ k ∈ keysL a b := by
  rw [firsts_mem]
  unfold keysL
  rw [keys_mem, List.mem_append, List.mem_map, List.mem_map]
  constructor
  · rintro ⟨r, hr, h1, rfl⟩
    rcases List.mem_append.1 hr with hr | hr
    · exact .inl ⟨r, List.mem_filter.2 ⟨hr, by simp [h1]⟩, rfl⟩
    · obtain ⟨q, hq, hq'⟩ := List.mem_flatMap.1 hr
      unfold mirE at hq'
      split at hq'
      · cases hq'
      · rename_i hne
        rw [List.mem_singleton] at hq'
        subst hq'
        refine .inr ⟨q, List.mem_filter.2 ⟨hq, ?_⟩, rfl⟩
        rw [decide_eq_true_iff]
        intro e
        exact hne (by rw [e]; rfl)
  · rintro (⟨r, hr, rfl⟩ | ⟨r, hr, rfl⟩)
    · obtain ⟨h1, h2⟩ := List.mem_filter.1 hr
      exact ⟨r, List.mem_append.2 (.inl h1), of_decide_eq_true h2, rfl⟩
    · obtain ⟨h1, h2⟩ := List.mem_filter.1 hr
      have h2 := of_decide_eq_true h2
      have hr2 := roles_ok h4 r h1
      have hc : r.f1 = 2 ∨ r.f1 = 3 := by omega
      have hne : exch r.f1 ≠ r.f1 ∧ exch r.f1 ≠ 1 := by rcases hc with h | h <;> rw [h] <;> decide
      refine ⟨⟨r.f0, exch r.f1, 0, r.f3, r.f4, r.f5, r.f6, r.f7⟩, List.mem_append.2 (.inr (List.mem_flatMap.2 ⟨r, h1, ?_⟩)), hne.2, rfl⟩
      unfold mirE
      rw [if_neg hne.1]
      simp
end Go.Proofs.Ytggdanifobagpaa.Pure
