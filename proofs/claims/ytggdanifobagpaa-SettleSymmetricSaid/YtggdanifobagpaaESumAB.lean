/- Summarize, its parts. -/
import Derived.Test.YtggdanifobagpaaESort
import Derived.Test.YtggdanifobagpaaELegs
import Derived.Lib.Hide
import Derived.Laws.Cover3
import Derived.WalkSpells
import Derived.Test.YtggdanifobagpaaShelf
namespace Go.Proofs.Ytggdanifobagpaa.Ext
set_option linter.unusedVariables false
set_option linter.unusedSimpArgs false
open Go.RowKit Go.Lib Go.Proofs.Ytggdanifobagpaa.Q Go.Proofs.YtggdanifobagpaaW.PrintWords

theorem row_cells {W : World} {base e size n : Nat} {v : Value} {xs : List Value} (h : W.ownsRow base e size v n xs) {p : Addr} {m c : Nat} (hv : v = .slice (some p) m c) : ∀ j u, xs[j]? = some u → W.cell? (p.add j) = some u := by
  rcases h.2 with ⟨rfl, _⟩ | ⟨g, cap, cur, rfl, _⟩
  · cases hv
  · cases hv
    exact h.cells (g := g) rfl

theorem cells36_one (l : List S36) : ∀ u ∈ l.flatMap cells36, u.oneCell' = true := by
  intro u hu
  obtain ⟨x, _, hx⟩ := List.mem_flatMap.1 hu
  simp [cells36] at hx
  rcases hx with rfl | rfl | rfl | rfl | rfl | rfl | rfl | rfl <;> rfl

theorem eq_nil22 (w : World) (a : Option Addr) (l c : Nat) : (binOp .eql 22 (.slice a l c) (.slice none 0 0)).run Try.prog w = .ok (.bool a.isNone) w := by
  simp only [binOp]
  simp [run_equal_slice_nil w 22 36 a l c Try.underlying22]

set_option maxRecDepth 100000 in
set_option maxHeartbeats 2000000 in
theorem clone_any (lo : Nat) (v : Value) (l : List S36) (w : World) (hrow : w.ownsRow lo 36 8 v l.length (l.flatMap cells36)) (hlen : l.length ≤ 100000) :
    Calls Try.prog 44 #[v] w fun e w' => ∃ v', e = .returned v' ∧ w'.ownsRow w.heap.size 36 8 v' l.length (l.flatMap cells36) ∧ Below w.heap.size w w' := by
  obtain ⟨i0, hi36, hz36, hs36, hb36⟩ := info_parts info36
  have heq := eq_nil22
  have hcl : (l.flatMap cells36).length = l.length * 8 := flat_length (enc := cells36) (k := 8) (fun _ => rfl) l
  rcases hrow.2 with ⟨rfl, hz⟩ | ⟨g, cap, cur, rfl, _⟩
  · have hl : l = [] := List.eq_nil_of_length_eq_zero hz
    subst hl
    clear hrow
    go_enter Try.func44, Try.ntmps44
    go_wp2
    go_ret
    exact ⟨_, rfl, ⟨rfl, .inl ⟨rfl, rfl⟩⟩, Below.refl _ _⟩
  · have hcells := row_cells hrow rfl
    have hone := cells36_one l
    have hcells' : ∀ (o : Obj) j u, (l.flatMap cells36)[j]? = some u → (w.alloc o).cell? ((⟨g, 0, none⟩ : Addr).add j) = some u := fun o j u hj => by
      have h := hcells j u hj
      exact (((Below.refl w.heap.size w).alloc (Nat.le_refl _) o).cell (World.block_lt_of_cell? _ _ h)).trans h
    have hmt : (w.alloc (.cells #[] 36)).ownsRow w.heap.size 36 8 (.slice (some ⟨w.heap.size, 0, none⟩) 0 0) 0 [] :=
      ⟨rfl, .inr ⟨w.heap.size, 0, #[], rfl, Nat.le_refl _, heap_alloc_new w _, Nat.le_refl _, Nat.zero_le _, rfl, rfl⟩⟩
    have hb0 : Below w.heap.size w (w.alloc (.cells #[] 36)) := (Below.refl _ _).alloc (Nat.le_refl _) _
    clear hrow hcells
    go_enter Try.func44, Try.ntmps44
    go_wp2_with (at_builtin; refine wpList_append_own_at _ rfl _ _ 22 rfl w.heap.size 36 i0 _ 8 72 Try.underlying22 hi36 hz36 hs36 hb36 rfl (by decide) (.slice (some ⟨w.heap.size, 0, none⟩) 0 0) 0 [] rfl hmt ⟨g, 0, none⟩ l.length cap (l.flatMap cells36) rfl hcl (hcells' _) hone (by unfold maxLen; omega) (by omega) (by simp) ?_; intro v' w1 hown' hg1 _ hat)
    go_ret
    refine ⟨v', rfl, by simpa using hown', hb0.grown hg1 (by simp) (fun j hj => ?_)⟩
    simp [Value.ownBlock] at hj
    omega

/-- What a summary has added up: units, duration, end, duplicated, rates. -/
structure Acc where
  u : Int
  d : Int
  e : Int
  b : Bool
  rs : List Int
def accStep (a : Acc) (r : S36) : Acc := ⟨a.u + r.f7, a.d + (r.f5 - r.f4), max a.e r.f5, a.b || decide (r.f4 < a.e), a.rs ++ [r.f6]⟩
def acc (l : List S36) : Acc := l.foldl accStep ⟨0, 0, 0, false, []⟩
theorem acc_snoc (l : List S36) (r : S36) : acc (l ++ [r]) = accStep (acc l) r := by simp [acc, List.foldl_append]
def unitsOf (l : List S36) : Int := (l.map (·.f7)).sum
def durOf (l : List S36) : Int := (l.map (fun r => r.f5 - r.f4)).sum
/-- Records that check accepts, as far as a summary asks. -/
def Good (r : S36) : Prop := 0 ≤ r.f7 ∧ 0 ≤ r.f4 ∧ r.f4 < r.f5 ∧ r.f5 ≤ 1099511627776

theorem fold_u (l : List S36) : ∀ a, (l.foldl accStep a).u = a.u + unitsOf l := by
  induction l with
  | nil => intro a; simp [unitsOf]
  | cons r l ih => intro a; rw [List.foldl_cons, ih]; simp [accStep, unitsOf]; omega
theorem fold_d (l : List S36) : ∀ a, (l.foldl accStep a).d = a.d + durOf l := by
  induction l with
  | nil => intro a; simp [durOf]
  | cons r l ih => intro a; rw [List.foldl_cons, ih]; simp [accStep, durOf]; omega
theorem fold_rs (l : List S36) : ∀ a, (l.foldl accStep a).rs = a.rs ++ l.map (·.f6) := by
  induction l with
  | nil => intro a; simp
  | cons r l ih => intro a; rw [List.foldl_cons, ih]; simp [accStep]
theorem acc_u (l : List S36) : (acc l).u = unitsOf l := by rw [acc, fold_u]; simp
theorem acc_d (l : List S36) : (acc l).d = durOf l := by rw [acc, fold_d]; simp
theorem acc_rs (l : List S36) : (acc l).rs = l.map (·.f6) := by rw [acc, fold_rs]; simp
theorem fold_e (l : List S36) : ∀ a, (∀ r ∈ l, Good r) → 0 ≤ a.e → a.e ≤ 1099511627776 → 0 ≤ (l.foldl accStep a).e ∧ (l.foldl accStep a).e ≤ 1099511627776 := by
  induction l with
  | nil => intro a _ h1 h2; exact ⟨h1, h2⟩
  | cons r l ih =>
    intro a hg h1 h2
    rw [List.foldl_cons]
    have hr := hg r (by simp)
    unfold Good at hr
    refine ih _ (fun x hx => hg x (by simp [hx])) ?_ ?_ <;> simp only [accStep] <;> omega
theorem acc_e (l : List S36) (h : ∀ r ∈ l, Good r) : 0 ≤ (acc l).e ∧ (acc l).e ≤ 1099511627776 := fold_e l _ h (by decide) (by decide)
theorem units_app (l m : List S36) : unitsOf (l ++ m) = unitsOf l + unitsOf m := by simp [unitsOf]
theorem units_nonneg (l : List S36) (h : ∀ r ∈ l, Good r) : 0 ≤ unitsOf l := by
  induction l with
  | nil => simp [unitsOf]
  | cons r l ih =>
    have h1 := h r (by simp)
    have h2 := ih (fun x hx => h x (by simp [hx]))
    unfold Good at h1
    simp only [unitsOf, List.map_cons, List.sum_cons] at *
    omega
theorem dur_le (l : List S36) (h : ∀ r ∈ l, Good r) : 0 ≤ durOf l ∧ durOf l ≤ l.length * 1099511627776 := by
  induction l with
  | nil => simp [durOf]
  | cons r l ih =>
    have h1 := h r (by simp)
    have h2 := ih (fun x hx => h x (by simp [hx]))
    unfold Good at h1
    simp only [durOf, List.map_cons, List.sum_cons, List.length_cons] at *
    omega
theorem units_take (l : List S36) (h : ∀ r ∈ l, Good r) (k : Nat) : 0 ≤ unitsOf (l.take k) ∧ unitsOf (l.take k) ≤ unitsOf l := by
  have e := units_app (l.take k) (l.drop k)
  rw [List.take_append_drop] at e
  have h1 := units_nonneg (l.take k) (fun r hr => h r (List.mem_of_mem_take hr))
  have h2 := units_nonneg (l.drop k) (fun r hr => h r (List.mem_of_mem_drop hr))
  omega
theorem sum_perm {l m : List Int} (h : l.Perm m) : l.sum = m.sum := by
  induction h with
  | nil => rfl
  | cons x _ ih => simp [ih]
  | swap x y l => simp; omega
  | trans _ _ h1 h2 => exact h1.trans h2
theorem units_perm {l m : List S36} (h : l.Perm m) : unitsOf l = unitsOf m := sum_perm (h.map _)
theorem dur_perm {l m : List S36} (h : l.Perm m) : durOf l = durOf m := sum_perm (h.map _)

theorem drop_take_flat (l : List S36) : ∀ (j : Nat) (p : S36), l[j]? = some p → ((l.flatMap cells36).drop (j * 8)).take 8 = cells36 p := by
  induction l with
  | nil => intro j p h; simp at h
  | cons r l ih =>
    intro j p h
    cases j with
    | zero => simp at h; subst h; simp [cells36]
    | succ j =>
      have h' : l[j]? = some p := by simpa using h
      rw [List.flatMap_cons, show (j + 1) * 8 = 8 + j * 8 by omega, ← List.drop_drop]
      have e : (cells36 r ++ l.flatMap cells36).drop 8 = l.flatMap cells36 := by simp [cells36]
      rw [e]
      exact ih j p h'

/-- A row of the call's own, as a row that is read. -/
theorem reads_of_row {W : World} {base : Nat} {v : Value} {l : List S36} (h : W.ownsRow base 36 8 v l.length (l.flatMap cells36)) : ∃ A c, v = .slice A l.length c ∧ Kd.C k36 W A l.length l :=
  own_reads_row (R := k36.K W) (ps := l) h ⟨flat_length (enc := cells36) (k := 8) (fun _ => rfl) l, fun j p hj => by
    show k36.K W p (((l.flatMap cells36).drop (j * 8)).take 8)
    rw [drop_take_flat l j p hj]; exact k36_mk W p⟩ rfl
end Go.Proofs.Ytggdanifobagpaa.Ext
namespace Go.Proofs.Ytggdanifobagpaa.Ext
set_option linter.unusedVariables false
set_option linter.unusedSimpArgs false
open Go.RowKit Go.Lib Go.Sort

def encI64 (x : Int) : Value := .int .i64 x

theorem compact_le (zs : List Int) : (Lib.compact zs).length ≤ zs.length := by
  unfold Lib.compact Lib.compactUpTo
  rw [List.length_map]
  exact Nat.le_trans (List.length_filter_le _ _) (by simp)

theorem holds_of_ints {w : World} {g : Nat} {cur : Array Value} {e : TypeId} {zs : List Int} (hb : w.heap[g]? = some (.cells cur e (0, 0))) (ht : cur.toList.take (zs.length * 1) = zs.map encI64) : Holds (Value.int .i64) w g 0 zs.toArray := by
  intro j hj
  have hj' : j < zs.length := by simpa using hj
  refine ⟨?_, by simp [World.frozen?, hb]⟩
  rw [Nat.mul_one] at ht
  have h1 : (cur.toList.take zs.length)[j]? = (zs.map encI64)[j]? := by rw [ht]
  rw [List.getElem?_take_of_lt hj'] at h1
  simp only [World.cell?, hb, Nat.zero_add]
  simp only [Option.isSome_none, Bool.false_eq_true, if_false]
  rw [← Array.getElem?_toList, h1]
  simp [hj', encI64]

theorem heap_put {w : World} {g n : Nat} {cur : Array Value} {e : TypeId} {fr : Nat × Nat} (d : Array Int) (hb : w.heap[g]? = some (.cells cur e fr)) :
    (putRow (Value.int .i64) (Sort.ahead w n) g 0 d).heap[g]? = some (.cells (putCells (Value.int .i64) 0 d cur) e fr) := by
  simp [putRow, mapBlock, Sort.ahead, Array.getElem?_modify, hb, onCells]

theorem grownBy_put {w : World} {g n : Nat} (d : Array Int) : w.grownBy (putRow (Value.int .i64) (Sort.ahead w n) g 0 d) (some g) := by
  refine ⟨rfl, rfl, rfl, by simp [putRow, mapBlock, Sort.ahead], fun k hk hne => ?_⟩
  have : g ≠ k := fun e => hne (by rw [e])
  simp [putRow, mapBlock, Sort.ahead, Array.getElem?_modify, this]

theorem take_put (cur : Array Value) (ts : List Int) (m : Nat) (h : ts.length ≤ cur.size) (hm : m ≤ ts.length) : (putCells (Value.int .i64) 0 ts.toArray cur).toList.take m = (ts.take m).map encI64 := by
  apply List.ext_getElem?
  intro j
  by_cases hj : j < m
  · rw [List.getElem?_take_of_lt hj, Array.getElem?_toList]
    have hjt : j < ts.length := by omega
    simp [putCells, hjt, show j < cur.size by omega, encI64, List.getElem?_take, hj]
  · rw [List.getElem?_take_eq_none (by omega), List.getElem?_eq_none (by simp; omega)]

theorem compact_row (base : Nat) (v : Value) (zs : List Int) (w : World) (hrow : w.ownsRow base 3 1 v zs.length (zs.map encI64)) (hlen : zs.length ≤ 100000) :
    Calls Try.prog 47 #[v] w fun e w' => ∃ p c, e = .returned (.slice p (Lib.compact zs).length c) ∧ w'.ownsRow base 3 1 (.slice p (Lib.compact zs).length c) (Lib.compact zs).length ((Lib.compact zs).map encI64) ∧ w.grownBy w' v.ownBlock ∧ (Value.slice p (Lib.compact zs).length c).ownBlock = v.ownBlock := by
  rcases hrow.2 with ⟨rfl, hz⟩ | ⟨g, cap, cur, rfl, hb, hg, h1, h2, h3, h4⟩
  · have e : zs = [] := List.eq_nil_of_length_eq_zero hz
    subst e
    refine (Try.slices_Compact_int_empty none 0 w).mono ?_
    rintro e w' ⟨rfl, rfl⟩
    have hc : Lib.compact ([] : List Int) = [] := rfl
    rw [hc]
    exact ⟨none, 0, rfl, hrow, ⟨rfl, rfl, rfl, Nat.le_refl _, fun _ _ _ => rfl⟩, rfl⟩
  · refine (Try.slices_Compact_int g 0 cap zs w (holds_of_ints hg h4) (by omega) h1).mono ?_
    rintro e w' ⟨rfl, q, rfl⟩
    have hle := compact_le zs
    refine ⟨some ⟨g, 0, none⟩, cap, rfl, ⟨by simp, .inr ⟨g, cap, _, rfl, hb, heap_put _ hg, by omega, h2, by simp [putCells, h3], ?_⟩⟩, grownBy_put _, rfl⟩
    rw [Nat.mul_one, take_put _ _ _ (by simp; omega) (by simp)]
    simp
end Go.Proofs.Ytggdanifobagpaa.Ext
