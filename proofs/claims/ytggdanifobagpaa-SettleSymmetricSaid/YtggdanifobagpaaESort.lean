/- Sorting keys and records. -/
import Derived.Test.YtggdanifobagpaaEIterAll
import Derived.Test.YtggdanifobagpaaSortShelf
import Derived.Test.YtggdanifobagpaaShelf
import Derived.Test.YtggdanifobagpaaWEqStruct
import Derived.WalkKit
import Derived.StillTailTactics
import Derived.Test.YtggdanifobagpaaQx0
import Derived.Shelf.SlSortCmp.NoneTotal
import Derived.Laws.AppendOwn
namespace Go.Proofs.Ytggdanifobagpaa.Ext
set_option linter.unusedVariables false
set_option linter.unusedSimpArgs false
open Go.RowKit Go.Shelf Go.Lib Go.Sort Go.Proofs.YtggdanifobagpaaW.PrintWords Go.Proofs.Ytggdanifobagpaa.Q

theorem eqA59 (d : Nat) (w : World) (x0 : Int) (x1 : Int) (y0 : Int) (y1 : Int) :
    (Op.equalIn (d + 2) 59 (.agg #[.int .i64 x0, .int .i64 x1]) (.agg #[.int .i64 y0, .int .i64 y1])).run Try.prog w = .ok (x0 == y0 && (x1 == y1)) w := by
  refine eqA_of Try.underlying59 (by kernel_rfl) ?_
  refine eqf_cons (by rfl) (by go_simp; rfl) (by go_simp; rfl) (by go_simp) ?_
  exact eqf_last (by rfl) (by go_simp; rfl) (by go_simp; rfl) (by go_simp)

def cellsKey' (k : Key) : List Value := [.int .i64 k.1, .int .i64 k.2]
def cmpKey (x y : Key) : Int := if compareInt x.1 y.1 ≠ 0 then compareInt x.1 y.1 else compareInt x.2 y.2

set_option maxHeartbeats 1000000 in
/-- cmp.Or at two numbers laid last. -/
theorem cmp_Or2 (B : Nat) (a b : Int) (w : World) (h0 : w.cell? ⟨B, 0, none⟩ = some (.int .i64 a)) (h1 : w.cell? ⟨B, 1, none⟩ = some (.int .i64 b)) :
    Calls Try.prog 34 #[.slice (some ⟨B, 0, none⟩) 2 2] w fun e w' => e = .returned (.int .i64 (if a ≠ 0 then a else b)) ∧ w' = w := by
  go_enter Try.func34, Try.ntmps34
  go_wp2
  go_loopw [8] (fun i wr => wr = w ∧ ((i = .int .i64 0) ∨ (i = .int .i64 1 ∧ a = 0) ∨ (i = .int .i64 2 ∧ a = 0 ∧ b = 0))) (fun i _ => 2 - (intOf i).toNat)
  case atStart => exact ⟨rfl, .inl rfl⟩
  case round =>
    obtain ⟨rfl, rfl | ⟨rfl, ha⟩ | ⟨rfl, ha, hb⟩⟩ := hrel
    · by_cases ha : a = 0
      · subst ha
        go_wp2
        go_roundw
        case rel => exact by simp
        case measure => simp [intOf]
      · have hb : decide (a = 0) = false := decide_eq_false ha
        go_wp2
        go_ret
        exact ⟨by first | rfl | simp [ha], rfl⟩
    · subst ha
      by_cases hb : b = 0
      · subst hb
        go_wp2
        go_roundw
        case rel => exact by simp
        case measure => simp [intOf]
      · have hb' : decide (b = 0) = false := decide_eq_false hb
        go_wp2
        go_ret
        exact ⟨by first | rfl | simp, rfl⟩
    · subst ha; subst hb
      go_wp2
      go_ret
      exact ⟨by first | rfl | simp, rfl⟩

set_option maxRecDepth 100000 in
set_option maxHeartbeats 1000000 in
theorem closure33 (x y : Key) (W : World) : Calls Try.prog 33 #[encKey x, encKey y] W fun e w' => e = .returned (.int .i64 (cmpKey x y)) ∧ ∃ q os', w' = grow (W.drewN q) os' := by
  obtain ⟨x0, x1⟩ := x
  obtain ⟨y0, y1⟩ := y
  have hcon := fun a b W' => Try.cmp_Compare_int a b W'
  have heq := fun W' => eqA59 9998 W' x0 x1 y0 y1
  simp only [encKey]
  by_cases he : x0 = y0 ∧ x1 = y1
  · obtain ⟨rfl, rfl⟩ := he
    have hc : cmpKey (x0, x1) (x0, x1) = 0 := by simp [cmpKey, compareInt]
    rw [hc]
    have hb : (x0 == x0 && (x1 == x1)) = true := by simp
    go_enter Try.func33, Try.ntmps33
    go_wp2
    go_ret
    exact ⟨rfl, 0, _, by rw [alloc_eq_grow, alloc_eq_grow, grow_grow]; rfl⟩
  · have hb : (x0 == y0 && (x1 == y1)) = false := by
      simp only [Bool.and_eq_false_iff, beq_eq_false_iff_ne]
      by_cases h : x0 = y0
      · exact .inr (fun h' => he ⟨h, h'⟩)
      · exact .inl h
    rw [hb] at heq
    have hc : cmpKey (x0, x1) (y0, y1) = if compareInt x0 y0 ≠ 0 then compareInt x0 y0 else compareInt x1 y1 := rfl
    generalize cmpKey (x0, x1) (y0, y1) = q at *
    go_enter Try.func33, Try.ntmps33
    go_wp2
    obtain ⟨W2, hW2⟩ : ∃ W2, (W.alloc (.cells #[.int .i64 x0, .int .i64 x1] 59)).alloc (.cells #[.int .i64 y0, .int .i64 y1] 59) = W2 := ⟨_, rfl⟩
    have c0 : W2.cell? ⟨W.heap.size, 0, none⟩ = some (.int .i64 x0) := by rw [← hW2]; simp
    have c1 : W2.cell? ⟨W.heap.size, 1, none⟩ = some (.int .i64 x1) := by rw [← hW2]; simp
    have c2 : W2.cell? ⟨W.heap.size + 1, 0, none⟩ = some (.int .i64 y0) := by rw [← hW2]; simp
    have c3 : W2.cell? ⟨W.heap.size + 1, 1, none⟩ = some (.int .i64 y1) := by rw [← hW2]; simp
    rw [hW2]
    go_still_tail 10, (by kernel_rfl)
    still_call (hcon _ _ _)
    repeat still_step
    still_call (hcon _ _ _)
    refine wpStill_nil ?_
    change wpList _ _ _ _ _ W2.drew
    have hW : ∃ os, W2.drew = grow (W.drewN 1) os := ⟨_, by rw [← hW2, alloc_eq_grow, alloc_eq_grow, grow_grow]; rfl⟩
    generalize W2.drew = w2 at hW
    clear hW2 c0 c1 c2 c3
    go_wp2_with fail
    have hor := cmp_Or2 w2.heap.size (compareInt x0 y0) (compareInt x1 y1) (w2.alloc (.cells #[.int .i64 (compareInt x0 y0), .int .i64 (compareInt x1 y1)] 3)) (by simp) (by simp)
    rw [← hc] at hor
    refine hor.mono ?_
    clear hor hc
    rintro e w' ⟨rfl, rfl⟩
    go_wp2
    go_ret
    obtain ⟨os, rfl⟩ := hW
    exact ⟨rfl, 1, _, by rw [alloc_eq_grow, grow_grow]⟩

theorem compareInt_neg (x y : Int) : compareInt x y < 0 ↔ x < y := by
  unfold compareInt
  by_cases h1 : x < y
  · simp [h1]
  · by_cases h2 : y < x <;> simp [h1, h2]
theorem compareInt_zero (x y : Int) : compareInt x y = 0 ↔ x = y := by
  unfold compareInt
  by_cases h1 : x < y
  · simp [h1]; omega
  · by_cases h2 : y < x <;> simp [h1, h2] <;> omega
/-- The keys' order: by the first number, then the second. -/
def ltKey (x y : Key) : Bool := decide (x.1 < y.1 ∨ (x.1 = y.1 ∧ x.2 < y.2))
theorem lt_cmpKey (x y : Key) : ltOf cmpKey x y = ltKey x y := by
  unfold ltOf cmpKey ltKey
  by_cases h : compareInt x.1 y.1 = 0
  · have := (compareInt_zero x.1 y.1).1 h
    simp only [h, ne_eq, not_true_eq_false, if_false, compareInt_neg]
    simp [this]
  · have h' : x.1 ≠ y.1 := fun e => h ((compareInt_zero _ _).2 e)
    simp only [ne_eq, h, not_false_eq_true, if_true, compareInt_neg]
    simp [h']
theorem swoKey : SWO (ltOf cmpKey) where
  irrefl x := by rw [lt_cmpKey]; simp [ltKey]
  trans x y z h1 h2 := by rw [lt_cmpKey] at *; simp [ltKey] at *; omega
  ntrans x y z h1 h2 := by rw [lt_cmpKey] at *; simp [ltKey] at *; omega

theorem cmpLaysKey (blk off size : Nat) (w : World) : CmpLays Try.prog 33 #[] cellsKey' 2 cmpKey blk off size w :=
  fun _ _ _ _ x y => closure33 x y _

/-! ### records, by From -/
def cells36 (x : S36) : List Value := [.int .i64 x.f0, .int .i64 x.f1, .int .i64 x.f2, .string x.f3, .int .i64 x.f4, .int .i64 x.f5, .int .i64 x.f6, .int .i64 x.f7]
instance : Inhabited S36 := ⟨z36⟩
def cmpRec (x y : S36) : Int := compareInt x.f4 y.f4

set_option maxRecDepth 100000 in
set_option maxHeartbeats 1000000 in
theorem closure46 (x y : S36) (W : World) : Calls Try.prog 46 #[.agg (cells36 x).toArray, .agg (cells36 y).toArray] W fun e w' => e = .returned (.int .i64 (cmpRec x y)) ∧ ∃ q os', w' = grow (W.drewN q) os' := by
  have hcon := fun a b W' => Try.cmp_Compare_int a b W'
  obtain ⟨x0, x1, x2, x3, x4, x5, x6, x7⟩ := x
  obtain ⟨y0, y1, y2, y3, y4, y5, y6, y7⟩ := y
  simp only [cells36, cmpRec]
  go_enter Try.func46, Try.ntmps46
  go_wp2_with (go_at_call 35; refine (hcon _ _ _).mono ?_; rintro e w' ⟨rfl, rfl⟩)
  go_ret
  exact ⟨rfl, 0, _, by rw [alloc_eq_grow, alloc_eq_grow, grow_grow]; rfl⟩

theorem lt_cmpRec (x y : S36) : ltOf cmpRec x y = decide (x.f4 < y.f4) := by
  unfold ltOf cmpRec
  simp only [compareInt_neg]
theorem swoRec : SWO (ltOf cmpRec) where
  irrefl x := by rw [lt_cmpRec]; simp
  trans x y z h1 h2 := by rw [lt_cmpRec] at *; simp at *; omega
  ntrans x y z h1 h2 := by rw [lt_cmpRec] at *; simp at *; omega
theorem cmpLaysRec (blk off size : Nat) (w : World) : CmpLays Try.prog 46 #[] cells36 8 cmpRec blk off size w :=
  fun _ _ _ _ x y => closure46 x y _

theorem isAgg59 : ∀ w, (isAgg 59).run Try.prog w = .ok true w := Try.isAgg59
theorem isAgg36 : ∀ w, (isAgg 36).run Try.prog w = .ok true w := Try.isAgg36

/-- slices.SortFunc at the keys. -/
theorem sort_keys (blk off cap : Nat) (d : Array Key) (w : World) (hH : HoldsK cellsKey' 2 w blk off d) (hblk : blk < w.heap.size) (hsz : d.size < 4611686018427387904) :
    Calls Try.prog 41 #[.slice (some ⟨blk, off, none⟩) d.size cap, .func (.func 33) #[] #[]] w fun e w' =>
      e = .returned (.tuple #[]) ∧ ∃ d' n os, PermIn 0 d.size d d' ∧ SortedIn (ltOf cmpKey) 0 d.size d' ∧ w' = sortWorldK cellsKey' 2 w blk off n d' os :=
  AnyQ.slices_SortFunc Try.sortKey 2 Try.isAgg59 Try.sizeOf59 cellsKey' (fun _ => rfl) (fun x v hv => by simp [cellsKey'] at hv; rcases hv with rfl | rfl <;> rfl) cmpKey swoKey 33 #[] blk off cap d w (enters_of Try.func33 (by kernel_rfl) rfl) (cmpLaysKey blk off d.size w) hH hblk hsz

/-- slices.SortFunc at the records. -/
theorem sort_recs (blk off cap : Nat) (d : Array S36) (w : World) (hH : HoldsK cells36 8 w blk off d) (hblk : blk < w.heap.size) (hsz : d.size < 4611686018427387904) :
    Calls Try.prog 45 #[.slice (some ⟨blk, off, none⟩) d.size cap, .func (.func 46) #[] #[]] w fun e w' =>
      e = .returned (.tuple #[]) ∧ ∃ d' n os, PermIn 0 d.size d d' ∧ SortedIn (ltOf cmpRec) 0 d.size d' ∧ w' = sortWorldK cells36 8 w blk off n d' os :=
  AnyQ.slices_SortFunc Try.sortRec 8 Try.isAgg36 Try.sizeOf36 cells36 (fun _ => rfl) (fun x v hv => by simp [cells36] at hv; rcases hv with rfl | rfl | rfl | rfl | rfl | rfl | rfl | rfl <;> rfl) cmpRec swoRec 46 #[] blk off cap d w (enters_of Try.func46 (by kernel_rfl) rfl) (cmpLaysRec blk off d.size w) hH hblk hsz
end Go.Proofs.Ytggdanifobagpaa.Ext
namespace Go.Proofs.Ytggdanifobagpaa.Ext
set_option linter.unusedVariables false
set_option linter.unusedSimpArgs false
open Go.RowKit Go.Shelf Go.Lib Go.Sort Go.Proofs.Ytggdanifobagpaa.Q

theorem flat_length {α : Type} {enc : α → List Value} {k : Nat} (hk : ∀ x, (enc x).length = k) (l : List α) : (l.flatMap enc).length = l.length * k := by
  induction l with
  | nil => simp
  | cons x l ih => simp [hk, ih, Nat.add_mul]; omega

section
variable {α : Type} [Inhabited α] {enc : α → List Value} {k : Nat}

theorem flat_get (hk : ∀ x, (enc x).length = k) (hk0 : 0 < k) : ∀ (l : List α) (t : Nat), t < l.length * k → (l.flatMap enc)[t]? = some ((enc l[t / k]!)[t % k]!)
  | [], t, h => by simp at h
  | x :: l, t, h => by
    rw [List.flatMap_cons]
    by_cases ht : t < k
    · rw [List.getElem?_append_left (by rw [hk]; exact ht)]
      have e1 : t / k = 0 := Nat.div_eq_of_lt ht
      have e2 : t % k = t := Nat.mod_eq_of_lt ht
      rw [e1, e2]
      have hl : t < (enc x).length := by rw [hk]; exact ht
      simp [hl]
    · have ht' : k ≤ t := by omega
      rw [List.getElem?_append_right (by rw [hk]; exact ht'), hk]
      have h' : t - k < l.length * k := by simp [Nat.add_mul] at h; omega
      rw [flat_get hk hk0 l (t - k) h']
      have e1 : t / k = (t - k) / k + 1 := by
        have : t = (t - k) + k := by omega
        rw [this, Nat.add_div_right _ hk0]; simp
      have e2 : t % k = (t - k) % k := by
        have : t = (t - k) + k := by omega
        conv => lhs; rw [this]
        exact Nat.add_mod_right _ _
      rw [e1, e2]
      simp

theorem holdsK_of_row (hk : ∀ x, (enc x).length = k) (hk0 : 0 < k) {w : World} {g : Nat} {cur : Array Value} {e : TypeId} {ss : List α} (hb : w.heap[g]? = some (.cells cur e (0, 0))) (ht : cur.toList.take (ss.length * k) = ss.flatMap enc) : HoldsK enc k w g 0 ss.toArray := by
  intro j hj
  have hj' : j < ss.length * k := by simpa using hj
  refine ⟨?_, by simp [World.frozen?, hb]⟩
  have h1 : (cur.toList.take (ss.length * k))[j]? = (ss.flatMap enc)[j]? := by rw [ht]
  rw [List.getElem?_take_of_lt hj', flat_get hk hk0 ss j hj'] at h1
  rw [get_flatK enc k ss.toArray j (by simpa using hj')]
  simp only [World.cell?, hb, Nat.zero_add]
  simp only [Option.isSome_none, Bool.false_eq_true, if_false]
  rw [← Array.getElem?_toList, h1]
  simp

theorem heap_sortedK {w : World} {g n : Nat} {os : Array Obj} {cur : Array Value} {e : TypeId} {fr : Nat × Nat} (d : Array α) (hb : w.heap[g]? = some (.cells cur e fr)) :
    (sortWorldK enc k w g 0 n d os).heap[g]? = some (.cells (putCells id 0 (flatK enc k d) cur) e fr) := by
  have hg : g < w.heap.size := (Array.getElem?_eq_some_iff.1 hb).1
  unfold sortWorldK putRowK
  rw [heap_grow_old _ _ (by simpa using hg)]
  simp [putRow, mapBlock, Sort.ahead, Array.getElem?_modify, hb, onCells]

theorem grownBy_sortedK {w : World} {g n : Nat} {os : Array Obj} (d : Array α) : w.grownBy (sortWorldK enc k w g 0 n d os) (some g) := by
  unfold sortWorldK putRowK
  refine ⟨rfl, rfl, rfl, by simp, fun i hi hne => ?_⟩
  rw [heap_grow_old _ _ (by simpa using hi)]
  have : g ≠ i := fun e => hne (by rw [e])
  simp [putRow, mapBlock, Sort.ahead, Array.getElem?_modify, this]

theorem take_putCellsK (hk : ∀ x, (enc x).length = k) (hk0 : 0 < k) (cur : Array Value) (ts : List α) (h : ts.length * k ≤ cur.size) : (putCells id 0 (flatK enc k ts.toArray) cur).toList.take (ts.length * k) = ts.flatMap enc := by
  apply List.ext_getElem?
  intro j
  by_cases hj : j < ts.length * k
  · rw [List.getElem?_take_of_lt hj, Array.getElem?_toList, flat_get hk hk0 ts j hj]
    have e := get_flatK enc k ts.toArray j (by simpa using hj)
    have hjc : j < cur.size := by omega
    simp only [putCells, Array.getElem?_mapIdx, Nat.zero_le, size_flatK, List.size_toArray, Nat.zero_add, Nat.sub_zero, true_and, hj, if_true, id, e]
    simp [hjc]
  · rw [List.getElem?_take_eq_none (by omega), List.getElem?_eq_none (by rw [flat_length hk]; omega)]

theorem ownsRow_sortedK (hk : ∀ x, (enc x).length = k) (hk0 : 0 < k) {w : World} {base g cap n : Nat} {e : TypeId} {os : Array Obj} {cur : Array Value} {m : Nat} {ts : List α} (hl : ts.length = m) (hbase : base ≤ g) (hb : w.heap[g]? = some (.cells cur e (0, 0)))
    (h1 : m ≤ cap) (h2 : cap ≤ maxLen) (h3 : cur.size = cap * k) :
    (sortWorldK enc k w g 0 n ts.toArray os).ownsRow base e k (.slice (some ⟨g, 0, none⟩) m cap) m (ts.flatMap enc) := by
  subst hl
  have hm : ts.length * k ≤ cap * k := Nat.mul_le_mul_right _ h1
  exact ⟨flat_length hk ts, .inr ⟨g, cap, _, rfl, hbase, heap_sortedK _ hb, h1, h2, by simp [putCells, h3], take_putCellsK hk hk0 cur ts (by omega)⟩⟩

theorem perm_of_permIn {d d' : Array α} (h : PermIn 0 d.size d d') : d'.toList.Perm d.toList := by
  obtain ⟨h1, _, h3⟩ := h
  rw [← h1] at h3
  have e1 : (d'.extract 0 d'.size).toList = d'.toList := by simp
  have e2 : (d.extract 0 d'.size).toList = d.toList := by rw [h1]; simp
  rwa [e1, e2] at h3

theorem pairwise_of_sortedIn {lt : α → α → Bool} {d : Array α} (h : SortedIn lt 0 d.size d) : d.toList.Pairwise (fun a b => lt b a = false) := by
  rw [List.pairwise_iff_getElem]
  intro i j hi hj hij
  have hj' : j < d.size := by simpa using hj
  have hi' : i < d.size := by simpa using hi
  have := h i j (Nat.zero_le _) hij hj'
  simpa [hi', hj'] using this

/-- A sort's contract at a row of the call's own. -/
theorem sort_row (hk : ∀ x, (enc x).length = k) (hk0 : 0 < k) (F : Nat) (fv : Value) (cf : α → α → Int) (e : TypeId)
    (hsome : ∀ (blk off cap : Nat) (d : Array α) (w : World), HoldsK enc k w blk off d → blk < w.heap.size → d.size < 4611686018427387904 →
      Calls Try.prog F #[.slice (some ⟨blk, off, none⟩) d.size cap, fv] w fun e w' => e = .returned (.tuple #[]) ∧ ∃ d' n os, PermIn 0 d.size d d' ∧ SortedIn (ltOf cf) 0 d.size d' ∧ w' = sortWorldK enc k w blk off n d' os)
    (hnone : ∀ (p : Option Addr) (cap : Nat) (w : World), Calls Try.prog F #[.slice p 0 cap, fv] w fun e w' => e = .returned (.tuple #[]) ∧ w' = w)
    (base : Nat) (v : Value) (ss : List α) (w : World) (hrow : w.ownsRow base e k v ss.length (ss.flatMap enc)) (hlen : ss.length < 4611686018427387904) :
    Calls Try.prog F #[v, fv] w fun e' w' => e' = .returned (.tuple #[]) ∧ ∃ ts : List α, ts.Perm ss ∧ ts.Pairwise (fun a b => ltOf cf b a = false) ∧ w'.ownsRow base e k v ss.length (ts.flatMap enc) ∧ w.grownBy w' v.ownBlock := by
  rcases hrow.2 with ⟨rfl, hz⟩ | ⟨g, cap, cur, rfl, hbase, hgb, r1, r2, r3, r4⟩
  · have hss : ss = [] := List.eq_nil_of_length_eq_zero hz
    subst hss
    refine (hnone none 0 w).mono ?_
    rintro e' w' ⟨rfl, rfl⟩
    exact ⟨rfl, [], List.Perm.refl _, List.Pairwise.nil, hrow, ⟨rfl, rfl, rfl, Nat.le_refl _, fun _ _ _ => rfl⟩⟩
  · have hH := holdsK_of_row hk hk0 hgb r4
    refine (hsome g 0 cap ss.toArray w hH (Array.getElem?_eq_some_iff.1 hgb).1 (by simpa using hlen)).mono ?_
    rintro e' w' ⟨rfl, d', n, os, hp, hs, rfl⟩
    have hpl := perm_of_permIn hp
    refine ⟨rfl, d'.toList, hpl, pairwise_of_sortedIn (by rw [hp.1]; exact hs), ?_, grownBy_sortedK _⟩
    have := ownsRow_sortedK (n := n) (os := os) hk hk0 (ts := d'.toList) (by simpa using hpl.length_eq) hbase hgb r1 r2 r3
    simpa using this
end

theorem sort_keys_row (base : Nat) (v : Value) (ss : List Key) (w : World) (hrow : w.ownsRow base 59 2 v ss.length (ss.flatMap cellsKey)) (hlen : ss.length < 4611686018427387904) :
    Calls Try.prog 41 #[v, .func (.func 33) #[] #[]] w fun e' w' => e' = .returned (.tuple #[]) ∧ ∃ ts : List Key, ts.Perm ss ∧ ts.Pairwise (fun a b => ltKey b a = false) ∧ w'.ownsRow base 59 2 v ss.length (ts.flatMap cellsKey) ∧ w.grownBy w' v.ownBlock := by
  have h := sort_row (enc := cellsKey) (k := 2) (fun _ => rfl) (by decide) 41 (.func (.func 33) #[] #[]) cmpKey 59 (fun blk off cap d w => sort_keys blk off cap d w)
    (fun p cap w => AnyF.slices_SortFunc_none Try.sortKey p cap _ w) base v ss w hrow hlen
  refine h.mono ?_
  rintro e' w' ⟨rfl, ts, h1, h2, h3, h4⟩
  exact ⟨rfl, ts, h1, h2.imp (fun h => by rw [← lt_cmpKey]; exact h), h3, h4⟩

theorem sort_recs_row (base : Nat) (v : Value) (ss : List S36) (w : World) (hrow : w.ownsRow base 36 8 v ss.length (ss.flatMap cells36)) (hlen : ss.length < 4611686018427387904) :
    Calls Try.prog 45 #[v, .func (.func 46) #[] #[]] w fun e' w' => e' = .returned (.tuple #[]) ∧ ∃ ts : List S36, ts.Perm ss ∧ ts.Pairwise (fun a b => a.f4 ≤ b.f4) ∧ w'.ownsRow base 36 8 v ss.length (ts.flatMap cells36) ∧ w.grownBy w' v.ownBlock := by
  have h := sort_row (enc := cells36) (k := 8) (fun _ => rfl) (by decide) 45 (.func (.func 46) #[] #[]) cmpRec 36 (fun blk off cap d w => sort_recs blk off cap d w)
    (fun p cap w => AnyF.slices_SortFunc_none Try.sortRec p cap _ w) base v ss w hrow hlen
  refine h.mono ?_
  rintro e' w' ⟨rfl, ts, h1, h2, h3, h4⟩
  exact ⟨rfl, ts, h1, h2.imp (fun h => by rw [lt_cmpRec] at h; simpa using h), h3, h4⟩
end Go.Proofs.Ytggdanifobagpaa.Ext
namespace Go.Proofs.Ytggdanifobagpaa.Ext
set_option linter.unusedVariables false
set_option linter.unusedSimpArgs false
open Go.RowKit Go.Maps Go.WideMaps Go.Shelf

set_option maxRecDepth 100000 in
set_option maxHeartbeats 2000000 in
theorem sortedFunc_in (n : Nat) (hn : 4 ≤ n) (g : Nat) (lb : Array Value) (eg : ∀ args w, (callFunc g args).run Try.prog w = .ok (.enter g args) w)
    (S : List Key → Prop) (N : Nat) (hN : N ≤ maxLen) (hNb : N * 16 ≤ 140737488355328) (w : World) (hseq : SeqGives Fence.wide (n - 1 - 1 - 1) Try.prog g lb encKey S N w) :
    CallsIn Fence.wide n Try.prog 31 #[.func (.func g) #[] lb, .func (.func 33) #[] #[]] w fun e w' => ∃ (v : Value) (ss ts : List Key), e = .returned v ∧ S ss ∧ ts.Perm ss ∧ ts.Pairwise (fun a b => ltKey b a = false) ∧
      w'.ownsRow w.heap.size 59 2 v ts.length (ts.flatMap cellsKey) ∧ Below w.heap.size w w' := by
  have h1 : 1 ≤ n := by omega
  have e40 : ∀ args w, (callFunc 40 args).run Try.prog w = .ok (.enter 40 args) w := enters_of Try.func40 (by kernel_rfl) rfl
  have e41 : ∀ args w, (callFunc 41 args).run Try.prog w = .ok (.enter 41 args) w := enters_of Try.func41 (by kernel_rfl) rfl
  have hf40 : Fence.wide.fn 40 := trivial
  have hf41 : Fence.wide.fn 41 := trivial
  refine callsIn_of_wp Try.func31 rfl trivial ?_ rfl
  simp only [Try.ntmps31, List.size_toArray, List.length_cons, List.length_nil, Nat.reduceAdd, Nat.reduceSub, Array.replicate_succ, Array.replicate_zero, List.push_toArray, List.append_toArray, List.nil_append, List.cons_append]
  gi_wp2_with (gi_at_fn 40; refine (collect_in (n - 1) (by omega) g lb eg _ N hN hNb _ hseq.bounded).mono ?_; rintro e W ⟨v, ss, rfl, ⟨hS, hlen⟩, hrow, hnil, hb⟩)
  have hc : CallsIn Fence.wide (n - 1) Try.prog 41 _ _ _ := callsIn_wide.2 (sort_keys_row w.heap.size v ss W hrow (by unfold maxLen at hN; omega))
  gi_wp2_with (gi_at_fn 41; refine hc.mono ?_; rintro e w' ⟨rfl, ts, hp, hs, hrow2, hg2⟩)
  go_ret
  have hl := hp.length_eq
  refine ⟨v, ss, ts, rfl, hS, hp, hs, by rw [hl]; exact hrow2, ?_⟩
  exact hb.grown hg2 hb.size (fun j hj => (hrow.lt j hj).1)

/-- slices.SortedFunc at what maps.Keys handed back ('w': the world ahead of maps.Keys' call). -/
theorem sorted_keys (b nn : Nat) (D0 : DataW Value) (hks : ∀ kl, has D0 kl = true → ∃ k, KeyWf k ∧ kl = litKey k) (w : World) (hown : w.ownsMap Try.prog 59 rawElem b nn D0) (hmax : Maps.size D0 ≤ 100000) :
    Calls Try.prog 31 #[.func (.func 42) #[] #[.pointer (some ⟨w.heap.size, 0, none⟩)], .func (.func 33) #[] #[]] (w.alloc (.cells #[.map (some b)] 53)) fun e w' => ∃ (v : Value) (ts : List Key), e = .returned v ∧ KeysAre D0 ts ∧ ts.Pairwise (fun a b => ltKey a b = true) ∧
      w'.ownsRow w.heap.size 59 2 v ts.length (ts.flatMap cellsKey) ∧ Below w.heap.size w w' := by
  have hbl := hown.lt
  have hb0 : Below w.heap.size w (w.alloc (.cells #[.map (some b)] 53)) := (Below.refl _ w).alloc (Nat.le_refl _) _
  have hown' : (w.alloc (.cells #[.map (some b)] 53)).ownsMap Try.prog 59 rawElem b nn D0 := by
    obtain ⟨es, clock, hb, Ft, hs, hD⟩ := hown
    exact ⟨es, clock, (hb0.block b hbl).trans hb, Ft, hs, hD⟩
  have hseq := keys_gives 2 (by omega) w.heap.size b nn D0 hks (w.alloc (.cells #[.map (some b)] 53)) (by simp) (by simp) hown'
  refine callsIn_wide.1 ((sortedFunc_in 5 (by omega) 42 _ (enters_of Try.func42 (by kernel_rfl) rfl) (KeysAre D0) (Maps.size D0) (by unfold maxLen; omega) (by omega) _ hseq).mono ?_)
  rintro e w' ⟨v, ss, ts, rfl, ⟨k1, k2, k3⟩, hp, hs, hrow, hb⟩
  have hnd : ts.Nodup := hp.nodup_iff.2 k1
  refine ⟨v, ts, rfl, ⟨hnd, fun k hk => k2 k (hp.mem_iff.1 hk), fun k hk => by rw [hp.mem_iff, k3 k hk]⟩, ?_, ?_, ?_⟩
  · refine (hs.and hnd).imp ?_
    rintro a b ⟨h1, h2⟩
    simp only [ltKey, decide_eq_false_iff_not, decide_eq_true_eq] at *
    have : ¬ (a.1 = b.1 ∧ a.2 = b.2) := fun e => h2 (Prod.ext e.1 e.2)
    omega
  · refine ⟨hrow.1, hrow.2.imp id ?_⟩
    rintro ⟨g, cap, cur, h1, h2, h3⟩
    exact ⟨g, cap, cur, h1, by simp at h2; omega, h3⟩
  · exact hb0.trans (hb.mono (by simp))
end Go.Proofs.Ytggdanifobagpaa.Ext
