/- What digits.Shorten answers, for every three strings: the first of the forms that is dialled to the number. -/
import Derived.Test.YtajddminbfiipaaEShort
import Derived.RangeFuncBox
namespace Go.Proofs.Ytajddminbfiipaa.Ext
set_option linter.unusedVariables false
set_option linter.unusedSimpArgs false
open Go.Shelf Go.RowKit Go.Lib
attribute [local go_sem] Oper.semAt_some

theorem forms_in (m : Nat) (n c a : ByteArray) (w : World) :
    CallsIn Fence.wide m Try.prog 34 #[.string n, .string c, .string a] w fun e w' =>
      e = .returned (.func (.func 47) #[] #[.pointer (some ⟨w.heap.size, 0, none⟩), .pointer (some ⟨w.heap.size + 1, 0, none⟩), .pointer (some ⟨w.heap.size + 2, 0, none⟩)]) ∧
      w' = ((w.alloc (.cells #[.string n] 9)).alloc (.cells #[.string c] 9)).alloc (.cells #[.string a] 9) := by
  refine callsIn_of_wp Try.func34 rfl trivial ?_ rfl
  simp only [Try.ntmps34, List.size_toArray, List.length_cons, List.length_nil, Nat.reduceAdd, Nat.reduceSub, Array.replicate_succ, Array.replicate_zero, List.push_toArray, List.append_toArray, List.nil_append, List.cons_append]
  gi_wp2
  go_ret
  exact ⟨rfl, rfl⟩

theorem ne_toList {x y : ByteArray} (h : x ≠ y) : (x.toList == y.toList) = false := by
  rw [toList_eq, toList_eq]
  cases hh : (x.data.toList == y.data.toList) with
  | false => rfl
  | true =>
    have := beq_iff_eq.1 hh
    exact absurd (ByteArray.ext (Array.toList_inj.1 this)) h

def eqB (x y : ByteArray) : Bool := x.data.toList == y.data.toList
theorem eqB_iff {x y : ByteArray} : eqB x y = true ↔ x = y := by
  unfold eqB
  rw [beq_iff_eq]
  exact ⟨fun h => ByteArray.ext (Array.toList_inj.1 h), fun h => by rw [h]⟩
theorem eqB_ne {x y : ByteArray} (h : x ≠ y) : eqB x y = false := by
  cases e : eqB x y with
  | false => rfl
  | true => exact absurd (eqB_iff.1 e) h

theorem find_first {α : Type} {p : α → Bool} {l p0 : List α} {x : α} (h : p0 ++ [x] <+: l) (h0 : ∀ y ∈ p0, p y = false) (hx : p x = true) : l.find? p = some x := by
  obtain ⟨rest, rfl⟩ := h
  rw [List.append_assoc, List.find?_append]
  have : p0.find? p = none := by rw [List.find?_eq_none]; intro y hy; rw [h0 y hy]; decide
  rw [this]
  simp [hx]
def pick (o : Option ByteArray) : ByteArray × Int := match o with
  | some s => (s, 0)
  | none => (ByteArray.empty, 60)

def shortenB (n c a : ByteArray) : ByteArray × Int :=
  if (onlyB n 1 15 && (onlyB c 1 15 && onlyB a 0 15)) = true then
    pick ((cands n c a).find? (fun x => eqB (fullB x c a) n))
  else (ByteArray.empty, 60)
def digits_Shorten.f (a0 : ByteArray) (a1 : ByteArray) (a2 : ByteArray) : Option (ByteArray × Int) := some (shortenB a0 a1 a2)

theorem only_size {s : ByteArray} {a b : Int} (h : onlyB s a b = true) : (s.size : Int) ≤ b := by
  simp only [onlyB, Bool.and_eq_true, decide_eq_true_eq] at h; exact h.2.1

/-- The five boxes of a call of Shorten. -/
structure Boxes (w W : World) (n c a : ByteArray) : Prop where
  c0 : W.cell? ⟨w.heap.size, 0, none⟩ = some (.string n)
  c1 : W.cell? ⟨w.heap.size + 1, 0, none⟩ = some (.string c)
  c2 : W.cell? ⟨w.heap.size + 1 + 1, 0, none⟩ = some (.string a)
  c3 : W.cell? ⟨w.heap.size + 1 + 1 + 1, 0, none⟩ = some (.string ⟨#[]⟩)
  c4 : W.cell? ⟨w.heap.size + 1 + 1 + 1 + 1, 0, none⟩ = some (.int .i64 0)
  f3 : W.frozen? ⟨w.heap.size + 1 + 1 + 1, 0, none⟩ = false
  f4 : W.frozen? ⟨w.heap.size + 1 + 1 + 1 + 1, 0, none⟩ = false
  low : Below w.heap.size w W
  sz : w.heap.size + 5 ≤ W.heap.size

theorem Boxes.made (w : World) (n c a : ByteArray) : Boxes w (((((w.alloc (.cells #[.string n] 9)).alloc (.cells #[.string c] 9)).alloc (.cells #[.string a] 9)).alloc (.cells #[.string ⟨#[]⟩] 9)).alloc (.cells #[.int .i64 0] 24)) n c a where
  c0 := by simp [go_sem]
  c1 := by simp [go_sem]
  c2 := by simp [go_sem]
  c3 := by simp [go_sem]
  c4 := by simp [go_sem]
  f3 := by simp [go_sem]
  f4 := by simp [go_sem]
  low := ((((((Below.refl _ w).alloc (Nat.le_refl _) _).alloc (by simp) _).alloc (by simp; omega) _).alloc (by simp; omega) _).alloc (by simp; omega) _)
  sz := by simp

theorem Boxes.later {w W W' : World} {n c a : ByteArray} (h : Boxes w W n c a) (hb : Below W.heap.size W W') : Boxes w W' n c a where
  c0 := (hb.cell (p := ⟨w.heap.size, 0, none⟩) (by have := h.sz; simp; omega)).trans h.c0
  c1 := (hb.cell (p := ⟨w.heap.size + 1, 0, none⟩) (by have := h.sz; simp; omega)).trans h.c1
  c2 := (hb.cell (p := ⟨w.heap.size + 1 + 1, 0, none⟩) (by have := h.sz; simp; omega)).trans h.c2
  c3 := (hb.cell (p := ⟨w.heap.size + 1 + 1 + 1, 0, none⟩) (by have := h.sz; simp; omega)).trans h.c3
  c4 := (hb.cell (p := ⟨w.heap.size + 1 + 1 + 1 + 1, 0, none⟩) (by have := h.sz; simp; omega)).trans h.c4
  f3 := (hb.frozen (p := ⟨w.heap.size + 1 + 1 + 1, 0, none⟩) (by have := h.sz; simp; omega)).trans h.f3
  f4 := (hb.frozen (p := ⟨w.heap.size + 1 + 1 + 1 + 1, 0, none⟩) (by have := h.sz; simp; omega)).trans h.f4
  low := h.low.trans (hb.mono h.low.size)
  sz := Nat.le_trans h.sz hb.size

set_option maxHeartbeats 2000000 in
set_option maxRecDepth 100000 in
theorem shorten_any (n c a : ByteArray) (w : World) :
    Calls Try.prog 16 #[.string n, .string c, .string a] w fun e w' => e = .returned (.tuple #[.string (shortenB n c a).1, .int .i64 (shortenB n c a).2]) ∧ Below w.heap.size w w' := by
  have hV := fun W => callsIn_wide (n := 9).2 (valid_calls n W)
  have hH := fun W => callsIn_wide (n := 9).2 (home_calls c a W)
  refine (callsIn_wide (n := 10)).1 ?_
  refine callsIn_of_wp_marks Try.func16 rfl trivial ?_ rfl
  simp only [Try.ntmps16, List.size_toArray, List.length_cons, List.length_nil, Nat.reduceAdd, Nat.reduceSub, Array.replicate_succ, Array.replicate_zero, List.push_toArray, List.append_toArray, List.nil_append, List.cons_append]
  have f18 : Fence.wide.fn 18 := trivial
  have f30 : Fence.wide.fn 30 := trivial
  have f34 : Fence.wide.fn 34 := trivial
  by_cases hv : onlyB n 1 15 = true
  · rw [hv] at hV
    by_cases hh : (onlyB c 1 15 && onlyB a 0 15) = true
    · have hs : n.size + c.size + a.size ≤ 45 := by
        have s1 := only_size hv
        simp only [Bool.and_eq_true] at hh
        have s2 := only_size hh.1
        have s3 := only_size hh.2
        omega
      have e : shortenB n c a = pick ((cands n c a).find? (fun x => eqB (fullB x c a) n)) := by simp only [shortenB, hv, hh, Bool.and_self, if_true]
      rw [e]
      generalize hres : pick ((cands n c a).find? (fun x => eqB (fullB x c a) n)) = res
      have HR := Lib.hid hres
      clear hres
      rw [hh] at hH
      clear e hv hh
      gi_wp2_with (first
        | (gi_at_call 18; refine (hV _).mono ?_; rintro e w1 ⟨rfl, hb⟩; have bx := (Boxes.made w n c a).later hb; clear hb; obtain ⟨c0, c1, c2, c3, c4, f3, f4, low, sz⟩ := bx)
        | (gi_at_call 30; refine (hH _).mono ?_; rintro e w2 ⟨rfl, hb⟩; have bx := (Boxes.mk c0 c1 c2 c3 c4 f3 f4 low sz).later hb; clear hb c0 c1 c2 c3 c4 f3 f4 low sz; obtain ⟨c0, c1, c2, c3, c4, f3, f4, low, sz⟩ := bx)
        | (gi_at_call 34; refine (forms_in _ n c a _).mono ?_; rintro e w3 ⟨rfl, hw3⟩))
      rw [← hw3]
      have bx2 := Boxes.mk c0 c1 c2 c3 c4 f3 f4 low sz
      clear c0 c1 c2 c3 c4 f3 f4 low sz
      have hb3 : Below w2.heap.size w2 w3 := by rw [hw3]; exact ((((Below.refl _ w2).alloc (Nat.le_refl _) _).alloc (by simp) _).alloc (by simp; omega) _)
      have d0 : w3.cell? ⟨w2.heap.size, 0, none⟩ = some (.string n) := by rw [hw3]; simp [go_sem]
      have d1 : w3.cell? ⟨w2.heap.size + 1, 0, none⟩ = some (.string c) := by rw [hw3]; simp [go_sem]
      have d2 : w3.cell? ⟨w2.heap.size + 2, 0, none⟩ = some (.string a) := by rw [hw3]; simp [go_sem]
      have dz : w2.heap.size + 3 = w3.heap.size := by rw [hw3]; simp
      clear hw3
      have bx3 := bx2.later hb3
      refine wpIn_rangeFunc_ownF rfl (by omega) (gf := 47) (lb := #[.pointer (some ⟨w2.heap.size, 0, none⟩), .pointer (some ⟨w2.heap.size + 1, 0, none⟩), .pointer (some ⟨w2.heap.size + 2, 0, none⟩)]) rfl trivial (enters_of Try.func47 (by kernel_rfl) rfl)
        (forms_stops 9 (by omega) w2.heap.size w3.heap.size n c a w3 (by omega) (by omega) (Nat.le_refl _) (by omega) d0 d1 d2) belowK_t (belowK_b (Nat.le_refl _)) (Below.refl _ _) (fun _ => rfl)
        (fun pre W => Below w3.heap.size w3 W ∧ ∀ x ∈ pre, fullB x.1 c a ≠ n)
        (fun cd pre W => (cd = Code.ret ∧ ∃ (p0 : List (Cand n c a)) (x : Cand n c a), pre = p0 ++ [x] ∧ (∀ y ∈ p0, fullB y.1 c a ≠ n) ∧ fullB x.1 c a = n ∧
          W.cell? ⟨w.heap.size + 1 + 1 + 1, 0, none⟩ = some (.string x.1) ∧ W.cell? ⟨w.heap.size + 1 + 1 + 1 + 1, 0, none⟩ = some (.int .i64 0)) ∧ Below w.heap.size w W)
        ((ownFrom_below (Nat.le_refl _) (Nat.le_refl _)).and (ownFrom_pure _ _))
        (fun cd => OwnFrom.and (Own.from (fun s A B row hs hg hr => by
          obtain ⟨h1, p0, x, h2, h3, h4, h5, h6⟩ := hs
          exact ⟨h1, p0, x, h2, h3, h4, cell_kept h5 hg hr, cell_kept h6 hg hr⟩) _) (ownFrom_below (Nat.le_refl _) bx3.low.size))
        ⟨Below.refl _ _, by simp⟩
        (fun x => { tmps := #[.string n, .string c, .string a, .pointer (some ⟨w.heap.size, 0, none⟩), .pointer (some ⟨w.heap.size + 1, 0, none⟩), .pointer (some ⟨w.heap.size + 1 + 1, 0, none⟩),
          .pointer (some ⟨w.heap.size + 1 + 1 + 1, 0, none⟩), .pointer (some ⟨w.heap.size + 1 + 1 + 1 + 1, 0, none⟩), .string x.1, .string n, .bool true, .bool true, .string c, .string a, .bool true, .bool true,
          .string n, .string c, .string a, .func (.func 47) #[] #[.pointer (some ⟨w2.heap.size, 0, none⟩), .pointer (some ⟨w2.heap.size + 1, 0, none⟩), .pointer (some ⟨w2.heap.size + 2, 0, none⟩)],
          .string x.1, undef, undef, undef, undef, undef, undef, undef], defers := [] }) ?assign ?body ?done ?stop
      case assign =>
        intro l x W K hK
        gi_wp2
        exact hK
      case body =>
        rintro l pre x W ⟨hbW, hpre⟩ _
        have xs := cand_size x
        obtain ⟨c0, c1, c2, c3, c4, f3, f4, low, sz⟩ := bx3.later hbW
        have hF := fun m W => CallsIn.inRound l (callsIn_wide (n := m).2 (full_calls x.1 c a W (by omega)))
        have hmx : Try.prog.follows .mixedOrders = true := by kernel_rfl
        have f31 : Fence.wide.fn 31 := trivial
        by_cases he : fullB x.1 c a = n
        · rw [he] at hF
          have hp1 := KeepsOthers.refl W
          gi_wp2
          gi_region_with_o (gi_at_call 31; refine (hF _ _).mono ?_; rintro e w' ⟨rfl, rfl⟩)
          all_goals gi_wp2
          all_goals (try go_bits)
          all_goals exact ⟨((KeepsOthers.setCell _ _ _).trans (KeepsOthers.setCell _ _ _)).trans (KeepsOthers.drew _), ⟨rfl, pre, x, rfl, hpre, he, by simp [go_sem, c3], by simp [go_sem, c4]⟩,
            ((low.setCell (p := ⟨w.heap.size + 1 + 1 + 1, 0, none⟩) (by simp; omega) _).setCell (p := ⟨w.heap.size + 1 + 1 + 1 + 1, 0, none⟩) (by simp; omega) _).drew⟩
        · obtain ⟨r, hr⟩ : ∃ r, fullB x.1 c a = r := ⟨_, rfl⟩
          have hne : (r.toList == n.toList) = false := by
            rw [← hr]; exact ne_toList he
          have hall : ∀ y ∈ pre ++ [x], fullB y.1 c a ≠ n := by
            intro y hy
            rcases List.mem_append.1 hy with h | h
            · exact hpre y h
            · rw [List.mem_singleton.1 h]; exact he
          rw [hr] at hF
          clear hr he hpre
          gi_wp2
          gi_region_with_o (gi_at_call 31; refine (hF _ _).mono ?_; rintro e w' ⟨rfl, rfl⟩)
          all_goals gi_wp2
          all_goals (try go_bits)
          all_goals exact ⟨KeepsOthers.drew _, (Below.refl _ _).drew, hbW.drew, hall⟩
      case done =>
        rintro D xs W hD hxs ⟨hbW, hall⟩ hK
        have bxW := bx3.later hbW
        obtain ⟨c0, c1, c2, c3, c4, f3, f4, low, sz⟩ := bxW
        have hr : res = (ByteArray.empty, 60) := by
          rw [← HR.out, show (cands n c a).find? (fun x => eqB (fullB x c a) n) = none from ?_]
          · rfl
          · rw [List.find?_eq_none]
            intro y hy hh
            rw [← hxs] at hy
            obtain ⟨z, hz, rfl⟩ := List.mem_map.1 hy
            exact hall z hz (eqB_iff.1 hh)
        have Hr := Lib.hid hr
        clear hr hall hxs bx2
        gi_wp2
        refine ⟨by simp, .inl ⟨_, _, rfl, run_takeDeferred (w := (W.setCell _ _).setCell _ _) ((KeepsOthers.setCell _ _ _).same D _ ((KeepsOthers.setCell _ _ _).same D _ hK rfl) rfl), ?_⟩⟩
        have hK2 : (((W.setCell ⟨w.heap.size + 1 + 1 + 1, 0, none⟩ (.string ⟨#[]⟩)).setCell ⟨w.heap.size + 1 + 1 + 1 + 1, 0, none⟩ (.int .i64 60))).heap[D]? = some (.deferred (some [])) := (KeepsOthers.setCell _ _ _).same D _ ((KeepsOthers.setCell _ _ _).same D _ hK rfl) rfl
        have e5 : (((W.setCell ⟨w.heap.size + 1 + 1 + 1, 0, none⟩ (.string ⟨#[]⟩)).setCell ⟨w.heap.size + 1 + 1 + 1 + 1, 0, none⟩ (.int .i64 60))).cell? ⟨w.heap.size + 1 + 1 + 1, 0, none⟩ = some (.string ⟨#[]⟩) := by simp [go_sem, c3]
        have e6 : (((W.setCell ⟨w.heap.size + 1 + 1 + 1, 0, none⟩ (.string ⟨#[]⟩)).setCell ⟨w.heap.size + 1 + 1 + 1 + 1, 0, none⟩ (.int .i64 60))).cell? ⟨w.heap.size + 1 + 1 + 1 + 1, 0, none⟩ = some (.int .i64 60) := by simp [go_sem, c4]
        have e7 : Below w.heap.size w ((W.setCell ⟨w.heap.size + 1 + 1 + 1, 0, none⟩ (.string ⟨#[]⟩)).setCell ⟨w.heap.size + 1 + 1 + 1 + 1, 0, none⟩ (.int .i64 60)) :=
          (low.setCell (p := ⟨w.heap.size + 1 + 1 + 1, 0, none⟩) (by simp; omega) _).setCell (p := ⟨w.heap.size + 1 + 1 + 1 + 1, 0, none⟩) (by simp; omega) _
        generalize ((W.setCell ⟨w.heap.size + 1 + 1 + 1, 0, none⟩ (.string ⟨#[]⟩)).setCell ⟨w.heap.size + 1 + 1 + 1 + 1, 0, none⟩ (.int .i64 60)) = V at hK2 e5 e6 e7 ⊢
        have k5 := cell_kept e5 (grownBy_putObj' V D (.deferred none)) (fun r e => by cases e; exact ⟨_, hK2, rfl⟩)
        have k6 := cell_kept e6 (grownBy_putObj' V D (.deferred none)) (fun r e => by cases e; exact ⟨_, hK2, rfl⟩)
        have klow : Below w.heap.size w (V.putObj D (.deferred none)) := e7.trans (belowK_b (w := w) (Nat.le_refl _) V D _ _ (by have := bx3.sz; omega) hK2 rfl rfl)
        refine ⟨.tuple #[.string ⟨#[]⟩, .int .i64 60], ?_, by rw [Hr.out]; rfl, klow⟩
        simp [results, Try.results16, go_sem, k5, k6]
      case stop =>
        rintro D cd pre W hD hpre ⟨⟨rfl, p0, x, rfl, hp0, he, h5, h6⟩, low⟩ hK
        have hr : res = (x.1, 0) := by
          rw [← HR.out, find_first (p := fun x => eqB (fullB x c a) n) (p0 := p0.map (·.1)) (x := x.1) (by simpa using hpre) ?_ (eqB_iff.2 he)]
          · rfl
          · intro y hy
            obtain ⟨z, hz, rfl⟩ := List.mem_map.1 hy
            exact eqB_ne (hp0 z hz)
        have Hr := Lib.hid hr
        clear hr hpre hp0 he bx2
        gi_wp2
        refine ⟨by simp, .inl ⟨_, _, rfl, run_takeDeferred hK, ?_⟩⟩
        have k5 := cell_kept h5 (grownBy_putObj' W D (.deferred none)) (fun r e => by cases e; exact ⟨_, hK, rfl⟩)
        have k6 := cell_kept h6 (grownBy_putObj' W D (.deferred none)) (fun r e => by cases e; exact ⟨_, hK, rfl⟩)
        have klow : Below w.heap.size w (W.putObj D (.deferred none)) := low.trans (belowK_b (w := w) (Nat.le_refl _) W D _ _ (by have := bx3.sz; omega) hK rfl rfl)
        refine ⟨.tuple #[.string x.1, .int .i64 0], ?_, by rw [Hr.out], klow⟩
        simp [results, Try.results16, go_sem, k5, k6]
    · have e : shortenB n c a = (ByteArray.empty, 60) := by simp [shortenB, hh]
      rw [e]
      have hh' : (onlyB c 1 15 && onlyB a 0 15) = false := by simpa using hh
      rw [hh'] at hH
      gi_wp2_with (first
        | (gi_at_call 18; refine (hV _).mono ?_; rintro e w1 ⟨rfl, hb⟩; have bx := (Boxes.made w n c a).later hb; clear hb; obtain ⟨c0, c1, c2, c3, c4, f3, f4, low, sz⟩ := bx)
        | (gi_at_call 30; refine (hH _).mono ?_; rintro e w2 ⟨rfl, hb⟩; have bx := (Boxes.mk c0 c1 c2 c3 c4 f3 f4 low sz).later hb; clear hb c0 c1 c2 c3 c4 f3 f4 low sz; obtain ⟨c0, c1, c2, c3, c4, f3, f4, low, sz⟩ := bx))
      have hlow : Below w.heap.size w ((w2.setCell { block := w.heap.size + 1 + 1 + 1, off := 0 } (Value.string { data := #[] })).setCell { block := w.heap.size + 1 + 1 + 1 + 1, off := 0 } (Value.int IntKind.i64 60)) :=
        (low.setCell (p := ⟨w.heap.size + 1 + 1 + 1, 0, none⟩) (by simp; omega) _).setCell (p := ⟨w.heap.size + 1 + 1 + 1 + 1, 0, none⟩) (by simp; omega) _
      refine ⟨.tuple #[.string ⟨#[]⟩, .int .i64 60], ?_, rfl, hlow⟩
      simp [results, Try.results16, go_sem, c3, c4]
  · have e : shortenB n c a = (ByteArray.empty, 60) := by simp [shortenB, hv]
    rw [e]
    have hv' : onlyB n 1 15 = false := by simpa using hv
    rw [hv'] at hV
    gi_wp2_with (gi_at_call 18; refine (hV _).mono ?_; rintro e w' ⟨rfl, hb⟩; have bx := (Boxes.made w n c a).later hb; clear hb; obtain ⟨c0, c1, c2, c3, c4, f3, f4, low, sz⟩ := bx)
    have hlow : Below w.heap.size w ((w'.setCell { block := w.heap.size + 1 + 1 + 1, off := 0 } (Value.string { data := #[] })).setCell { block := w.heap.size + 1 + 1 + 1 + 1, off := 0 } (Value.int IntKind.i64 60)) :=
      (low.setCell (p := ⟨w.heap.size + 1 + 1 + 1, 0, none⟩) (by simp; omega) _).setCell (p := ⟨w.heap.size + 1 + 1 + 1 + 1, 0, none⟩) (by simp; omega) _
    refine ⟨.tuple #[.string ⟨#[]⟩, .int .i64 60], ?_, rfl, hlow⟩
    simp [results, Try.results16, go_sem, c3, c4]

theorem digits_Shorten.calls (a0 : ByteArray) (a1 : ByteArray) (a2 : ByteArray) (r1 : ByteArray) (r2 : Int) (w : World) (h : digits_Shorten.f a0 a1 a2 = some (r1, r2)) :
    Calls Try.prog 16 #[.string a0, .string a1, .string a2] w fun e w' => e = .returned (.tuple #[.string r1, .int .i64 r2]) ∧ Below w.heap.size w w' := by
  have h' : shortenB a0 a1 a2 = (r1, r2) := by simpa [digits_Shorten.f] using h
  have := shorten_any a0 a1 a2 w
  rw [h'] at this
  exact this
end Go.Proofs.Ytajddminbfiipaa.Ext
