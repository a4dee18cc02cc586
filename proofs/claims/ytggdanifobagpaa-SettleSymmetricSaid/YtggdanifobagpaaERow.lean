/- The arguments of the laws, opened: a slice of records; a matrix of whole numbers. -/
import Derived.Test.YtggdanifobagpaaESort
import Derived.Deep.Slices
import Derived.Deep.Fields
import Derived.Deep.Matrix
import Derived.ChangeSame
import Derived.OpenShut
namespace Go.Proofs.Ytggdanifobagpaa.ExtR
set_option linter.unusedVariables false
set_option linter.unusedSimpArgs false
open Go.RowKit Go.Lib Go.ChangeShapes Go.WideShapes Go.Deep Go.Proofs.Ytggdanifobagpaa.Q Go.Proofs.Ytggdanifobagpaa.Ext Go.Proofs.YtggdanifobagpaaW.PrintWords

theorem cells36T : Try.prog.cellsOf 36 = 8 := by kernel_rfl
theorem recs_none (w : World) : Kd.C k36 w none ([] : List S36).length [] := ⟨rfl, by simp, fun h => by simp at h⟩
theorem rows_none (w : World) : Kd.C (Kd.slice 3 (Kd.int .i64)) w none ([] : List (List Int)).length [] := ⟨rfl, by simp, fun h => by simp at h⟩

section
variable {H : Type} {enc : TypeId × Value → H} {w : World} {base : Nat} {spare : Nat → Bool} {held : Bool}

theorem one_at {cs : List Value} {i : Nat} {v : Value} (h : (cs.drop i).take 1 = [v]) : cs[i]? = some v := by
  have := congrArg (fun l : List Value => l[0]?) h
  simpa [List.getElem?_take] using this
theorem cellsI : Try.prog.cellsOf 3 = 1 := by kernel_rfl
theorem cellsS : Try.prog.cellsOf 9 = 1 := by kernel_rfl
theorem int_at {n i : Nat} {cs : List Value} {ys : List (DataW H × List MemPlace)} (hi : i < ys.length) (h : DataW.trod enc Try.prog w base spare held n 3 ((cs.drop i).take (Try.prog.cellsOf 3)) = ys[i]?) : ∃ z, cs[i]? = some (.int .i64 z) := by
  rw [cellsI, List.getElem?_eq_getElem hi] at h
  obtain ⟨z, h1, _⟩ := DataW.trod_int Try.underlying3 h
  exact ⟨z, one_at h1⟩
theorem str_at {n i : Nat} {cs : List Value} {ys : List (DataW H × List MemPlace)} (hi : i < ys.length) (h : DataW.trod enc Try.prog w base spare held n 9 ((cs.drop i).take (Try.prog.cellsOf 9)) = ys[i]?) : ∃ z, cs[i]? = some (.string z) := by
  rw [cellsS, List.getElem?_eq_getElem hi] at h
  obtain ⟨z, h1, _⟩ := DataW.trod_string Try.underlying9 h
  exact ⟨z, one_at h1⟩
theorem rec_open {fuel : Nat} {cs : List Value} {x : DataW H × List MemPlace} (h : DataW.trod enc Try.prog w base spare held fuel 36 cs = some x) : ∃ r : S36, cs = cells36 r := by
  obtain ⟨ys, n, _, _, hlen, hys, hf⟩ := DataW.trod_struct Try.underlying36 h
  rw [cells36T] at hlen
  have hl : ys.length = 8 := hys
  obtain ⟨z0, h0⟩ := int_at (i := 0) (by omega) (hf 0 _ rfl)
  obtain ⟨z1, h1⟩ := int_at (i := 1) (by omega) (hf 1 _ rfl)
  obtain ⟨z2, h2⟩ := int_at (i := 2) (by omega) (hf 2 _ rfl)
  obtain ⟨z3, h3⟩ := str_at (i := 3) (by omega) (hf 3 _ rfl)
  obtain ⟨z4, h4⟩ := int_at (i := 4) (by omega) (hf 4 _ rfl)
  obtain ⟨z5, h5⟩ := int_at (i := 5) (by omega) (hf 5 _ rfl)
  obtain ⟨z6, h6⟩ := int_at (i := 6) (by omega) (hf 6 _ rfl)
  obtain ⟨z7, h7⟩ := int_at (i := 7) (by omega) (hf 7 _ rfl)
  refine ⟨⟨z0, z1, z2, z3, z4, z5, z6, z7⟩, List.ext_getElem? fun i => ?_⟩
  by_cases hi : i < 8
  · have hc : i = 0 ∨ i = 1 ∨ i = 2 ∨ i = 3 ∨ i = 4 ∨ i = 5 ∨ i = 6 ∨ i = 7 := by omega
    rcases hc with rfl | rfl | rfl | rfl | rfl | rfl | rfl | rfl
    · exact h0
    · exact h1
    · exact h2
    · exact h3
    · exact h4
    · exact h5
    · exact h6
    · exact h7
  · rw [List.getElem?_eq_none (by omega), List.getElem?_eq_none (by simp [cells36]; omega)]

theorem recs_open {fuel : Nat} {cs : List Value} {x : DataW H × List MemPlace} (h : DataW.trod enc Try.prog w base (fun _ => true) held fuel 22 cs = some x) :
    cs = [.slice none 0 0] ∨ ∃ (a : Addr) (len cap : Nat) (l : List S36), cs = [.slice (some a) len cap] ∧ l.length = len ∧ len ≤ cap ∧ Kd.C k36 w (some a) len l := by
  rcases open_slice Try.underlying22 h with ⟨h0, _⟩ | ⟨a, len, cap, m, n, D, Pl, rfl, hb, hl, hm, hmm, hx, hi⟩
  · exact .inl h0
  · right
    simp only [if_true] at hmm
    have hmm' := hmm.symm
    subst hmm'
    have each : ∀ i, i < len → ∃ r : S36, ∀ j u, (cells36 r)[j]? = some u → w.cell? (a.add (i * 8 + j)) = some u := by
      intro i hil
      obtain ⟨cs', h1, h2⟩ := hi i (by omega)
      obtain ⟨r, rfl⟩ := rec_open h2
      rw [cells36T] at h1
      obtain ⟨_, _, hat⟩ := World.cells?_some h1
      refine ⟨r, fun j u hj => ?_⟩
      have hjl : j < 8 := by
        have := (List.getElem?_eq_some_iff.1 hj).1
        simpa [cells36] using this
      have := hat j hjl
      rw [Go.Deep.add_add] at this
      exact this.trans hj
    obtain ⟨f, hf⟩ := choose_lt each
    refine ⟨a, len, cap, (List.range len).map f, rfl, by simp, hl, by simp, ?_, fun _ => ⟨a, rfl, fun j p hj => ?_⟩⟩
    · have : maxLen ≤ 9223372036854775807 := by decide
      omega
    · have hjl : j < len := by
        have := (List.getElem?_eq_some_iff.1 hj).1
        simpa using this
      have e : p = f j := by simpa [hjl] using hj.symm
      subst e
      exact ⟨cells36 (f j), rfl, k36_mk w (f j), hf j hjl⟩
theorem mat_open {fuel : Nat} {cs : List Value} {x : DataW H × List MemPlace} (h : DataW.trod enc Try.prog w base (fun _ => true) held fuel 45 cs = some x) :
    cs = [.slice none 0 0] ∨ ∃ (a : Addr) (len cap : Nat) (l : List (List Int)), cs = [.slice (some a) len cap] ∧ l.length = len ∧ len ≤ cap ∧ Kd.C (Kd.slice 3 (Kd.int .i64)) w (some a) len l := by
  rcases open_int_rows Try.underlying45 Try.underlying25 Try.underlying3 (by kernel_rfl) (by kernel_rfl) h with ⟨h0, _⟩ | ⟨a, len, cap, A, L, C, Z, rfl, hb, hl, hm, hx, hi⟩
  · exact .inl h0
  · right
    refine ⟨a, len, cap, (List.range len).map fun r => (Z r).take (L r), rfl, by simp, hl, by simp, ?_, fun _ => ⟨a, rfl, fun j p hj => ?_⟩⟩
    · have : maxLen ≤ 9223372036854775807 := by decide
      omega
    · have hjl : j < len := by
        have := (List.getElem?_eq_some_iff.1 hj).1
        simpa using this
      have e : p = (Z j).take (L j) := by simpa [hjl] using hj.symm
      subst e
      obtain ⟨hc, hL, hC, hz, _, hn, hs⟩ := hi j (by omega)
      have hlen : ((Z j).take (L j)).length = L j := by rw [List.length_take]; omega
      have hml : maxLen ≤ 9223372036854775807 := by decide
      refine ⟨[.slice (A j) (L j) (C j)], rfl, ⟨A j, C j, by rw [hlen], by omega, rfl, by omega, fun hpos => ?_⟩, fun i u hu => ?_⟩
      · rw [hlen] at hpos
        cases hA : A j with
        | none => have := hn hA; omega
        | some a' =>
          refine ⟨a', rfl, fun i q hq => ⟨[.int .i64 q], rfl, rfl, fun i' u hu => ?_⟩⟩
          have hil : i < L j := by
            have := (List.getElem?_eq_some_iff.1 hq).1
            omega
          have hi' : i' = 0 := by
            have := (List.getElem?_eq_some_iff.1 hu).1
            simp at this
            omega
          subst hi'
          have hu' : u = .int .i64 q := by simpa using hu.symm
          subst hu'
          have hc2 := (hs a' hA).2 i (by omega)
          have hq' : (Z j).getD i 0 = q := by
            rw [List.getElem?_take_of_lt hil] at hq
            rw [List.getD_eq_getElem?_getD, hq]
            rfl
          rw [hq'] at hc2
          show w.cell? (a'.add (i * 1 + 0)) = _
          rw [Nat.mul_one, Nat.add_zero]
          exact hc2
      · have hi' : i = 0 := by
          have := (List.getElem?_eq_some_iff.1 hu).1
          simp at this
          omega
        subst hi'
        have hu' : u = .slice (A j) (L j) (C j) := by simpa using hu.symm
        subst hu'
        show w.cell? (a.add (j * 1 + 0)) = _
        rw [Nat.mul_one, Nat.add_zero]
        exact hc
theorem recs_arg {fuel : Nat} {A : Option Addr} {len cap : Nat} {x : DataW H × List MemPlace} (h : DataW.trod enc Try.prog w base (fun _ => true) held fuel 22 (Value.cells (.slice A len cap)).toList = some x) :
    ∃ l : List S36, Kd.C k36 w A l.length l ∧ l.length = len ∧ len ≤ cap := by
  rcases recs_open h with hcs | ⟨a, len', cap', l, hcs, hl, hc, hC⟩
  · simp [Value.cells] at hcs
    obtain ⟨rfl, rfl, rfl⟩ := hcs
    exact ⟨[], recs_none w, rfl, Nat.le_refl _⟩
  · simp [Value.cells] at hcs
    obtain ⟨rfl, rfl, rfl⟩ := hcs
    exact ⟨l, hl ▸ hC, hl, hc⟩
theorem mat_arg {fuel : Nat} {A : Option Addr} {len cap : Nat} {x : DataW H × List MemPlace} (h : DataW.trod enc Try.prog w base (fun _ => true) held fuel 45 (Value.cells (.slice A len cap)).toList = some x) :
    ∃ l : List (List Int), Kd.C (Kd.slice 3 (Kd.int .i64)) w A l.length l ∧ l.length = len ∧ len ≤ cap := by
  rcases mat_open h with hcs | ⟨a, len', cap', l, hcs, hl, hc, hC⟩
  · simp [Value.cells] at hcs
    obtain ⟨rfl, rfl, rfl⟩ := hcs
    exact ⟨[], rows_none w, rfl, Nat.le_refl _⟩
  · simp [Value.cells] at hcs
    obtain ⟨rfl, rfl, rfl⟩ := hcs
    exact ⟨l, hl ▸ hC, hl, hc⟩
end
end Go.Proofs.Ytggdanifobagpaa.ExtR
