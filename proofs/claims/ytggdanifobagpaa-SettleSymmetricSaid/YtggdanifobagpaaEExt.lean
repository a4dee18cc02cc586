/- The contracts that the print meets. -/
import Derived.Test.YtggdanifobagpaaShelf
import Derived.Test.YtggdanifobagpaaWWords
import Derived.Test.YtggdanifobagpaaEMatchAll
import Derived.Test.YtggdanifobagpaaEMirs
import Derived.Test.YtggdanifobagpaaESaneP
namespace Go.Proofs.Ytggdanifobagpaa.Ext
set_option linter.unusedVariables false
set_option linter.unusedSimpArgs false
open Go.RowKit Go.Proofs.YtggdanifobagpaaW.PrintWords

/-- A row of whole numbers that is read: where its cells lie. -/
theorem ints_at {w : World} {A : Option Addr} {n : Nat} {l : List Int} (h : Kd.C (Kd.int .i64) w A n l) (hn : 0 < n) :
    ∃ b off, A = some ⟨b, off, none⟩ ∧ ∀ j, j < l.length → w.cell? ⟨b, off + j, none⟩ = some (.int .i64 (l.getD j 0)) := by
  have hlen := h.1
  have hcells : ∀ j, j < l.length → ∃ ad, A = some ad ∧ w.cell? (ad.add j) = some (.int .i64 (l.getD j 0)) := by
    intro j hj
    obtain ⟨ad, e, hc⟩ := h.2.2 hn
    obtain ⟨c, hs, hr, hcell⟩ := hc j _ (List.getElem?_eq_getElem hj)
    have hr' : c = [.int .i64 l[j]] := hr
    subst hr'
    have h1 := hcell 0 (.int .i64 l[j]) rfl
    refine ⟨ad, e, ?_⟩
    have e1 : l.getD j 0 = l[j] := by rw [List.getD_eq_getElem?_getD, List.getElem?_eq_getElem hj]; rfl
    rw [e1, ← h1]
    show w.cell? (ad.add j) = w.cell? (ad.add (j * 1 + 0))
    rw [Nat.mul_one, Nat.add_zero]
  obtain ⟨⟨b, off, sp⟩, rfl, h0⟩ := hcells 0 (by omega)
  have hs : sp = none := by
    cases sp with
    | none => rfl
    | some k =>
      simp only [Addr.add, if_true, World.cell?, Option.isSome] at h0
      split at h0 <;> simp at h0
  subst hs
  refine ⟨b, off, rfl, fun j hj => ?_⟩
  obtain ⟨ad, e1, e2⟩ := hcells j hj
  cases e1
  rw [← e2]
  unfold Addr.add
  split
  · rename_i h; subst h; rfl
  · rfl

def slices_Min_int_int.f (l0 : List Int) : Option Int := if 0 < l0.length then some (Lib.minOf l0) else none
theorem slices_Min_int_int.calls (A0 : Option Addr) (c0 : Nat) (l0 : List Int) (r : Int) (w : World) (hr0 : Kd.C (Kd.int .i64) w A0 l0.length l0) (hc0 : l0.length ≤ c0) (h : slices_Min_int_int.f l0 = some r) :
    Calls Try.prog 38 #[.slice A0 l0.length c0] w fun e w' => e = .returned (.int .i64 r) ∧ Below w.heap.size w w' := by
  unfold slices_Min_int_int.f at h
  split at h
  next hn =>
    obtain ⟨b, off, rfl, hc⟩ := ints_at hr0 hn
    have h1 := Try.slices_Min_int b off l0.length c0 l0 w hn (Nat.le_refl _) hr0.2.1 hc
    rw [List.take_length] at h1
    refine h1.mono ?_
    rintro e w' ⟨rfl, rfl⟩
    injection h with h
    exact ⟨by rw [h], Below.refl _ _⟩
  next => cases h
def slices_Max_int_int.f (l0 : List Int) : Option Int := if 0 < l0.length then some (Lib.maxOf l0) else none
theorem slices_Max_int_int.calls (A0 : Option Addr) (c0 : Nat) (l0 : List Int) (r : Int) (w : World) (hr0 : Kd.C (Kd.int .i64) w A0 l0.length l0) (hc0 : l0.length ≤ c0) (h : slices_Max_int_int.f l0 = some r) :
    Calls Try.prog 39 #[.slice A0 l0.length c0] w fun e w' => e = .returned (.int .i64 r) ∧ Below w.heap.size w w' := by
  unfold slices_Max_int_int.f at h
  split at h
  next hn =>
    obtain ⟨b, off, rfl, hc⟩ := ints_at hr0 hn
    have h1 := Try.slices_Max_int b off l0.length c0 l0 w hn (Nat.le_refl _) hr0.2.1 hc
    rw [List.take_length] at h1
    refine h1.mono ?_
    rintro e w' ⟨rfl, rfl⟩
    injection h with h
    exact ⟨by rw [h], Below.refl _ _⟩
  next => cases h
end Go.Proofs.Ytggdanifobagpaa.Ext
namespace Go.Proofs.Ytggdanifobagpaa.Ext
open Go.RowKit Go.Lib Go.Proofs.Ytggdanifobagpaa.Q Go.Proofs.YtggdanifobagpaaW.PrintWords
def crossbarlaw31_sane.f : Option Bool := some true
theorem crossbarlaw31_sane.calls (r : Bool) (w : World) (h : crossbarlaw31_sane.f = some r) : Calls Try.prog 10 #[] w fun e w' => e = .returned (.bool r) ∧ Below w.heap.size w w' := by
  cases h
  exact ExtI.crossbarlaw31_sane.calls 2 rfl true w (ExtI.sane_true 2 rfl)
def settle_Mirror.f (l0 : List S36) (a1 : Int) : Option (List S36) := if l0.length ≤ 1000000 then some (mirL a1 l0) else none
def crossbarref31_Mirror.f (l0 : List S36) (a1 : Int) : Option (List S36) := if l0.length ≤ 1000000 then some (mirL a1 l0) else none
theorem settle_Mirror.calls (A0 : Option Addr) (c0 : Nat) (l0 : List S36) (a1 : Int) (r : List S36) (w : World) (hr0 : Kd.C k36 w A0 l0.length l0) (hc0 : l0.length ≤ c0) (h : settle_Mirror.f l0 a1 = some r) :
    Calls Try.prog 14 #[.slice A0 l0.length c0, .int .i64 a1] w fun e w' => ∃ v0_ : Value, e = .returned v0_ ∧ Kd.R k36 36 w' w.heap.size (fun _ => True) v0_ r ∧ Below w.heap.size w w' := by
  unfold settle_Mirror.f at h
  split at h
  · cases h
    refine (mirror_any A0 c0 l0 a1 w hr0 (by assumption)).mono ?_
    rintro e w' ⟨v, rfl, h1, h2⟩
    exact ⟨v, rfl, R_recs h1, h2⟩
  · cases h
theorem crossbarref31_Mirror.calls (A0 : Option Addr) (c0 : Nat) (l0 : List S36) (a1 : Int) (r : List S36) (w : World) (hr0 : Kd.C k36 w A0 l0.length l0) (hc0 : l0.length ≤ c0) (h : crossbarref31_Mirror.f l0 a1 = some r) :
    Calls Try.prog 25 #[.slice A0 l0.length c0, .int .i64 a1] w fun e w' => ∃ v0_ : Value, e = .returned v0_ ∧ Kd.R k36 36 w' w.heap.size (fun _ => True) v0_ r ∧ Below w.heap.size w w' := by
  unfold crossbarref31_Mirror.f at h
  split at h
  · cases h
    refine (rmirror_any A0 c0 l0 a1 w hr0 (by assumption)).mono ?_
    rintro e w' ⟨v, rfl, h1, h2⟩
    exact ⟨v, rfl, R_recs h1, h2⟩
  · cases h
end Go.Proofs.Ytggdanifobagpaa.Ext
