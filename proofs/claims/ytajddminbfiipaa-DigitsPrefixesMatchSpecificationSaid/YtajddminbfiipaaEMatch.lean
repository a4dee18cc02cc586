/- What digits.Matches answers, for every slice of strings and every string: whether one of the strings is a prefix of it. -/
import Derived.Test.YtajddminbfiipaaShelf
import Derived.Test.YtajddminbfiipaaWWords
import Derived.WalkKit
import Derived.Lib.Hide
import Derived.WalkSpells
namespace Go.Proofs.Ytajddminbfiipaa.Ext
open Go.Shelf Go.RowKit Go.Lib Go.Proofs.YtajddminbfiipaaW.PrintWords

/-- p is a prefix of s. -/
def hasP (s p : ByteArray) : Bool := Lib.hasPrefix s.data.toList p.data.toList

theorem pred42 (w : World) (B : Nat) (s : ByteArray) (hB : B < w.heap.size) (hc : w.cell? ⟨B, 0, none⟩ = some (.string s)) :
    PredAt Try.prog 42 #[.pointer (some ⟨B, 0, none⟩)] Value.string (hasP s) w := fun W r hb => by
  have hc' : W.cell? ⟨B, 0, none⟩ = some (.string s) := (hb.cell (p := ⟨B, 0, none⟩) hB).trans hc
  have hC := Any.strings_HasPrefix Try.l99 s r W
  change Calls Try.prog 43 _ _ _ at hC
  obtain ⟨I, hI⟩ : ∃ I, hasP s r = I := ⟨_, rfl⟩
  unfold FnGives
  unfold hasP at hI ⊢
  rw [hI] at hC ⊢
  clear hI hc
  go_enter Try.func42, Try.ntmps42
  go_wp2_with (go_at_call 43; refine hC.mono ?_; rintro e w' ⟨rfl, rfl⟩)
  go_ret
  exact ⟨rfl, 0, rfl⟩

/-- A row of strings that is read: where its cells lie. -/
theorem strs_at {w : World} {A : Option Addr} {n : Nat} {l : List ByteArray} (h : Kd.C Kd.string w A n l) (hn : 0 < n) :
    ∃ b off, A = some ⟨b, off, none⟩ ∧ ∀ j, j < l.length → w.cell? ⟨b, off + j, none⟩ = some (.string l[j]!) := by
  have hlen := h.1
  have hcells : ∀ j, j < l.length → ∃ ad, A = some ad ∧ w.cell? (ad.add j) = some (.string l[j]!) := by
    intro j hj
    obtain ⟨ad', e1, e2⟩ := Kd.at_string h (j : Int) (by omega) (by omega)
    refine ⟨ad', e1, ?_⟩
    rw [Int.toNat_natCast] at e2
    rw [e2]
    simp [rdOf, List.getD_eq_getElem?_getD, hj]
  obtain ⟨⟨b, off, sp⟩, rfl, h0⟩ := hcells 0 (by omega)
  have hs : sp = none := by
    cases sp with
    | none => rfl
    | some k =>
      simp only [Addr.add, if_true, World.cell?, Option.isSome] at h0
      split at h0 <;> simp at h0
  subst hs
  refine ⟨b, off, rfl, fun j hj => ?_⟩
  obtain ⟨ad, e1, e2⟩ := hcells j hj
  cases e1
  rw [← e2]
  unfold Addr.add
  split
  · rename_i h; subst h; rfl
  · rfl

def matchesB (l : List ByteArray) (s : ByteArray) : Bool := l.any (hasP s)
def digits_Matches.f (l0 : List ByteArray) (a1 : ByteArray) : Option (Bool) := some (matchesB l0 a1)

set_option maxHeartbeats 1000000 in
theorem digits_Matches.calls (A0 : Option Addr) (c0 : Nat) (l0 : List ByteArray) (a1 : ByteArray) (r : Bool) (w : World) (hr0 : Kd.C Kd.string w A0 l0.length l0) (hc0 : l0.length ≤ c0) (h : digits_Matches.f l0 a1 = some r) :
    Calls Try.prog 26 #[.slice A0 l0.length c0, .string a1] w fun e w' => e = .returned (.bool r) ∧ Below w.heap.size w w' := by
  have hr : matchesB l0 a1 = r := by simpa [digits_Matches.f] using h
  clear h
  by_cases h0 : l0.length = 0
  · have e0 : l0 = [] := List.eq_nil_of_length_eq_zero h0
    subst e0
    have hC := fun W => AnyE.slices_ContainsFunc_empty Try.l41 A0 c0 (.func (.func 42) #[] #[.pointer (some ⟨w.heap.size, 0, none⟩)]) W
    change ∀ W, Calls Try.prog 41 _ _ _ at hC
    subst hr
    simp only [List.length_nil]
    clear hr0 hc0 h0
    go_enter Try.func26, Try.ntmps26
    go_wp2_with (go_at_call 41; refine (hC _).mono ?_; rintro e w' ⟨rfl, rfl⟩)
    go_ret
    exact ⟨rfl, (Below.refl _ w).alloc (Nat.le_refl _) _⟩
  · have hmax := hr0.2.1
    obtain ⟨b, off, rfl, hcells⟩ := strs_at hr0 (by omega)
    clear hr0
    have hC := fun W (hB : w.heap.size < W.heap.size) (hc : W.cell? ⟨w.heap.size, 0, none⟩ = some (.string a1)) (hw : Below w.heap.size w W) =>
      AnyE.slices_ContainsFunc Try.l41 Value.string (hasP a1) 42 #[.pointer (some ⟨w.heap.size, 0, none⟩)] (enters_of Try.func42 (by kernel_rfl) rfl) b off l0.length c0 l0 W (pred42 W w.heap.size a1 hB hc) (Nat.le_refl _) hmax
        (fun j hj => cell_later hw (hcells j hj))
    change ∀ W _ _ _, Calls Try.prog 41 _ _ _ at hC
    rw [List.take_length] at hC
    change l0.any (hasP a1) = r at hr
    rw [hr] at hC
    have HC := Lib.hid hC
    clear hC hcells hr
    go_enter Try.func26, Try.ntmps26
    go_wp2_with (go_at_call 41; refine (HC.out _ (by simp) (by simp) ((Below.refl _ w).alloc (Nat.le_refl _) _)).mono ?_; rintro e w' ⟨rfl, q, rfl⟩)
    go_ret
    exact ⟨rfl, pw_below_drewN ((Below.refl _ w).alloc (Nat.le_refl _) _) _⟩
end Go.Proofs.Ytajddminbfiipaa.Ext
