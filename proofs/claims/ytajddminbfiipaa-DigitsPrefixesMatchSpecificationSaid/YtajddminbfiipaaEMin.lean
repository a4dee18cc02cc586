/- What digits.Minimal answers, for every slice of strings. -/
import Derived.Test.YtajddminbfiipaaEMinSort
namespace Go.Proofs.Ytajddminbfiipaa.Ext
set_option linter.unusedVariables false
set_option linter.unusedSimpArgs false
open Go.RowKit Go.Maps Go.WideMaps Go.Sort Go.Proofs.YtajddminbfiipaaW.PrintWords

def mkB (x : Bytes) : ByteArray := ⟨x.toArray⟩
def minimalB (l : List ByteArray) : List ByteArray × Int :=
  if l.length > 1024 then ([], 2)
  else if l.all (fun p => onlyB p 0 14) = true then ((minL (bytes l)).map mkB, 0) else ([], 60)
def digits_Minimal.f (l0 : List ByteArray) : Option (List ByteArray × Int) := some (minimalB l0)

theorem only_parts {p : ByteArray} (h : onlyB p 0 14 = true) : p.data.toList.length ≤ 14 ∧ ∀ c ∈ p.data.toList, isDig c = true := by
  simp only [onlyB, Bool.and_eq_true, decide_eq_true_eq] at h
  exact ⟨by have : p.data.toList.length = p.size := by simp
            omega, by have := h.2.2; unfold allDig at this; rwa [List.all_eq_true] at this⟩

theorem row_lower {W : World} {base base' : Nat} {e size n : Nat} {v : Value} {xs : List Value} (h : W.ownsRow base e size v n xs) (hb : base' ≤ base) : W.ownsRow base' e size v n xs := by
  refine ⟨h.1, h.2.imp id ?_⟩
  rintro ⟨g, cap, cur, h1, h2, h3⟩
  exact ⟨g, cap, cur, h1, by omega, h3⟩

theorem made0 (w : World) (t : TypeId) : Made w.heap.size w.heap.size 0 w (w.alloc (.cells #[.map none, .map none, .map none, .map none, .map none, .map none, .map none, .map none, .map none, .map none, .map none, .map none, .map none, .map none, .map none] t)) where
  cell := fun j hj => absurd hj (Nat.not_lt_zero _)
  rest := fun j _ hj => by
    rw [World.cell?_alloc_at _ _ _ _ rfl]
    have : (#[Value.map none, .map none, .map none, .map none, .map none, .map none, .map none, .map none, .map none, .map none, .map none, .map none, .map none, .map none, .map none] : Array Value) = Array.replicate 15 (.map none) := rfl
    rw [this, Array.getElem?_replicate, if_pos hj]
  free := fun j => World.frozen?_alloc_at _ _ _ _ rfl
  maps := fun j hj => absurd hj (Nat.not_lt_zero _)
  size := by simp
  low := (Below.refl _ _).alloc (Nat.le_refl _) _

theorem TT_eq (l : List Bytes) : LT l 0 = TT l := by funext j; simp [LT, TT]

set_option maxHeartbeats 8000000 in
set_option maxRecDepth 100000 in
theorem minimal_any (A0 : Option Addr) (c0 : Nat) (l : List ByteArray) (w : World) (hr0 : Kd.C Kd.string w A0 l.length l) (_hc0 : l.length ≤ c0) :
    Calls Try.prog 21 #[.slice A0 l.length c0] w fun e w' => ∃ v0_ : Value, e = .returned (.tuple #[v0_, .int .i64 (minimalB l).2]) ∧ Kd.R Kd.string 9 w' w.heap.size (fun _ => True) v0_ (minimalB l).1 ∧ Below w.heap.size w w' := by
  by_cases hl : l.length > 1024
  · have e : minimalB l = ([], 2) := by simp [minimalB, hl]
    rw [e]
    have hb : decide (1024 < l.length) = true := decide_eq_true hl
    have hb2 : decide (1024 < (l.length : Int)) = true := decide_eq_true (by omega)
    clear hr0 e
    go_enter Try.func21, Try.ntmps21
    go_wp2
    go_ret2
    exact ⟨_, rfl, Kd.R_nil _ _ _ _ _, Below.refl _ _⟩
  · have hr : l = [] ∨ ∃ b off, A0 = some ⟨b, off, none⟩ ∧ ∀ j, j < l.length → w.cell? ⟨b, off + j, none⟩ = some (.string l[j]!) := by
      by_cases h0 : l.length = 0
      · exact .inl (List.eq_nil_of_length_eq_zero h0)
      · exact .inr (strs_at hr0 (by omega))
    have hb : decide (1024 < l.length) = false := decide_eq_false hl
    have hb2 : decide (1024 < (l.length : Int)) = false := decide_eq_false (by omega)
    have HR := Lib.hid hr
    clear hr0 hr
    go_enter Try.func21, Try.ntmps21
    go_wp2
    refine loopA w.heap.size w.heap.size w _ (Nat.le_refl _) (made0 w _) _ ?_
    rintro x5 x21 x22 x23 x24 x25 x26 x27 W1 hM1
    dsimp only
    have hL1 := Lev.made hM1 (Nat.le_refl _)
    clear hM1
    go_wp2
    refine loopB w.heap.size A0 c0 l w W1 (by omega) HR.out hL1 _ ?_ ?_
    · rintro x2 x3 x7 x30 x31 x32 x33 x34 x35 x36 x37 x38 x39 x40 x41 x42 W2 ⟨hval, hL2⟩
      dsimp only
      have hall : l.all (fun p => onlyB p 0 14) = true := List.all_eq_true.2 hval
      have e : minimalB l = ((minL (bytes l)).map mkB, 0) := by simp only [minimalB]; rw [if_neg hl, if_pos hall]
      have hd : AllDig (bytes l) := by
        intro x hx
        obtain ⟨p, hp, rfl⟩ := List.mem_map.1 hx
        exact (only_parts (hval p hp)).2
      have h14 : ∀ x ∈ bytes l, x.length ≤ 14 := by
        intro x hx
        obtain ⟨p, hp, rfl⟩ := List.mem_map.1 hx
        exact (only_parts (hval p hp)).1
      have hL3 : Lev w w.heap.size 15 (cc 14) (LT (bytes l) 14) W2 := hL2.turn' (fun j hj => by
          show l.length ≤ cc 14 j
          unfold cc; split <;> omega) (fun j hj => by
          unfold LT
          by_cases h : 14 ≤ j
          · obtain rfl : j = 14 := by omega
            rfl
          · rw [if_neg h])
      have HE := Lib.hid e
      clear hL1 hL2 hall hval e
      go_wp2
      refine loopC w.heap.size (bytes l) w W2 hd hL3 _ ?_
      rintro x8 x9 x10 x11 x12 x43 x44 x45 x46 x47 x48 x49 x50 x51 x52 x53 x54 x55 x56 x57 x58 x59 x60 x61 x62 x63 x64 x65 x66 x67 x68 x69 x70 x71 x72 x73 x74 x75 x76 W3 hL4
      dsimp only
      clear hL3
      go_wp2
      refine loopF w.heap.size (cc 0) (LT (bytes l) 0) w W3 (fun j => by unfold cc; split <;> omega) (fun j hj x hx => (LT_good hd 0 j hj x hx).1) hL4 _ ?_
      rintro y14 y15 y17 y78 y79 y80 y81 y82 y83 y84 y85 y86 y87 y88 y89 y90 y91 y92 y93 y94 y95 y96 y97 y98 y99 y100 y101 y102 y103 W4 ⟨acc, hA, hsz, hlow, hrw⟩
      dsimp only
      clear hL4
      have hla : acc.length ≤ 1000000 := by have := hA.len; omega
      rw [TT_eq] at hA
      have hmin := acc_min h14 hA
      have hSo := sort_calls w.heap.size y14 acc W4 hrw hla
      rw [hmin] at hSo
      have hlt := fun b (hb : y14.ownBlock = some b) => (hrw.lt b hb).1
      have hln : (minL (bytes l)).length = acc.length := by rw [← hmin]; simp
      have HM := Lib.hid hln
      clear hmin hln hA hrw
      go_wp2_with (go_at_call 38; refine hSo.mono ?_; rintro e W5 ⟨rfl, hrw5, hg5⟩)
      have hlow5 : Below w.heap.size w W5 := hlow.grown hg5 hlow.size (fun b hb => by have := hlt b hb; omega)
      have hR : Kd.R Kd.string 9 W5 w.heap.size (fun _ => True) y14 ((minL (bytes l)).map mkB) := by
        refine Kd.R_of_own ?_ (fun _ _ => trivial)
        rw [List.length_map, HM.out]
        have := row_lower hrw5 (Nat.le_add_right w.heap.size 16)
        rw [show encs Value.string ((minL (bytes l)).map mkB) = (minL (bytes l)).map encStr from by simp [encs, mkB]]
        exact this
      clear hrw5 hg5 hlow hlt hSo hsz
      go_ret2
      exact ⟨_, by rw [HE.out]; rfl, by rw [HE.out]; exact hR, hlow5⟩
    · rintro x2 x3 x7 x30 x31 x32 x33 x34 x35 x36 x37 x38 x39 x40 x41 x42 W2 ⟨⟨p, hp, hpo⟩, hlow⟩
      have hall : ¬ (l.all (fun p => onlyB p 0 14) = true) := fun h => by
        have := List.all_eq_true.1 h p hp
        rw [hpo] at this
        exact Bool.noConfusion this
      have e : minimalB l = ([], 60) := by simp only [minimalB]; rw [if_neg hl, if_neg hall]
      have HE := Lib.hid e
      clear e hall hL1
      dsimp only
      go_ret2
      exact ⟨_, by rw [HE.out]; rfl, by rw [HE.out]; exact Kd.R_nil _ _ _ _ _, hlow⟩

theorem digits_Minimal.calls (A0 : Option Addr) (c0 : Nat) (l0 : List ByteArray) (r1 : List ByteArray) (r2 : Int) (w : World) (hr0 : Kd.C Kd.string w A0 l0.length l0) (hc0 : l0.length ≤ c0) (h : digits_Minimal.f l0 = some (r1, r2)) :
    Calls Try.prog 21 #[.slice A0 l0.length c0] w fun e w' => ∃ v0_ : Value, e = .returned (.tuple #[v0_, .int .i64 r2]) ∧ Kd.R Kd.string 9 w' w.heap.size (fun _ => True) v0_ r1 ∧ Below w.heap.size w w' := by
  have h' : minimalB l0 = (r1, r2) := by simpa [digits_Minimal.f] using h
  have := minimal_any A0 c0 l0 w hr0 hc0
  rw [h'] at this
  exact this
end Go.Proofs.Ytajddminbfiipaa.Ext
