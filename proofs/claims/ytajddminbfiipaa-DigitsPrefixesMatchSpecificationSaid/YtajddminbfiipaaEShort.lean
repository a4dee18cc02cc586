/- What digits.Shorten answers, for every three strings: the first of the forms that is dialled to the number. -/
import Derived.RangeFuncNested
import Derived.RangeFuncBound
import Derived.RangeFuncCalls
import Derived.RangeFuncLeaves
import Derived.RangeFuncFrom
import Derived.Shelf.Abstract
import Derived.Shelf.RegionOpen
import Derived.WalkKit
import Derived.OwnWalkIn
import Derived.TacticsInMore
import Derived.LoopNIn
import Derived.LoopIn
import Derived.Test.YtajddminbfiipaaERef3
namespace Go.Proofs.Ytajddminbfiipaa.Ext
set_option linter.unusedVariables false
set_option linter.unusedSimpArgs false
open Go.Shelf Go.RowKit Go.Lib
attribute [local go_sem] Oper.semAt_some

/-- The local form exists. -/
def locB (n c a : ByteArray) : Bool := hasP n (c ++ a) && !(cutP n (c ++ a)).data.toList.isEmpty
def cands (n c a : ByteArray) : List ByteArray :=
  (if locB n c a = true then [cutP n (c ++ a)] else []) ++ ((if hasP n c = true then [z1 ++ cutP n c] else []) ++ [z2 ++ n])

abbrev Cand (n c a : ByteArray) := { x : ByteArray // x ∈ cands n c a }


theorem cand_size {n c a : ByteArray} (x : Cand n c a) : x.1.size ≤ n.size + 2 := by
  have h := x.2
  simp only [cands, List.mem_append, List.mem_cons, List.not_mem_nil, or_false] at h
  have k1 := cutP_size n (c ++ a)
  have k2 := cutP_size n c
  rcases h with h | h | h
  · split at h
    · simp at h; rw [h]; omega
    · simp at h
  · split at h
    · simp at h; rw [h, size_app]; have : z1.size = 1 := rfl; omega
    · simp at h
  · rw [h, size_app]; have : z2.size = 2 := rfl; omega

theorem mem_loc {n c a : ByteArray} (h : locB n c a = true) : cutP n (c ++ a) ∈ cands n c a := by simp [cands, h]
theorem mem_nat {n c a : ByteArray} (h : hasP n c = true) : z1 ++ cutP n c ∈ cands n c a := by simp [cands, h]
theorem mem_int (n c a : ByteArray) : z2 ++ n ∈ cands n c a := by simp [cands]


theorem loc_parts {n c a : ByteArray} (h : locB n c a = true) : hasP n (c ++ a) = true ∧ (cutP n (c ++ a)).toList.isEmpty = false := by
  simp only [locB, Bool.and_eq_true, Bool.not_eq_true'] at h
  rw [toList_eq]; exact h
theorem loc_not {n c a : ByteArray} (h : locB n c a = false) (hq : hasP n (c ++ a) = true) : (cutP n (c ++ a)).data.toList.isEmpty = true := by
  simpa [locB, hq] using h

theorem cut_in (m : Nat) (s p : ByteArray) (w : World) : CallsIn Fence.wide m Try.prog 46 #[.string s, .string p] w fun e w' => e = .returned (.tuple #[.string (cutP s p), .bool (hasP s p)]) ∧ w' = w := callsIn_wide.2 (cut_calls s p w)

set_option maxHeartbeats 2000000 in
set_option maxRecDepth 100000 in
theorem forms_stops (m : Nat) (hm : 2 ≤ m) (B n₀ : Nat) (n c a : ByteArray) (w : World) (hB : B + 2 < w.heap.size) (hB0 : B + 2 < n₀) (_hn₀ : n₀ ≤ w.heap.size) (hs : n.size + c.size + a.size ≤ 100)
    (c0 : w.cell? ⟨B, 0, none⟩ = some (.string n)) (c1 : w.cell? ⟨B + 1, 0, none⟩ = some (.string c)) (c2 : w.cell? ⟨B + 2, 0, none⟩ = some (.string a)) :
    SeqStopsK Fence.wide m Try.prog 47 #[.pointer (some ⟨B, 0, none⟩), .pointer (some ⟨B + 1, 0, none⟩), .pointer (some ⟨B + 2, 0, none⟩)] (fun x : Cand n c a => #[Value.string x.1]) (Below n₀)
      (fun xs => xs.map (·.1) = cands n c a) (fun pre => pre.map (·.1) <+: cands n c a) 3 w := fun l J Jx W hW _ _ hY h0 => by
  have C0 : W.cell? ⟨B, 0, none⟩ = some (.string n) := (hW.cell (p := ⟨B, 0, none⟩) (by simp; omega)).trans c0
  have C1 : W.cell? ⟨B + 1, 0, none⟩ = some (.string c) := (hW.cell (p := ⟨B + 1, 0, none⟩) (by simp; omega)).trans c1
  have C2 : W.cell? ⟨B + 2, 0, none⟩ = some (.string a) := (hW.cell (p := ⟨B + 2, 0, none⟩) (by simp; omega)).trans c2
  clear c0 c1 c2
  have hcut1 := fun W => cut_in (m - 1) n (c ++ a) W
  have hcut2 := fun W => cut_in (m - 1) n c W
  refine callsIn_of_wp Try.func47 rfl trivial ?_ rfl
  simp only [Try.ntmps47, List.size_toArray, List.length_cons, List.length_nil, Nat.reduceAdd, Nat.reduceSub, Array.replicate_succ, Array.replicate_zero, List.push_toArray, List.append_toArray, List.nil_append, List.cons_append]
  have hf46 : Fence.wide.fn 46 := trivial
  by_cases hl : locB n c a = true
  · have hl' : hasP n (c ++ a) = true ∧ (cutP n (c ++ a)).toList.isEmpty = false := loc_parts hl
    obtain ⟨f1, t1, a1, b1, hy1, hR1⟩ := hY [] ⟨cutP n (c ++ a), mem_loc hl⟩ W h0 (by simp)
    dsimp only at hy1
    generalize cutP n (c ++ a) = u at hcut1 hl' hy1
    rw [hl'.1] at hcut1
    obtain ⟨_, hu⟩ := hl'
    gi_wp2_with fail
    refine ⟨fun _ => by omega, (hcut1 _).mono ?_⟩
    rintro e w' ⟨rfl, rfl⟩
    gi_wp2_with fail
    refine ⟨fun _ => by omega, hR1.mono ?_⟩
    rintro e V1 (⟨rfl, hJ1, hk1⟩ | ⟨rfl, hx1⟩)
    · have E0 : V1.cell? ⟨B, 0, none⟩ = some (.string n) := (hk1.cell (p := ⟨B, 0, none⟩) (by simp; omega)).trans C0
      have E1 : V1.cell? ⟨B + 1, 0, none⟩ = some (.string c) := (hk1.cell (p := ⟨B + 1, 0, none⟩) (by simp; omega)).trans C1
      clear C0 C1 C2
      simp only [List.nil_append] at hJ1
      by_cases hn : hasP n c = true
      · obtain ⟨f2, t2, a2, b2, hy2, hR2⟩ := hY _ ⟨z1 ++ cutP n c, mem_nat hn⟩ V1 hJ1 (by simp)
        dsimp only [z1] at hy2
        have hvs := cutP_size n c
        have hcut2' := hcut2
        generalize cutP n c = v at hcut2' hy2 hvs
        rw [hn] at hcut2'
        gi_wp2_with fail
        refine ⟨fun _ => by omega, (hcut2' _).mono ?_⟩
        rintro e w' ⟨rfl, rfl⟩
        gi_wp2_with fail
        refine ⟨fun _ => by omega, hR2.mono ?_⟩
        rintro e V2 (⟨rfl, hJ2, hk2⟩ | ⟨rfl, hx2⟩)
        · have D0 : V2.cell? ⟨B, 0, none⟩ = some (.string n) := (hk2.cell (p := ⟨B, 0, none⟩) (by simp; omega)).trans ‹_›
          clear hcut1 hcut2 hcut2'
          simp only [List.nil_append, List.cons_append] at hJ2
          obtain ⟨f3, t3, a3, b3, hy3, hR3⟩ := hY _ ⟨z2 ++ n, mem_int n c a⟩ V2 hJ2 (by simp)
          dsimp only [z2] at hy3
          gi_wp2_with fail
          refine ⟨fun _ => by omega, hR3.mono ?_⟩
          rintro e V3 (⟨rfl, hJ3, _⟩ | ⟨rfl, hx3⟩)
          · gi_wp2
            go_end0
            exact ⟨⟨_, rfl⟩, .inl ⟨_, by simp [cands, hl, hn] <;> first | rfl | exact ⟨_, rfl⟩, hJ3⟩⟩
          · gi_wp2
            go_end0
            exact ⟨⟨_, rfl⟩, .inr ⟨_, by simp [cands, hl, hn] <;> first | rfl | exact ⟨_, rfl⟩, hx3⟩⟩
        · gi_wp2
          refine bodyPost_ret (results_none rfl _ _ _) rfl ?_
          exact ⟨⟨_, rfl⟩, .inr ⟨_, by simp [cands, hl, hn] <;> first | rfl | exact ⟨_, rfl⟩, hx2⟩⟩
      · have hn' : hasP n c = false := by simpa using hn
        generalize cutP n c = v at hcut2
        rw [hn'] at hcut2
        gi_wp2_with fail
        refine ⟨fun _ => by omega, (hcut2 _).mono ?_⟩
        rintro e w' ⟨rfl, rfl⟩
        obtain ⟨f3, t3, a3, b3, hy3, hR3⟩ := hY _ ⟨z2 ++ n, mem_int n c a⟩ _ hJ1 (by simp)
        dsimp only [z2] at hy3
        gi_wp2_with fail
        first | (refine ⟨fun _ h => (by cases h), ?_⟩; gi_wp2_with fail; refine ⟨fun _ => by omega, hR3.mono ?_⟩) | refine ⟨fun _ => by omega, hR3.mono ?_⟩
        rintro e V3 (⟨rfl, hJ3, _⟩ | ⟨rfl, hx3⟩)
        · gi_wp2
          go_end0
          exact ⟨⟨_, rfl⟩, .inl ⟨_, by simp [cands, hl, hn'] <;> first | rfl | exact ⟨_, rfl⟩, hJ3⟩⟩
        · gi_wp2
          go_end0
          exact ⟨⟨_, rfl⟩, .inr ⟨_, by simp [cands, hl, hn'] <;> first | rfl | exact ⟨_, rfl⟩, hx3⟩⟩
    · gi_wp2
      refine bodyPost_ret (results_none rfl _ _ _) rfl ?_
      exact ⟨⟨_, rfl⟩, .inr ⟨_, by simp [cands, hl] <;> first | rfl | exact ⟨_, rfl⟩, hx1⟩⟩
  · have hl0 : locB n c a = false := by simpa using hl
    have hl' := loc_not hl0
    by_cases hq : hasP n (c ++ a) = true
    · have hu := hl' hq
      clear hl'
      generalize cutP n (c ++ a) = u at hcut1 hu
      rw [hq] at hcut1
      have hu' : u = ⟨#[]⟩ := by cases u; simp at hu; subst hu; rfl
      subst hu'
      gi_wp2_with fail
      refine ⟨fun _ => by omega, (hcut1 _).mono ?_⟩
      rintro e w' ⟨rfl, rfl⟩
      gi_wp2_with fail
      refine ⟨fun _ h => (by cases h), ?_⟩
      by_cases hn : hasP n c = true
      · obtain ⟨f2, t2, a2, b2, hy2, hR2⟩ := hY [] ⟨z1 ++ cutP n c, mem_nat hn⟩ _ h0 (by simp)
        dsimp only [z1] at hy2
        have hvs := cutP_size n c
        have hcut2' := hcut2
        generalize cutP n c = v at hcut2' hy2 hvs
        rw [hn] at hcut2'
        gi_wp2_with fail
        refine ⟨fun _ => by omega, (hcut2' _).mono ?_⟩
        rintro e w' ⟨rfl, rfl⟩
        gi_wp2_with fail
        refine ⟨fun _ => by omega, hR2.mono ?_⟩
        rintro e V2 (⟨rfl, hJ2, hk2⟩ | ⟨rfl, hx2⟩)
        · have D0 : V2.cell? ⟨B, 0, none⟩ = some (.string n) := (hk2.cell (p := ⟨B, 0, none⟩) (by simp; omega)).trans ‹_›
          clear hcut1 hcut2 hcut2'
          simp only [List.nil_append] at hJ2
          obtain ⟨f3, t3, a3, b3, hy3, hR3⟩ := hY _ ⟨z2 ++ n, mem_int n c a⟩ V2 hJ2 (by simp)
          dsimp only [z2] at hy3
          gi_wp2_with fail
          refine ⟨fun _ => by omega, hR3.mono ?_⟩
          rintro e V3 (⟨rfl, hJ3, _⟩ | ⟨rfl, hx3⟩)
          · gi_wp2
            go_end0
            exact ⟨⟨_, rfl⟩, .inl ⟨_, by simp [cands, hl0, hn] <;> first | rfl | exact ⟨_, rfl⟩, hJ3⟩⟩
          · gi_wp2
            go_end0
            exact ⟨⟨_, rfl⟩, .inr ⟨_, by simp [cands, hl0, hn] <;> first | rfl | exact ⟨_, rfl⟩, hx3⟩⟩
        · gi_wp2
          refine bodyPost_ret (results_none rfl _ _ _) rfl ?_
          exact ⟨⟨_, rfl⟩, .inr ⟨_, by simp [cands, hl0, hn] <;> first | rfl | exact ⟨_, rfl⟩, hx2⟩⟩
      · have hn' : hasP n c = false := by simpa using hn
        generalize cutP n c = v at hcut2
        rw [hn'] at hcut2
        gi_wp2_with fail
        refine ⟨fun _ => by omega, (hcut2 _).mono ?_⟩
        rintro e w' ⟨rfl, rfl⟩
        obtain ⟨f3, t3, a3, b3, hy3, hR3⟩ := hY [] ⟨z2 ++ n, mem_int n c a⟩ _ h0 (by simp)
        dsimp only [z2] at hy3
        gi_wp2_with fail
        first | (refine ⟨fun _ h => (by cases h), ?_⟩; gi_wp2_with fail; refine ⟨fun _ => by omega, hR3.mono ?_⟩) | refine ⟨fun _ => by omega, hR3.mono ?_⟩
        rintro e V3 (⟨rfl, hJ3, _⟩ | ⟨rfl, hx3⟩)
        · gi_wp2
          go_end0
          exact ⟨⟨_, rfl⟩, .inl ⟨_, by simp [cands, hl0, hn'] <;> first | rfl | exact ⟨_, rfl⟩, hJ3⟩⟩
        · gi_wp2
          go_end0
          exact ⟨⟨_, rfl⟩, .inr ⟨_, by simp [cands, hl0, hn'] <;> first | rfl | exact ⟨_, rfl⟩, hx3⟩⟩
    · have hq' : hasP n (c ++ a) = false := by simpa using hq
      clear hl'
      generalize cutP n (c ++ a) = u at hcut1
      rw [hq'] at hcut1
      gi_wp2_with fail
      refine ⟨fun _ => by omega, (hcut1 _).mono ?_⟩
      rintro e w' ⟨rfl, rfl⟩
      gi_wp2_with fail
      refine ⟨fun _ h => (by cases h), ?_⟩
      by_cases hn : hasP n c = true
      · obtain ⟨f2, t2, a2, b2, hy2, hR2⟩ := hY [] ⟨z1 ++ cutP n c, mem_nat hn⟩ _ h0 (by simp)
        dsimp only [z1] at hy2
        have hvs := cutP_size n c
        have hcut2' := hcut2
        generalize cutP n c = v at hcut2' hy2 hvs
        rw [hn] at hcut2'
        gi_wp2_with fail
        refine ⟨fun _ => by omega, (hcut2' _).mono ?_⟩
        rintro e w' ⟨rfl, rfl⟩
        gi_wp2_with fail
        refine ⟨fun _ => by omega, hR2.mono ?_⟩
        rintro e V2 (⟨rfl, hJ2, hk2⟩ | ⟨rfl, hx2⟩)
        · have D0 : V2.cell? ⟨B, 0, none⟩ = some (.string n) := (hk2.cell (p := ⟨B, 0, none⟩) (by simp; omega)).trans ‹_›
          clear hcut1 hcut2 hcut2'
          simp only [List.nil_append] at hJ2
          obtain ⟨f3, t3, a3, b3, hy3, hR3⟩ := hY _ ⟨z2 ++ n, mem_int n c a⟩ V2 hJ2 (by simp)
          dsimp only [z2] at hy3
          gi_wp2_with fail
          refine ⟨fun _ => by omega, hR3.mono ?_⟩
          rintro e V3 (⟨rfl, hJ3, _⟩ | ⟨rfl, hx3⟩)
          · gi_wp2
            go_end0
            exact ⟨⟨_, rfl⟩, .inl ⟨_, by simp [cands, hl0, hn] <;> first | rfl | exact ⟨_, rfl⟩, hJ3⟩⟩
          · gi_wp2
            go_end0
            exact ⟨⟨_, rfl⟩, .inr ⟨_, by simp [cands, hl0, hn] <;> first | rfl | exact ⟨_, rfl⟩, hx3⟩⟩
        · gi_wp2
          refine bodyPost_ret (results_none rfl _ _ _) rfl ?_
          exact ⟨⟨_, rfl⟩, .inr ⟨_, by simp [cands, hl0, hn] <;> first | rfl | exact ⟨_, rfl⟩, hx2⟩⟩
      · have hn' : hasP n c = false := by simpa using hn
        generalize cutP n c = v at hcut2
        rw [hn'] at hcut2
        gi_wp2_with fail
        refine ⟨fun _ => by omega, (hcut2 _).mono ?_⟩
        rintro e w' ⟨rfl, rfl⟩
        obtain ⟨f3, t3, a3, b3, hy3, hR3⟩ := hY [] ⟨z2 ++ n, mem_int n c a⟩ _ h0 (by simp)
        dsimp only [z2] at hy3
        gi_wp2_with fail
        first | (refine ⟨fun _ h => (by cases h), ?_⟩; gi_wp2_with fail; refine ⟨fun _ => by omega, hR3.mono ?_⟩) | refine ⟨fun _ => by omega, hR3.mono ?_⟩
        rintro e V3 (⟨rfl, hJ3, _⟩ | ⟨rfl, hx3⟩)
        · gi_wp2
          go_end0
          exact ⟨⟨_, rfl⟩, .inl ⟨_, by simp [cands, hl0, hn'] <;> first | rfl | exact ⟨_, rfl⟩, hJ3⟩⟩
        · gi_wp2
          go_end0
          exact ⟨⟨_, rfl⟩, .inr ⟨_, by simp [cands, hl0, hn'] <;> first | rfl | exact ⟨_, rfl⟩, hx3⟩⟩
end Go.Proofs.Ytajddminbfiipaa.Ext
