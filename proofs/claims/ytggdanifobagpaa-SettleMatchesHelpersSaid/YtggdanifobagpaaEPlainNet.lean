/- Plain law: what settle.Net answers: the matrix of what is owed after netting, for a valid matrix; an error else. -/
import Derived.Test.YtggdanifobagpaaQx7
namespace Go.Proofs.Ytggdanifobagpaa.Pure
set_option linter.unusedVariables false
set_option linter.unusedSimpArgs false
open Go.RowKit Go.Proofs.Ytggdanifobagpaa.Q Go.Proofs.Ytggdanifobagpaa.Ext Go.Proofs.YtggdanifobagpaaW.PrintWords Go.Proofs.YtggdanifobagpaaW.PrintLast Go.Proofs.YtggdanifobagpaaW.PrintMore

def ent (o : List (List Int)) (i j : Nat) : Int := (o.getD i []).getD j 0
/-- The entry after netting. -/
def netE (o : List (List Int)) (i j : Nat) : Int := mx 0 (wrap64 (ent o i j - ent o j i))
def RowOk (n i : Nat) (row : List Int) : Prop := row.length = n ∧ row.getD i 0 = 0 ∧ ∀ x ∈ row, 0 ≤ x ∧ x ≤ 1152921504606846976
def MatOk (o : List (List Int)) : Prop := 1 ≤ o.length ∧ o.length ≤ 64 ∧ ∀ i, i < o.length → RowOk o.length i (o.getD i [])
def netM (o : List (List Int)) : List (List Int) := (List.range o.length).map fun i => (List.range o.length).map (netE o i)

theorem foldl_min_lt (m : Int) : ∀ (zs : List Int) (a : Int), zs.foldl min a < m ↔ a < m ∨ ∃ x ∈ zs, x < m
  | [], a => by simp
  | z :: zs, a => by
    rw [List.foldl_cons, foldl_min_lt m zs]
    constructor
    · rintro (h | ⟨x, hx, h⟩)
      · rcases Int.le_total a z with h' | h'
        · exact .inl (by omega)
        · exact .inr ⟨z, List.mem_cons_self, by omega⟩
      · exact .inr ⟨x, List.mem_cons_of_mem _ hx, h⟩
    · rintro (h | ⟨x, hx, h⟩)
      · exact .inl (by omega)
      · rcases List.mem_cons.1 hx with rfl | hx
        · exact .inl (by omega)
        · exact .inr ⟨x, hx, h⟩
theorem foldl_max_gt (m : Int) : ∀ (zs : List Int) (a : Int), zs.foldl max a > m ↔ a > m ∨ ∃ x ∈ zs, x > m
  | [], a => by simp
  | z :: zs, a => by
    rw [List.foldl_cons, foldl_max_gt m zs]
    constructor
    · rintro (h | ⟨x, hx, h⟩)
      · rcases Int.le_total a z with h' | h'
        · exact .inr ⟨z, List.mem_cons_self, by omega⟩
        · exact .inl (by omega)
      · exact .inr ⟨x, List.mem_cons_of_mem _ hx, h⟩
    · rintro (h | ⟨x, hx, h⟩)
      · exact .inl (by omega)
      · rcases List.mem_cons.1 hx with rfl | hx
        · exact .inl (by omega)
        · exact .inr ⟨x, hx, h⟩
theorem min_lt {zs : List Int} (h : 0 < zs.length) (m : Int) : Lib.minOf zs < m ↔ ∃ x ∈ zs, x < m := by
  unfold Lib.minOf
  rw [foldl_min_lt]
  cases zs with
  | nil => simp at h
  | cons z t => exact ⟨fun h => h.elim (fun h => ⟨z, List.mem_cons_self, h⟩) id, .inr⟩
theorem max_gt {zs : List Int} (h : 0 < zs.length) (m : Int) : Lib.maxOf zs > m ↔ ∃ x ∈ zs, x > m := by
  unfold Lib.maxOf
  rw [foldl_max_gt]
  cases zs with
  | nil => simp at h
  | cons z t => exact ⟨fun h => h.elim (fun h => ⟨z, List.mem_cons_self, h⟩) id, .inr⟩

theorem rdL_nat (o : List (List Int)) (i : Nat) : rd_L4 o (i : Int) = o.getD i [] := by simp [rd_L4]
theorem rd_nat (r : List Int) (i : Nat) : rd r (i : Int) = r.getD i 0 := by simp [rd]
theorem wsucc {i : Nat} (h : i < 1000000000) : wrap64 ((i : Int) + 1) = ((i + 1 : Nat) : Int) := by unfold wrap64; omega

/-- The rows while row i is made, j entries of it. -/
def part (o : List (List Int)) (i j : Nat) : List (List Int) :=
  (List.range o.length).map fun a => if a < i then (List.range o.length).map (netE o a) else if a = i then (List.range j).map (netE o i) else []
theorem part_len (o : List (List Int)) (i j : Nat) : (part o i j).length = o.length := by simp [part]
theorem part_get (o : List (List Int)) {i j : Nat} (h : i < o.length) : (part o i j).getD i [] = (List.range j).map (netE o i) := by
  simp [part, List.getD_eq_getElem?_getD, h]
theorem part_set (o : List (List Int)) {i j : Nat} (h : i < o.length) : (part o i j).set i ((List.range j).map (netE o i) ++ [netE o i j]) = part o i (j + 1) := by
  refine List.ext_getElem (by simp [part]) fun a h1 h2 => ?_
  rw [List.getElem_set]
  by_cases e : i = a
  · subst e
    rw [if_pos rfl]
    simp [part, List.range_succ]
  · rw [if_neg e]
    simp only [part, List.getElem_map, List.getElem_range]
    split
    · rfl
    · rw [if_neg (fun h => e h.symm), if_neg (fun h => e h.symm)]
theorem part_next (o : List (List Int)) {i : Nat} (h : i < o.length) : part o i o.length = part o (i + 1) 0 := by
  refine List.ext_getElem (by simp [part]) fun a h1 h2 => ?_
  simp only [part, List.getElem_map, List.getElem_range]
  by_cases h3 : a < i
  · rw [if_pos h3, if_pos (by omega)]
  · rw [if_neg h3]
    by_cases h4 : a = i
    · subst h4; rw [if_pos rfl, if_pos (by omega)]
    · rw [if_neg h4, if_neg (by omega)]
      split <;> simp
theorem part_all (o : List (List Int)) : part o o.length 0 = netM o := by
  refine List.ext_getElem (by simp [part, netM]) fun a h1 h2 => ?_
  have : a < o.length := by simpa [part] using h1
  simp only [part, netM, List.getElem_map, List.getElem_range]
  rw [if_pos this]
theorem part_zero (o : List (List Int)) : List.replicate o.length [] = part o 0 0 := by
  refine List.ext_getElem (by simp [part]) fun a h1 h2 => ?_
  simp only [part, List.getElem_map, List.getElem_range, List.getElem_replicate]
  rw [if_neg (by omega)]
  split <;> simp

theorem net_l2 (o : List (List Int)) (hlen : ∀ a, a < o.length → (o.getD a []).length = o.length) (hn : o.length ≤ 64) (i : Nat) (hi : i < o.length) (R : Option (List (List Int) × Int)) (need : Nat)
    (next : ∀ k, need ≤ k → settle_Net.l1 k o (part o (i + 1) 0) o (o.length : Int) ((i + 1 : Nat) : Int) = R) :
    ∀ (e j k : Nat), o.length - j = e → j ≤ o.length → need + e + 1 ≤ k →
      settle_Net.l2 k o (part o i j) (i : Int) o (o.length : Int) (i : Int) (o.getD i []) (o.length : Int) (j : Int) = R := by
  intro e
  induction e with
  | zero =>
    intro j k he hj hk
    obtain ⟨k, rfl⟩ : ∃ q, k = q + 1 := ⟨k - 1, by omega⟩
    obtain rfl : j = o.length := by omega
    simp only [settle_Net.l2]
    rw [if_neg (by omega), wsucc (by omega), part_next o hi]
    exact next k (by omega)
  | succ e ih =>
    intro j k he hj hk
    obtain ⟨k, rfl⟩ : ∃ q, k = q + 1 := ⟨k - 1, by omega⟩
    have hj' : j < o.length := by omega
    simp only [settle_Net.l2]
    rw [if_pos (by omega), if_pos (by omega), if_pos (by rw [hlen i hi]; omega), if_pos (by omega), if_pos (by rw [part_len]; omega), if_pos (by omega), rdL_nat, rdL_nat, rd_nat, rd_nat, if_pos (by rw [hlen j hj']; omega), part_get o hi, if_pos (by simp; omega), wsucc (by omega), Int.toNat_natCast]
    show settle_Net.l2 k o ((part o i j).set i ((List.range j).map (netE o i) ++ [netE o i j])) _ _ _ _ _ _ _ = R
    rw [part_set o hi]
    exact ih (j + 1) k (by omega) (by omega) (by omega)

theorem net_l1 (o : List (List Int)) (hlen : ∀ a, a < o.length → (o.getD a []).length = o.length) (hn : o.length ≤ 64) :
    ∀ (d i k : Nat), o.length - i = d → i ≤ o.length → 70 * d + 1 ≤ k → settle_Net.l1 k o (part o i 0) o (o.length : Int) (i : Int) = some (netM o, 0) := by
  intro d
  induction d with
  | zero =>
    intro i k hd hi hk
    obtain ⟨k, rfl⟩ : ∃ q, k = q + 1 := ⟨k - 1, by omega⟩
    obtain rfl : i = o.length := by omega
    simp only [settle_Net.l1]
    rw [if_neg (by omega), part_all]
  | succ d ih =>
    intro i k hd hi hk
    obtain ⟨k, rfl⟩ : ∃ q, k = q + 1 := ⟨k - 1, by omega⟩
    have hi' : i < o.length := by omega
    simp only [settle_Net.l1]
    rw [if_pos (by omega), if_pos (by omega), if_pos (by omega), rdL_nat, hlen i hi']
    exact net_l2 o hlen hn i hi' _ (70 * d + 1) (fun k hk => ih (i + 1) k (by omega) (by omega) hk) o.length 0 k (by omega) (by omega) (by omega)

theorem net_l0 (o : List (List Int)) (h1 : 1 ≤ o.length) (hn : o.length ≤ 64) (R : Option (List (List Int) × Int))
    (good : MatOk o → ∀ k, 5000 ≤ k → settle_Net.l1 k o (part o 0 0) o (o.length : Int) 0 = R) (bad : ¬ MatOk o → R = some ([], 1)) :
    ∀ (d i k : Nat), o.length - i = d → i ≤ o.length → 5001 + d ≤ k → (∀ a, a < i → RowOk o.length a (o.getD a [])) → settle_Net.l0 k o (o.length : Int) o (o.length : Int) (i : Int) = R := by
  intro d
  induction d with
  | zero =>
    intro i k hd hi hk h
    obtain ⟨k, rfl⟩ : ∃ q, k = q + 1 := ⟨k - 1, by omega⟩
    simp only [settle_Net.l0]
    rw [if_neg (by omega), if_pos (by omega), if_pos (by omega), Int.toNat_natCast, part_zero]
    exact good ⟨h1, hn, fun a ha => h a (by omega)⟩ k (by omega)
  | succ d ih =>
    intro i k hd hi hk h
    obtain ⟨k, rfl⟩ : ∃ q, k = q + 1 := ⟨k - 1, by omega⟩
    have hi' : i < o.length := by omega
    simp only [settle_Net.l0]
    rw [if_pos (by omega), if_pos (by omega), if_pos (by omega), rdL_nat]
    by_cases hl : (o.getD i []).length = o.length
    · have hpos : 0 < (o.getD i []).length := by omega
      rw [if_pos (by omega), if_pos (by omega), rd_nat]
      by_cases h0 : (o.getD i []).getD i 0 = 0
      · rw [if_pos h0]
        simp only [slices_Min_int_int.f, slices_Max_int_int.f]
        rw [if_pos hpos, if_pos hpos]
        simp only [Option.bind_some]
        by_cases hmin : Lib.minOf (o.getD i []) < 0
        · rw [if_pos hmin, bad]
          intro hm
          obtain ⟨x, hx, hlt⟩ := (min_lt hpos 0).1 hmin
          have := ((hm.2.2 i hi').2.2 x hx).1
          omega
        · rw [if_neg hmin]
          by_cases hmax : Lib.maxOf (o.getD i []) > 1152921504606846976
          · rw [if_pos hmax, bad]
            intro hm
            obtain ⟨x, hx, hlt⟩ := (max_gt hpos _).1 hmax
            have := ((hm.2.2 i hi').2.2 x hx).2
            omega
          · rw [if_neg hmax, wsucc (by omega)]
            refine ih (i + 1) k (by omega) (by omega) (by omega) fun a ha => ?_
            by_cases hai : a = i
            · subst hai
              refine ⟨hl, h0, fun x hx => ⟨?_, ?_⟩⟩
              · rcases Int.lt_or_le x 0 with hlt | hle
                · exact absurd ((min_lt hpos 0).2 ⟨x, hx, hlt⟩) hmin
                · exact hle
              · rcases Int.lt_or_le 1152921504606846976 x with hlt | hle
                · exact absurd ((max_gt hpos _).2 ⟨x, hx, hlt⟩) hmax
                · exact hle
            · exact h a (by omega)
      · rw [if_neg h0, bad (fun hm => h0 (hm.2.2 i hi').2.1)]
    · rw [if_neg (by omega), bad (fun hm => hl (hm.2.2 i hi').1)]

/-- **settle.Net.** -/
theorem net_any (o : List (List Int)) {k : Nat} (hk : 6000 ≤ k) : (MatOk o → settle_Net.f k o = some (netM o, 0)) ∧ (¬ MatOk o → settle_Net.f k o = some ([], 1)) := by
  obtain ⟨k, rfl⟩ : ∃ q, k = q + 1 := ⟨k - 1, by omega⟩
  by_cases h1 : 1 ≤ o.length
  · by_cases hn : o.length ≤ 64
    · have hf : settle_Net.f (k + 1) o = settle_Net.l0 k o (o.length : Int) o (o.length : Int) ((0 : Nat) : Int) := by
        unfold settle_Net.f
        rw [if_neg (by omega), decide_eq_false (by omega)]
        simp only [settle_Net.j0, Bool.false_eq_true, if_false]; rfl
      rw [hf]
      refine ⟨fun hm => ?_, fun hm => ?_⟩
      · exact net_l0 o h1 hn _ (fun _ k hk => net_l1 o (fun a ha => (hm.2.2 a ha).1) hn o.length 0 k (by omega) (by omega) (by omega)) (fun h => absurd hm h) o.length 0 k (by omega) (by omega) (by omega) (fun a ha => by omega)
      · exact net_l0 o h1 hn _ (fun h => absurd h hm) (fun _ => rfl) o.length 0 k (by omega) (by omega) (by omega) (fun a ha => by omega)
    · refine ⟨fun hm => absurd hm.2.1 hn, fun _ => ?_⟩
      unfold settle_Net.f
      rw [if_neg (by omega), decide_eq_true (by omega)]
      simp only [settle_Net.j0, if_true]
  · refine ⟨fun hm => absurd hm.1 h1, fun _ => ?_⟩
    unfold settle_Net.f
    rw [if_pos (by omega)]
    simp only [settle_Net.j0, if_true]
end Go.Proofs.Ytggdanifobagpaa.Pure
