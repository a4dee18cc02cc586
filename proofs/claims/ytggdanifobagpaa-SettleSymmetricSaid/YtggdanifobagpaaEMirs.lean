/- The two Mirrors; the example in pure form. -/
import Derived.Test.YtggdanifobagpaaEMatchAll
import Derived.Test.YtggdanifobagpaaWEqStruct
namespace Go.Proofs.Ytggdanifobagpaa.Ext
set_option linter.unusedVariables false
set_option linter.unusedSimpArgs false
open Go.RowKit Go.Lib Go.Proofs.Ytggdanifobagpaa.Q Go.Proofs.YtggdanifobagpaaW.PrintWords

def mirE (own : Int) (r : S36) : List S36 := if exch r.f1 = r.f1 then [] else [⟨r.f0, exch r.f1, own, r.f3, r.f4, r.f5, r.f6, r.f7⟩]
/-- The records as the other carrier would write them. -/
def mirL (own : Int) (l : List S36) : List S36 := l.flatMap (mirE own)
theorem mir_snoc (own : Int) (l : List S36) (r : S36) : mirL own (l ++ [r]) = mirL own l ++ mirE own r := by simp [mirL]
theorem mir_len (own : Int) (l : List S36) : (mirL own l).length ≤ l.length := by
  induction l with
  | nil => simp [mirL]
  | cons r l ih =>
    have h1 : (mirE own r).length ≤ 1 := by unfold mirE; split <;> simp
    have e : mirL own (r :: l) = mirE own r ++ mirL own l := rfl
    rw [e]
    simp only [List.length_append, List.length_cons]
    omega
theorem R_recs {w : World} {base : Nat} {v : Value} {xs : List S36} (h : w.ownsRow base 36 8 v xs.length (xs.flatMap cells36)) : Kd.R k36 36 w base (fun _ => True) v xs :=
  ⟨fun _ _ => trivial, xs.flatMap cells36, h, flat_length (enc := cells36) (k := 8) (fun _ => rfl) xs, fun j p hj => by
    show k36.M w base _ p (((xs.flatMap cells36).drop (j * 8)).take 8)
    rw [drop_take_flat xs j p hj]
    exact k36_mkM w base _ p⟩

set_option maxRecDepth 100000 in
set_option maxHeartbeats 4000000 in
theorem mirror_any (A0 : Option Addr) (c0 : Nat) (l : List S36) (own : Int) (w : World) (hr0 : Kd.C k36 w A0 l.length l) (hlen : l.length ≤ 1000000) :
    Calls Try.prog 14 #[.slice A0 l.length c0, .int .i64 own] w fun e w' => ∃ v : Value, e = .returned v ∧ w'.ownsRow w.heap.size 36 8 v (mirL own l).length ((mirL own l).flatMap cells36) ∧ Below w.heap.size w w' := by
  go_enter Try.func14, Try.ntmps14
  go_wp2
  go_loopw [5, 11] (fun vo i wr => ∃ k : Nat, k ≤ l.length ∧ i = .int .i64 k ∧ wr.ownsRow w.heap.size 36 8 vo (mirL own (l.take k)).length ((mirL own (l.take k)).flatMap cells36) ∧ Below w.heap.size w wr) (fun _ i _ => l.length - (intOf i).toNat)
  case atStart => exact ⟨0, by omega, rfl, ⟨rfl, .inl ⟨rfl, rfl⟩⟩, Below.refl _ _⟩
  case round =>
    obtain ⟨k, hk, rfl, hrow, hBk⟩ := hrel
    by_cases hlt : k < l.length
    · obtain ⟨ad, e130, hx0, hx1, hx2, hx3, hx4, hx5, hx6, hx7⟩ := at_T36 hr0 (k : Int) (by omega) (by omega)
      cases e130
      have hst := store36
      replace hx0 := (hBk.cell (World.block_lt_of_cell? w _ hx0)).trans hx0
      replace hx1 := (hBk.cell (World.block_lt_of_cell? w _ hx1)).trans hx1
      replace hx2 := (hBk.cell (World.block_lt_of_cell? w _ hx2)).trans hx2
      replace hx3 := (hBk.cell (World.block_lt_of_cell? w _ hx3)).trans hx3
      replace hx4 := (hBk.cell (World.block_lt_of_cell? w _ hx4)).trans hx4
      replace hx5 := (hBk.cell (World.block_lt_of_cell? w _ hx5)).trans hx5
      replace hx6 := (hBk.cell (World.block_lt_of_cell? w _ hx6)).trans hx6
      replace hx7 := (hBk.cell (World.block_lt_of_cell? w _ hx7)).trans hx7
      simp only [Int.toNat_natCast] at hx0 hx1 hx2 hx3 hx4 hx5 hx6 hx7
      have htake : l.take (k + 1) = l.take k ++ [rd_T36 l (k : Int)] := by
        rw [List.take_succ_eq_append_getElem hlt]
        unfold rd_T36
        rw [Int.toNat_natCast, List.getD_eq_getElem?_getD, List.getElem?_eq_getElem hlt]
        rfl
      generalize rd_T36 l (k : Int) = r at *
      have hms := mir_snoc own (l.take k) r
      rw [← htake] at hms
      have hml := mir_len own (l.take k)
      have htl : (l.take k).length = k := by simp; omega
      obtain ⟨po, co, rfl⟩ := row_slice hrow
      obtain ⟨W1, hW1⟩ : ∃ W1, wr.alloc (.cells #[.int .i64 r.f0, .int .i64 r.f1, .int .i64 r.f2, .string r.f3, .int .i64 r.f4, .int .i64 r.f5, .int .i64 r.f6, .int .i64 r.f7] 36) = W1 := ⟨_, rfl⟩
      have hs1 : W1.heap.size = wr.heap.size + 1 := by rw [← hW1]; simp
      have hB1 : Below w.heap.size w W1 := by rw [← hW1]; exact hBk.alloc hBk.size _
      have hrow1 : W1.ownsRow w.heap.size 36 8 (.slice po (mirL own (l.take k)).length co) (mirL own (l.take k)).length ((mirL own (l.take k)).flatMap cells36) := by rw [← hW1]; exact hrow.alloc _
      have hblk1 : W1.heap[wr.heap.size]? = some (.cells #[.int .i64 r.f0, .int .i64 r.f1, .int .i64 r.f2, .string r.f3, .int .i64 r.f4, .int .i64 r.f5, .int .i64 r.f6, .int .i64 r.f7] 36 (0, 0)) := by rw [← hW1]; exact heap_alloc_new wr _
      have hlo := hBk.size
      have q0 := cell_of_blk hblk1 0 _ rfl
      have q1 := cell_of_blk hblk1 1 _ rfl
      have q2 := cell_of_blk hblk1 2 _ rfl
      have q3 := cell_of_blk hblk1 3 _ rfl
      have q4 := cell_of_blk hblk1 4 _ rfl
      have q5 := cell_of_blk hblk1 5 _ rfl
      have q6 := cell_of_blk hblk1 6 _ rfl
      have q7 := cell_of_blk hblk1 7 _ rfl
      have fz := frozen_blk hblk1
      have hrow0 := hrow
      clear htake hrow hBk htl
      generalize hmm : mirL own (l.take k) = m at *
      have hml' : m.length ≤ 1000000 := by have : (l.take k).length ≤ l.length := by { rw [List.length_take]; omega }; omega
      have HC := Lib.hid (closure30 r.f1)
      by_cases hx : exch r.f1 = r.f1
      · have e : mirE own r = [] := by unfold mirE; rw [if_pos hx]
        rw [e, List.append_nil] at hms
        have HM := Lib.hid hms
        have HR := Lib.hid hrow1
        have HB := Lib.hid hB1
        clear hms hrow1 hB1 hblk1 hml hmm
        have hcl := closure30 r.f1
        rw [hx] at hcl
        clear hx e
        go_wp2_with (go_at_call 30; refine (hcl _).mono ?_; rintro e w' ⟨rfl, rfl⟩)
        go_roundw
        case rel => exact ⟨k + 1, by omega, by go_num, by rw [HM.out]; exact HR.out, HB.out⟩
        case measure => simp [intOf]; omega
      · have e : mirE own r = [⟨r.f0, exch r.f1, own, r.f3, r.f4, r.f5, r.f6, r.f7⟩] := by unfold mirE; rw [if_neg hx]
        rw [e] at hms
        have hcl := closure30 r.f1
        have nx : decide (exch r.f1 = r.f1) = false := decide_eq_false hx
        generalize exch r.f1 = rx at *
        have f1 := heap_setCell_blk hblk1 1 (.int .i64 rx)
        have f2 := heap_setCell_blk f1 2 (.int .i64 own)
        obtain ⟨W2, hW2⟩ : ∃ W2, (W1.setCell ⟨wr.heap.size, 1, none⟩ (.int .i64 rx)).setCell ⟨wr.heap.size, 2, none⟩ (.int .i64 own) = W2 := ⟨_, rfl⟩
        rw [hW2] at f2
        have p0 := cell_of_blk f2 0 _ rfl
        have p1 := cell_of_blk f2 1 _ rfl
        have p2 := cell_of_blk f2 2 _ rfl
        have p3 := cell_of_blk f2 3 _ rfl
        have p4 := cell_of_blk f2 4 _ rfl
        have p5 := cell_of_blk f2 5 _ rfl
        have p6 := cell_of_blk f2 6 _ rfl
        have p7 := cell_of_blk f2 7 _ rfl
        obtain ⟨i0, hi36, hz36, hs36, hb36⟩ := info36v
        have hrow2 : W2.ownsRow w.heap.size 36 8 (.slice po m.length co) m.length (m.flatMap cells36) := by
          rw [← hW2]
          have hne : ∀ j, (Value.slice po m.length co).ownBlock = some j → j ≠ wr.heap.size := fun j hj e => by
            rw [e] at hj
            rw [← hW1] at hrow1
            have := (hrow0.lt _ hj).2
            omega
          exact own_move hrow1 (fun j hj => by rw [Below.heap_setCell _ _ _ j (hne j hj), Below.heap_setCell _ _ _ j (hne j hj)])
        have hB2 : Below w.heap.size w W2 := by
          rw [← hW2]
          exact (hB1.setCell (p := ⟨wr.heap.size, 1, none⟩) hlo _).setCell (p := ⟨wr.heap.size, 2, none⟩) hlo _
        have hnews : ∀ j u, (cells36 ⟨r.f0, rx, own, r.f3, r.f4, r.f5, r.f6, r.f7⟩)[j]? = some u → (W2.alloc (.cells #[.int .i64 r.f0, .int .i64 rx, .int .i64 own, .string r.f3, .int .i64 r.f4, .int .i64 r.f5, .int .i64 r.f6, .int .i64 r.f7] 36)).cell? ((⟨W2.heap.size, 0, none⟩ : Addr).add j) = some u :=
          World.news_of_block (cs := #[.int .i64 r.f0, .int .i64 rx, .int .i64 own, .string r.f3, .int .i64 r.f4, .int .i64 r.f5, .int .i64 r.f6, .int .i64 r.f7]) (heap_alloc_new W2 _)
        have hone : ∀ u ∈ cells36 ⟨r.f0, rx, own, r.f3, r.f4, r.f5, r.f6, r.f7⟩, u.oneCell' = true := fun u hu => by simp [cells36] at hu; rcases hu with rfl | rfl | rfl | rfl | rfl | rfl | rfl | rfl <;> rfl
        have hmax : m.length + 1 ≤ maxLen := by unfold maxLen; omega
        have hbyt : (m.length + 1) * 72 ≤ 140737488355328 := by omega
        have hbase' : w.heap.size ≤ (W2.alloc (.cells #[.int .i64 r.f0, .int .i64 rx, .int .i64 own, .string r.f3, .int .i64 r.f4, .int .i64 r.f5, .int .i64 r.f6, .int .i64 r.f7] 36)).heap.size := by have := hB2.size; simp; omega
        have hfin : ∀ (w4 : World) (v' : Value), (W2.alloc (.cells #[.int .i64 r.f0, .int .i64 rx, .int .i64 own, .string r.f3, .int .i64 r.f4, .int .i64 r.f5, .int .i64 r.f6, .int .i64 r.f7] 36)).grownBy w4 (Value.slice po m.length co).ownBlock → w4.ownsRow w.heap.size 36 8 v' (m.length + 1) (m.flatMap cells36 ++ cells36 ⟨r.f0, rx, own, r.f3, r.f4, r.f5, r.f6, r.f7⟩) →
            w4.ownsRow w.heap.size 36 8 v' (mirL own (l.take (k + 1))).length ((mirL own (l.take (k + 1))).flatMap cells36) ∧ Below w.heap.size w w4 := fun w4 v' hg hown => by
          refine ⟨by rw [hms]; simpa using hown, ?_⟩
          exact (hB2.alloc hB2.size _).grown hg (by have := hB2.size; simp; omega) (fun j hj => (hrow2.lt j hj).1)
        have HF := Lib.hid hfin
        have HR2 := Lib.hid hrow2
        clear hrow1 hB1 hblk1 hml hmm f1 f2 hrow2 hB2 hfin hms e hrow0
        go_wp2_with (first | (go_at_call 30; refine (hcl _).mono ?_; rintro e w' ⟨rfl, rfl⟩) | (at_builtin; refine wpList_append_own_at _ rfl _ _ 22 rfl w.heap.size 36 i0 _ 8 72 Try.underlying22 hi36 hz36 hs36 hb36 rfl (by decide) (.slice po m.length co) m.length (m.flatMap cells36) rfl (HR2.out.alloc _) ⟨W2.heap.size, 0, none⟩ 1 1 (cells36 ⟨r.f0, rx, own, r.f3, r.f4, r.f5, r.f6, r.f7⟩) rfl rfl hnews hone hmax hbyt hbase' ?_; intro v' w4 hown' hg4 _ hat; obtain ⟨f1, f2⟩ := HF.out w4 v' hg4 hown'; clear hown' hg4 hat))
        go_roundw
        case rel => exact ⟨k + 1, by omega, by go_num, f1, f2⟩
        case measure => simp [intOf]; omega
    · obtain rfl : k = l.length := by omega
      rw [List.take_length] at hrow
      have HR := Lib.hid hrow
      have HB := Lib.hid hBk
      clear hrow hBk hr0
      go_wp2
      go_ret
      exact ⟨_, rfl, HR.out, HB.out⟩
end Go.Proofs.Ytggdanifobagpaa.Ext
namespace Go.Proofs.Ytggdanifobagpaa.Ext
set_option linter.unusedVariables false
set_option linter.unusedSimpArgs false
open Go.RowKit Go.Lib Go.Proofs.Ytggdanifobagpaa.Q Go.Proofs.YtggdanifobagpaaW.PrintWords

set_option maxRecDepth 100000 in
set_option maxHeartbeats 4000000 in
theorem rmirror_any (A0 : Option Addr) (c0 : Nat) (l : List S36) (own : Int) (w : World) (hr0 : Kd.C k36 w A0 l.length l) (hlen : l.length ≤ 1000000) :
    Calls Try.prog 25 #[.slice A0 l.length c0, .int .i64 own] w fun e w' => ∃ v : Value, e = .returned v ∧ w'.ownsRow w.heap.size 36 8 v (mirL own l).length ((mirL own l).flatMap cells36) ∧ Below w.heap.size w w' := by
  go_enter Try.func25, Try.ntmps25
  go_wp2
  go_loopw [5, 6] (fun vo i wr => ∃ k : Nat, k ≤ l.length ∧ i = .int .i64 k ∧ wr.ownsRow w.heap.size 36 8 vo (mirL own (l.take k)).length ((mirL own (l.take k)).flatMap cells36) ∧ Below w.heap.size w wr) (fun _ i _ => l.length - (intOf i).toNat)
  case atStart => exact ⟨0, by omega, rfl, ⟨rfl, .inl ⟨rfl, rfl⟩⟩, Below.refl _ _⟩
  case round =>
    obtain ⟨k, hk, rfl, hrow, hBk⟩ := hrel
    by_cases hlt : k < l.length
    · obtain ⟨ad, e130, hx0, hx1, hx2, hx3, hx4, hx5, hx6, hx7⟩ := at_T36 hr0 (k : Int) (by omega) (by omega)
      cases e130
      have hst := store36
      replace hx0 := (hBk.cell (World.block_lt_of_cell? w _ hx0)).trans hx0
      replace hx1 := (hBk.cell (World.block_lt_of_cell? w _ hx1)).trans hx1
      replace hx2 := (hBk.cell (World.block_lt_of_cell? w _ hx2)).trans hx2
      replace hx3 := (hBk.cell (World.block_lt_of_cell? w _ hx3)).trans hx3
      replace hx4 := (hBk.cell (World.block_lt_of_cell? w _ hx4)).trans hx4
      replace hx5 := (hBk.cell (World.block_lt_of_cell? w _ hx5)).trans hx5
      replace hx6 := (hBk.cell (World.block_lt_of_cell? w _ hx6)).trans hx6
      replace hx7 := (hBk.cell (World.block_lt_of_cell? w _ hx7)).trans hx7
      simp only [Int.toNat_natCast] at hx0 hx1 hx2 hx3 hx4 hx5 hx6 hx7
      have htake : l.take (k + 1) = l.take k ++ [rd_T36 l (k : Int)] := by
        rw [List.take_succ_eq_append_getElem hlt]
        unfold rd_T36
        rw [Int.toNat_natCast, List.getD_eq_getElem?_getD, List.getElem?_eq_getElem hlt]
        rfl
      generalize rd_T36 l (k : Int) = r at *
      have hms := mir_snoc own (l.take k) r
      rw [← htake] at hms
      have hml := mir_len own (l.take k)
      obtain ⟨po, co, rfl⟩ := row_slice hrow
      by_cases h2 : r.f1 = 2
      · rw [h2] at hx1
        have e : mirE own r = [⟨r.f0, 3, own, r.f3, r.f4, r.f5, r.f6, r.f7⟩] := by unfold mirE exch; simp [h2]
        rw [e] at hms
        clear h2 e
        obtain ⟨W1, hW1⟩ : ∃ W1, wr.alloc (.cells #[.int .i64 r.f0, .int .i64 2, .int .i64 r.f2, .string r.f3, .int .i64 r.f4, .int .i64 r.f5, .int .i64 r.f6, .int .i64 r.f7] 36) = W1 := ⟨_, rfl⟩
        have hs1 : W1.heap.size = wr.heap.size + 1 := by rw [← hW1]; simp
        have hB1 : Below w.heap.size w W1 := by rw [← hW1]; exact hBk.alloc hBk.size _
        have hrow1 : W1.ownsRow w.heap.size 36 8 (.slice po (mirL own (l.take k)).length co) (mirL own (l.take k)).length ((mirL own (l.take k)).flatMap cells36) := by rw [← hW1]; exact hrow.alloc _
        have hblk1 : W1.heap[wr.heap.size]? = some (.cells #[.int .i64 r.f0, .int .i64 2, .int .i64 r.f2, .string r.f3, .int .i64 r.f4, .int .i64 r.f5, .int .i64 r.f6, .int .i64 r.f7] 36 (0, 0)) := by rw [← hW1]; exact heap_alloc_new wr _
        have hy1 : ∀ v, (W1.setCell ⟨wr.heap.size, 2, none⟩ v).cell? ⟨(ad.add (k * 8)).block, (ad.add (k * 8)).off + 1, none⟩ = some (.int .i64 2) := fun v => by
          have hlt := World.block_lt_of_cell? _ _ hx1
          have hne : (ad.add (k * 8)).block ≠ wr.heap.size := by have : (ad.add (k * 8)).block < wr.heap.size := hlt; omega
          have e : (W1.setCell ⟨wr.heap.size, 2, none⟩ v).heap[(ad.add (k * 8)).block]? = wr.heap[(ad.add (k * 8)).block]? := by
            rw [Below.heap_setCell _ _ _ _ hne, ← hW1]
            exact Below.heap_alloc _ _ _ hlt
          rw [← hx1]
          unfold World.cell?
          rw [e]
        have hne0 : (ad.add (k * 8)).block ≠ wr.heap.size := by have := World.block_lt_of_cell? _ _ hx1; have h : (ad.add (k * 8)).block < wr.heap.size := this; omega
        have hne1 := Ne.symm hne0
        have hz1 : W1.cell? ⟨(ad.add (k * 8)).block, (ad.add (k * 8)).off + 1, none⟩ = some (.int .i64 2) := by
          have hlt := World.block_lt_of_cell? _ _ hx1
          rw [← hx1]
          unfold World.cell?
          rw [← hW1, Below.heap_alloc _ _ _ hlt]
        have hlo := hBk.size
        have q0 := cell_of_blk hblk1 0 _ rfl
        have q1 := cell_of_blk hblk1 1 _ rfl
        have q2 := cell_of_blk hblk1 2 _ rfl
        have q3 := cell_of_blk hblk1 3 _ rfl
        have q4 := cell_of_blk hblk1 4 _ rfl
        have q5 := cell_of_blk hblk1 5 _ rfl
        have q6 := cell_of_blk hblk1 6 _ rfl
        have q7 := cell_of_blk hblk1 7 _ rfl
        have fz := frozen_blk hblk1
        have hrow0 := hrow
        clear htake hrow hBk
        generalize hmm : mirL own (l.take k) = m at *
        have hml' : m.length ≤ 1000000 := by have : (l.take k).length ≤ l.length := by { rw [List.length_take]; omega }; omega
        have hy2 := hy1 (.int .i64 own)
        clear hy1
        have f1 := heap_setCell_blk hblk1 2 (.int .i64 own)
        have f2 := heap_setCell_blk f1 1 (.int .i64 3)
        obtain ⟨W2, hW2⟩ : ∃ W2, (W1.setCell ⟨wr.heap.size, 2, none⟩ (.int .i64 own)).setCell ⟨wr.heap.size, 1, none⟩ (.int .i64 3) = W2 := ⟨_, rfl⟩
        rw [hW2] at f2
        have p0 := cell_of_blk f2 0 _ rfl
        have p1 := cell_of_blk f2 1 _ rfl
        have p2 := cell_of_blk f2 2 _ rfl
        have p3 := cell_of_blk f2 3 _ rfl
        have p4 := cell_of_blk f2 4 _ rfl
        have p5 := cell_of_blk f2 5 _ rfl
        have p6 := cell_of_blk f2 6 _ rfl
        have p7 := cell_of_blk f2 7 _ rfl
        obtain ⟨i0, hi36, hz36, hs36, hb36⟩ := info36v
        have hrow2 : W2.ownsRow w.heap.size 36 8 (.slice po m.length co) m.length (m.flatMap cells36) := by
          rw [← hW2]
          have hne : ∀ j, (Value.slice po m.length co).ownBlock = some j → j ≠ wr.heap.size := fun j hj e => by
            rw [e] at hj
            have := (hrow0.lt _ hj).2
            omega
          exact own_move hrow1 (fun j hj => by rw [Below.heap_setCell _ _ _ j (hne j hj), Below.heap_setCell _ _ _ j (hne j hj)])
        have hB2 : Below w.heap.size w W2 := by
          rw [← hW2]
          exact (hB1.setCell (p := ⟨wr.heap.size, 2, none⟩) hlo _).setCell (p := ⟨wr.heap.size, 1, none⟩) hlo _
        have hnews : ∀ j u, (cells36 ⟨r.f0, 3, own, r.f3, r.f4, r.f5, r.f6, r.f7⟩)[j]? = some u → (W2.alloc (.cells #[.int .i64 r.f0, .int .i64 3, .int .i64 own, .string r.f3, .int .i64 r.f4, .int .i64 r.f5, .int .i64 r.f6, .int .i64 r.f7] 36)).cell? ((⟨W2.heap.size, 0, none⟩ : Addr).add j) = some u :=
          World.news_of_block (cs := #[.int .i64 r.f0, .int .i64 3, .int .i64 own, .string r.f3, .int .i64 r.f4, .int .i64 r.f5, .int .i64 r.f6, .int .i64 r.f7]) (heap_alloc_new W2 _)
        have hone : ∀ u ∈ cells36 ⟨r.f0, 3, own, r.f3, r.f4, r.f5, r.f6, r.f7⟩, u.oneCell' = true := fun u hu => by simp [cells36] at hu; rcases hu with rfl | rfl | rfl | rfl | rfl | rfl | rfl | rfl <;> rfl
        have hmax : m.length + 1 ≤ maxLen := by unfold maxLen; omega
        have hbyt : (m.length + 1) * 72 ≤ 140737488355328 := by omega
        have hbase' : w.heap.size ≤ (W2.alloc (.cells #[.int .i64 r.f0, .int .i64 3, .int .i64 own, .string r.f3, .int .i64 r.f4, .int .i64 r.f5, .int .i64 r.f6, .int .i64 r.f7] 36)).heap.size := by have := hB2.size; simp; omega
        have hfin : ∀ (w4 : World) (v' : Value), (W2.alloc (.cells #[.int .i64 r.f0, .int .i64 3, .int .i64 own, .string r.f3, .int .i64 r.f4, .int .i64 r.f5, .int .i64 r.f6, .int .i64 r.f7] 36)).grownBy w4 (Value.slice po m.length co).ownBlock → w4.ownsRow w.heap.size 36 8 v' (m.length + 1) (m.flatMap cells36 ++ cells36 ⟨r.f0, 3, own, r.f3, r.f4, r.f5, r.f6, r.f7⟩) →
            w4.ownsRow w.heap.size 36 8 v' (mirL own (l.take (k + 1))).length ((mirL own (l.take (k + 1))).flatMap cells36) ∧ Below w.heap.size w w4 := fun w4 v' hg hown => by
          refine ⟨by rw [hms]; simpa using hown, ?_⟩
          exact (hB2.alloc hB2.size _).grown hg (by have := hB2.size; simp; omega) (fun j hj => (hrow2.lt j hj).1)
        have HF := Lib.hid hfin
        have HR2 := Lib.hid hrow2
        clear hrow1 hB1 hblk1 hml hmm f1 f2 hrow2 hB2 hfin hms hrow0
        go_wp2_with (at_builtin; refine wpList_append_own_at _ rfl _ _ 22 rfl w.heap.size 36 i0 _ 8 72 Try.underlying22 hi36 hz36 hs36 hb36 rfl (by decide) (.slice po m.length co) m.length (m.flatMap cells36) rfl (HR2.out.alloc _) ⟨W2.heap.size, 0, none⟩ 1 1 (cells36 ⟨r.f0, 3, own, r.f3, r.f4, r.f5, r.f6, r.f7⟩) rfl rfl hnews hone hmax hbyt hbase' ?_; intro v' w4 hown' hg4 _ hat; obtain ⟨f1, f2⟩ := HF.out w4 v' hg4 hown'; clear hown' hg4 hat)
        go_roundw
        case rel => exact ⟨k + 1, by omega, by go_num, f1, f2⟩
        case measure => simp [intOf]; omega
      · have n2 : decide (r.f1 = 2) = false := decide_eq_false h2
        by_cases h3 : r.f1 = 3
        · rw [h3] at hx1
          have e : mirE own r = [⟨r.f0, 2, own, r.f3, r.f4, r.f5, r.f6, r.f7⟩] := by unfold mirE exch; simp [h3]
          rw [e] at hms
          clear h3 h2 n2 e
          obtain ⟨W1, hW1⟩ : ∃ W1, wr.alloc (.cells #[.int .i64 r.f0, .int .i64 3, .int .i64 r.f2, .string r.f3, .int .i64 r.f4, .int .i64 r.f5, .int .i64 r.f6, .int .i64 r.f7] 36) = W1 := ⟨_, rfl⟩
          have hs1 : W1.heap.size = wr.heap.size + 1 := by rw [← hW1]; simp
          have hB1 : Below w.heap.size w W1 := by rw [← hW1]; exact hBk.alloc hBk.size _
          have hrow1 : W1.ownsRow w.heap.size 36 8 (.slice po (mirL own (l.take k)).length co) (mirL own (l.take k)).length ((mirL own (l.take k)).flatMap cells36) := by rw [← hW1]; exact hrow.alloc _
          have hblk1 : W1.heap[wr.heap.size]? = some (.cells #[.int .i64 r.f0, .int .i64 3, .int .i64 r.f2, .string r.f3, .int .i64 r.f4, .int .i64 r.f5, .int .i64 r.f6, .int .i64 r.f7] 36 (0, 0)) := by rw [← hW1]; exact heap_alloc_new wr _
          have hy1 : ∀ v, (W1.setCell ⟨wr.heap.size, 2, none⟩ v).cell? ⟨(ad.add (k * 8)).block, (ad.add (k * 8)).off + 1, none⟩ = some (.int .i64 3) := fun v => by
            have hlt := World.block_lt_of_cell? _ _ hx1
            have hne : (ad.add (k * 8)).block ≠ wr.heap.size := by have : (ad.add (k * 8)).block < wr.heap.size := hlt; omega
            have e : (W1.setCell ⟨wr.heap.size, 2, none⟩ v).heap[(ad.add (k * 8)).block]? = wr.heap[(ad.add (k * 8)).block]? := by
              rw [Below.heap_setCell _ _ _ _ hne, ← hW1]
              exact Below.heap_alloc _ _ _ hlt
            rw [← hx1]
            unfold World.cell?
            rw [e]
          have hne0 : (ad.add (k * 8)).block ≠ wr.heap.size := by have := World.block_lt_of_cell? _ _ hx1; have h : (ad.add (k * 8)).block < wr.heap.size := this; omega
          have hne1 := Ne.symm hne0
          have hz1 : W1.cell? ⟨(ad.add (k * 8)).block, (ad.add (k * 8)).off + 1, none⟩ = some (.int .i64 3) := by
            have hlt := World.block_lt_of_cell? _ _ hx1
            rw [← hx1]
            unfold World.cell?
            rw [← hW1, Below.heap_alloc _ _ _ hlt]
          have hlo := hBk.size
          have q0 := cell_of_blk hblk1 0 _ rfl
          have q1 := cell_of_blk hblk1 1 _ rfl
          have q2 := cell_of_blk hblk1 2 _ rfl
          have q3 := cell_of_blk hblk1 3 _ rfl
          have q4 := cell_of_blk hblk1 4 _ rfl
          have q5 := cell_of_blk hblk1 5 _ rfl
          have q6 := cell_of_blk hblk1 6 _ rfl
          have q7 := cell_of_blk hblk1 7 _ rfl
          have fz := frozen_blk hblk1
          have hrow0 := hrow
          clear htake hrow hBk
          generalize hmm : mirL own (l.take k) = m at *
          have hml' : m.length ≤ 1000000 := by have : (l.take k).length ≤ l.length := by { rw [List.length_take]; omega }; omega
          have hy2 := hy1 (.int .i64 own)
          clear hy1
          have f1 := heap_setCell_blk hblk1 2 (.int .i64 own)
          have f2 := heap_setCell_blk f1 1 (.int .i64 2)
          obtain ⟨W2, hW2⟩ : ∃ W2, (W1.setCell ⟨wr.heap.size, 2, none⟩ (.int .i64 own)).setCell ⟨wr.heap.size, 1, none⟩ (.int .i64 2) = W2 := ⟨_, rfl⟩
          rw [hW2] at f2
          have p0 := cell_of_blk f2 0 _ rfl
          have p1 := cell_of_blk f2 1 _ rfl
          have p2 := cell_of_blk f2 2 _ rfl
          have p3 := cell_of_blk f2 3 _ rfl
          have p4 := cell_of_blk f2 4 _ rfl
          have p5 := cell_of_blk f2 5 _ rfl
          have p6 := cell_of_blk f2 6 _ rfl
          have p7 := cell_of_blk f2 7 _ rfl
          obtain ⟨i0, hi36, hz36, hs36, hb36⟩ := info36v
          have hrow2 : W2.ownsRow w.heap.size 36 8 (.slice po m.length co) m.length (m.flatMap cells36) := by
            rw [← hW2]
            have hne : ∀ j, (Value.slice po m.length co).ownBlock = some j → j ≠ wr.heap.size := fun j hj e => by
              rw [e] at hj
              have := (hrow0.lt _ hj).2
              omega
            exact own_move hrow1 (fun j hj => by rw [Below.heap_setCell _ _ _ j (hne j hj), Below.heap_setCell _ _ _ j (hne j hj)])
          have hB2 : Below w.heap.size w W2 := by
            rw [← hW2]
            exact (hB1.setCell (p := ⟨wr.heap.size, 2, none⟩) hlo _).setCell (p := ⟨wr.heap.size, 1, none⟩) hlo _
          have hnews : ∀ j u, (cells36 ⟨r.f0, 2, own, r.f3, r.f4, r.f5, r.f6, r.f7⟩)[j]? = some u → (W2.alloc (.cells #[.int .i64 r.f0, .int .i64 2, .int .i64 own, .string r.f3, .int .i64 r.f4, .int .i64 r.f5, .int .i64 r.f6, .int .i64 r.f7] 36)).cell? ((⟨W2.heap.size, 0, none⟩ : Addr).add j) = some u :=
            World.news_of_block (cs := #[.int .i64 r.f0, .int .i64 2, .int .i64 own, .string r.f3, .int .i64 r.f4, .int .i64 r.f5, .int .i64 r.f6, .int .i64 r.f7]) (heap_alloc_new W2 _)
          have hone : ∀ u ∈ cells36 ⟨r.f0, 2, own, r.f3, r.f4, r.f5, r.f6, r.f7⟩, u.oneCell' = true := fun u hu => by simp [cells36] at hu; rcases hu with rfl | rfl | rfl | rfl | rfl | rfl | rfl | rfl <;> rfl
          have hmax : m.length + 1 ≤ maxLen := by unfold maxLen; omega
          have hbyt : (m.length + 1) * 72 ≤ 140737488355328 := by omega
          have hbase' : w.heap.size ≤ (W2.alloc (.cells #[.int .i64 r.f0, .int .i64 2, .int .i64 own, .string r.f3, .int .i64 r.f4, .int .i64 r.f5, .int .i64 r.f6, .int .i64 r.f7] 36)).heap.size := by have := hB2.size; simp; omega
          have hfin : ∀ (w4 : World) (v' : Value), (W2.alloc (.cells #[.int .i64 r.f0, .int .i64 2, .int .i64 own, .string r.f3, .int .i64 r.f4, .int .i64 r.f5, .int .i64 r.f6, .int .i64 r.f7] 36)).grownBy w4 (Value.slice po m.length co).ownBlock → w4.ownsRow w.heap.size 36 8 v' (m.length + 1) (m.flatMap cells36 ++ cells36 ⟨r.f0, 2, own, r.f3, r.f4, r.f5, r.f6, r.f7⟩) →
              w4.ownsRow w.heap.size 36 8 v' (mirL own (l.take (k + 1))).length ((mirL own (l.take (k + 1))).flatMap cells36) ∧ Below w.heap.size w w4 := fun w4 v' hg hown => by
            refine ⟨by rw [hms]; simpa using hown, ?_⟩
            exact (hB2.alloc hB2.size _).grown hg (by have := hB2.size; simp; omega) (fun j hj => (hrow2.lt j hj).1)
          have HF := Lib.hid hfin
          have HR2 := Lib.hid hrow2
          clear hrow1 hB1 hblk1 hml hmm f1 f2 hrow2 hB2 hfin hms hrow0
          go_wp2_with (at_builtin; refine wpList_append_own_at _ rfl _ _ 22 rfl w.heap.size 36 i0 _ 8 72 Try.underlying22 hi36 hz36 hs36 hb36 rfl (by decide) (.slice po m.length co) m.length (m.flatMap cells36) rfl (HR2.out.alloc _) ⟨W2.heap.size, 0, none⟩ 1 1 (cells36 ⟨r.f0, 2, own, r.f3, r.f4, r.f5, r.f6, r.f7⟩) rfl rfl hnews hone hmax hbyt hbase' ?_; intro v' w4 hown' hg4 _ hat; obtain ⟨f1, f2⟩ := HF.out w4 v' hg4 hown'; clear hown' hg4 hat)
          go_roundw
          case rel => exact ⟨k + 1, by omega, by go_num, f1, f2⟩
          case measure => simp [intOf]; omega
        · have n3 : decide (r.f1 = 3) = false := decide_eq_false h3
          obtain ⟨W1, hW1⟩ : ∃ W1, wr.alloc (.cells #[.int .i64 r.f0, .int .i64 r.f1, .int .i64 r.f2, .string r.f3, .int .i64 r.f4, .int .i64 r.f5, .int .i64 r.f6, .int .i64 r.f7] 36) = W1 := ⟨_, rfl⟩
          have hs1 : W1.heap.size = wr.heap.size + 1 := by rw [← hW1]; simp
          have hB1 : Below w.heap.size w W1 := by rw [← hW1]; exact hBk.alloc hBk.size _
          have hrow1 : W1.ownsRow w.heap.size 36 8 (.slice po (mirL own (l.take k)).length co) (mirL own (l.take k)).length ((mirL own (l.take k)).flatMap cells36) := by rw [← hW1]; exact hrow.alloc _
          have hblk1 : W1.heap[wr.heap.size]? = some (.cells #[.int .i64 r.f0, .int .i64 r.f1, .int .i64 r.f2, .string r.f3, .int .i64 r.f4, .int .i64 r.f5, .int .i64 r.f6, .int .i64 r.f7] 36 (0, 0)) := by rw [← hW1]; exact heap_alloc_new wr _
          have hy1 : ∀ v, (W1.setCell ⟨wr.heap.size, 2, none⟩ v).cell? ⟨(ad.add (k * 8)).block, (ad.add (k * 8)).off + 1, none⟩ = some (.int .i64 r.f1) := fun v => by
            have hlt := World.block_lt_of_cell? _ _ hx1
            have hne : (ad.add (k * 8)).block ≠ wr.heap.size := by have : (ad.add (k * 8)).block < wr.heap.size := hlt; omega
            have e : (W1.setCell ⟨wr.heap.size, 2, none⟩ v).heap[(ad.add (k * 8)).block]? = wr.heap[(ad.add (k * 8)).block]? := by
              rw [Below.heap_setCell _ _ _ _ hne, ← hW1]
              exact Below.heap_alloc _ _ _ hlt
            rw [← hx1]
            unfold World.cell?
            rw [e]
          have hne0 : (ad.add (k * 8)).block ≠ wr.heap.size := by have := World.block_lt_of_cell? _ _ hx1; have h : (ad.add (k * 8)).block < wr.heap.size := this; omega
          have hne1 := Ne.symm hne0
          have hz1 : W1.cell? ⟨(ad.add (k * 8)).block, (ad.add (k * 8)).off + 1, none⟩ = some (.int .i64 r.f1) := by
            have hlt := World.block_lt_of_cell? _ _ hx1
            rw [← hx1]
            unfold World.cell?
            rw [← hW1, Below.heap_alloc _ _ _ hlt]
          have hlo := hBk.size
          have q0 := cell_of_blk hblk1 0 _ rfl
          have q1 := cell_of_blk hblk1 1 _ rfl
          have q2 := cell_of_blk hblk1 2 _ rfl
          have q3 := cell_of_blk hblk1 3 _ rfl
          have q4 := cell_of_blk hblk1 4 _ rfl
          have q5 := cell_of_blk hblk1 5 _ rfl
          have q6 := cell_of_blk hblk1 6 _ rfl
          have q7 := cell_of_blk hblk1 7 _ rfl
          have fz := frozen_blk hblk1
          have hrow0 := hrow
          clear htake hrow hBk
          generalize hmm : mirL own (l.take k) = m at *
          have hml' : m.length ≤ 1000000 := by have : (l.take k).length ≤ l.length := by { rw [List.length_take]; omega }; omega
          have hy2 := hy1 (.int .i64 own)
          clear hy1
          have e : mirE own r = [] := by unfold mirE exch; simp [h2, h3]
          rw [e, List.append_nil] at hms
          have hrow2 : (W1.setCell ⟨wr.heap.size, 2, none⟩ (.int .i64 own)).ownsRow w.heap.size 36 8 (.slice po m.length co) m.length (m.flatMap cells36) := by
            have hne : ∀ j, (Value.slice po m.length co).ownBlock = some j → j ≠ wr.heap.size := fun j hj e => by
              rw [e] at hj
              have := (hrow0.lt _ hj).2
              omega
            exact own_move hrow1 (fun j hj => Below.heap_setCell _ _ _ j (hne j hj))
          have hB2 := hB1.setCell (p := ⟨wr.heap.size, 2, none⟩) hlo (.int .i64 own)
          have HM := Lib.hid hms
          have HR := Lib.hid hrow2
          have HB := Lib.hid hB2
          clear hms hrow1 hB1 hblk1 hml hmm hrow2 hB2 hrow0 e
          go_wp2
          go_roundw
          case rel => exact ⟨k + 1, by omega, by go_num, by rw [HM.out]; exact HR.out, HB.out⟩
          case measure => simp [intOf]; omega
    · obtain rfl : k = l.length := by omega
      rw [List.take_length] at hrow
      have HR := Lib.hid hrow
      have HB := Lib.hid hBk
      clear hrow hBk hr0
      go_wp2
      go_ret
      exact ⟨_, rfl, HR.out, HB.out⟩
end Go.Proofs.Ytggdanifobagpaa.Ext
namespace Go.Proofs.Ytggdanifobagpaa.Ext
set_option linter.unusedVariables false
set_option linter.unusedSimpArgs false
open Go.RowKit Go.Lib Go.Proofs.Ytggdanifobagpaa.Q Go.Proofs.YtggdanifobagpaaW.PrintWords

def ra : S36 := ⟨7, 2, 0, ⟨#[]⟩, 100, 160, 2, 120⟩
def rb : S36 := ⟨7, 3, 0, ⟨#[]⟩, 101, 160, 2, 118⟩

theorem sane_keys : keysL [ra] [rb] = [(7, 2)] := by
  simp [keysL, ra, rb, insK, exch, ltKey]
theorem sane_LL : LL [ra] [rb] (7, 2) false = [ra] ∧ LL [ra] [rb] (7, 2) true = [rb] := by
  rw [LL_false, LL_true]
  simp [ra, rb, exch]
theorem sane_kind (tol : Int) : kindOf tol [ra] [rb] = if tol < 1 then 3 else 0 := by
  have hc : ∀ x : Int, Lib.compact [x] = [x] := fun x => rfl
  unfold kindOf misK sumB sumR
  simp only [List.mergeSort_singleton, List.map_cons, List.map_nil, hc, durOf, ra, rb, acc, accStep, List.foldl_cons, List.foldl_nil]
  have hm : max (1 : Int) (-1) = 1 := by decide
  by_cases h : tol < 1
  · simp [h, hm]
  · simp [h, hm] <;> omega
theorem sane_set (tol : Int) : setL tol (LL [ra] [rb]) (keysL [ra] [rb]) = if tol < 1 then ⟨0, [], [⟨3, 7, 120, 118⟩]⟩ else ⟨118, [7], []⟩ := by
  rw [sane_keys]
  unfold setL setStep
  simp only [List.foldl_cons, List.foldl_nil, sane_LL.1, sane_LL.2, sane_kind]
  have u1 : unitsOf [ra] = 120 := rfl
  have u2 : unitsOf [rb] = 118 := rfl
  rw [u1, u2]
  have hm : min (120 : Int) 118 = 118 := by decide
  by_cases h : tol < 1
  · simp [h]
  · simp [h, hm]
theorem sane_ok : allOk [ra] = true ∧ allOk [rb] = true ∧ limE [ra] = 0 ∧ limE [rb] = 0 := by
  refine ⟨by decide, by decide, ?_, ?_⟩
  · unfold limE; simp [unitsOf, ra]
  · unfold limE; simp [unitsOf, rb]
theorem sane1 : matchL [ra] [rb] 1 = (118, [7], [], 0) := by
  unfold matchL
  rw [if_neg (by simp [sane_ok.1, sane_ok.2.1]), if_neg (by simp [sane_ok.2.2.1, sane_ok.2.2.2]), sane_set, if_neg (by decide)]
  show (wrap64 118, [7], ([] : List S38), (0 : Int)) = _
  rw [wrap64_id 118 (by decide) (by decide)]
theorem sane0 : matchL [ra] [rb] 0 = (0, [], [⟨3, 7, 120, 118⟩], 0) := by
  unfold matchL
  rw [if_neg (by simp [sane_ok.1, sane_ok.2.1]), if_neg (by simp [sane_ok.2.2.1, sane_ok.2.2.2]), sane_set, if_pos (by decide)]
  show (wrap64 0, ([] : List Int), [(⟨3, 7, 120, 118⟩ : S38)], (0 : Int)) = _
  rw [wrap64_id 0 (by decide) (by decide)]
theorem saneN : matchL [ra] [rb] (-1) = (0, [], [], 1) := by
  unfold matchL
  rw [if_pos (.inl (by decide))]

theorem f_eq (l0 l1 : List S36) (h0 : l0.length ≤ 1000000) (h1 : l1.length ≤ 1000000) (t : Int) : settle_Match.f l0 l1 t = some (matchL l0 l1 t) := by
  unfold settle_Match.f
  rw [if_pos ⟨h0, h1⟩]
theorem sane_facts {ya yb : List S36} {t109 : Int} {t110 : List Int} {t113 : List S38} {t116 t118 : Int} {t119 : List Int} {t122 : List S38} {t125 t127 : Int} {t128 : List Int} {t131 : List S38} {t134 : Int} (ha : ya = [ra]) (hb : yb = [rb])
    (h1 : settle_Match.f ya yb 1 = some (t109, t110, t113, t116)) (h2 : settle_Match.f ya yb 0 = some (t118, t119, t122, t125)) (h3 : settle_Match.f ya yb (-1) = some (t127, t128, t131, t134)) :
    t109 = 118 ∧ t110 = [7] ∧ t113 = [] ∧ t116 = 0 ∧ t118 = 0 ∧ t119 = [] ∧ t122 = [⟨3, 7, 120, 118⟩] ∧ t125 = 0 ∧ t134 = 1 := by
  subst ha hb
  rw [f_eq _ _ (by simp) (by simp), sane1] at h1
  rw [f_eq _ _ (by simp) (by simp), sane0] at h2
  rw [f_eq _ _ (by simp) (by simp), saneN] at h3
  have e1 := Option.some.inj h1
  have e2 := Option.some.inj h2
  have e3 := Option.some.inj h3
  simp only [Prod.mk.injEq] at e1 e2 e3
  obtain ⟨a1, a2, a3, a4⟩ := e1
  obtain ⟨b1, b2, b3, b4⟩ := e2
  obtain ⟨_, _, _, d4⟩ := e3
  exact ⟨a1.symm, a2.symm, a3.symm, a4.symm, b1.symm, b2.symm, b3.symm, b4.symm, d4.symm⟩
end Go.Proofs.Ytggdanifobagpaa.Ext
