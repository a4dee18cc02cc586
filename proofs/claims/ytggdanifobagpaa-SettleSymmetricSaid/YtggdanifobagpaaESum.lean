/- settle.summarize: what it answers of a row of records. -/
import Derived.Test.YtggdanifobagpaaESumAB
import Derived.Test.YtggdanifobagpaaEAdd
namespace Go.Proofs.Ytggdanifobagpaa.Ext
set_option linter.unusedVariables false
set_option linter.unusedSimpArgs false
open Go.RowKit Go.Lib Go.Proofs.Ytggdanifobagpaa.Q Go.Proofs.YtggdanifobagpaaW.PrintWords

theorem wrap_id (x : Int) (h1 : -9223372036854775808 ≤ x) (h2 : x ≤ 9223372036854775807) : IntKind.i64.wrap x = x := by
  simp [IntKind.wrap, IntKind.bits, IntKind.signed]
  omega

theorem info68s : (Try.prog.info? 68).map (·.size) = some 4 := by kernel_rfl
/-- What is stored is what lies there: nothing turns. -/
theorem storeAt_same {W : World} {g : Nat} {cs : Array Value} {t : TypeId} (hb : W.heap[g]? = some (.cells cs t (0, 0))) (hi : (Try.prog.info? t).map (·.size) = some cs.size) (h1 : cs.all (·.oneCell') = true) :
    (Instr.storeAt t (.pointer (some ⟨g, 0, none⟩)) (.agg cs)).run Try.prog W = .ok () W := by
  simp only [Instr.storeAt, Instr.sureAddr, Sem.run_bind, Sem.run_pure, Result.andThen]
  rw [run_storeVar_row W g t t cs cs hb hi rfl h1]
  have e : W.heap.modify g (fun o => match o with | .cells _ t f => .cells cs t f | o => o) = W.heap := by
    apply Array.ext_getElem?
    intro i
    rw [Array.getElem?_modify]
    by_cases h : g = i
    · subst h; simp [hb]
    · simp [h]
  have hw : W.setRow g cs = W := congrArg (fun h => ({ W with heap := h } : World)) e
  rw [hw]

theorem setCell_self {W : World} {g : Nat} {cs : Array Value} {t : TypeId} (hb : W.heap[g]? = some (.cells cs t (0, 0))) (i : Nat) (v : Value) (hv : cs[i]? = some v) : W.setCell ⟨g, i, none⟩ v = W := by
  rw [Go.Sort.setCell_eq]
  unfold Go.Sort.mapBlock
  have e : W.heap.modify g (Go.Sort.onCells fun x => x.setIfInBounds i v) = W.heap := by
    apply Array.ext_getElem?
    intro j
    rw [Array.getElem?_modify]
    by_cases h : g = j
    · subst h
      rw [hb]
      have : cs.setIfInBounds i v = cs := by
        apply Array.ext_getElem?
        intro k
        rw [Array.getElem?_setIfInBounds]
        by_cases hk : i = k
        · subst hk
          have hlt := (Array.getElem?_eq_some_iff.1 hv).1
          simp [hlt] at hv ⊢
          exact hv.symm
        · simp [hk]
      simp [Go.Sort.onCells, this]
    · simp [h]
  exact congrArg (fun h => ({ W with heap := h } : World)) e

/-- k records have been added up. -/
structure SumAt (w0 : World) (S : Nat) (v : Value) (n : Nat) (ts : List S36) (k : Nat) (W : World) : Prop where
  blk : ∃ vr, W.heap[S]? = some (.cells #[.int .i64 (acc (ts.take k)).u, .int .i64 (acc (ts.take k)).d, .bool (acc (ts.take k)).b, vr] 68 (0, 0)) ∧ W.ownsRow w0.heap.size 3 1 vr k ((acc (ts.take k)).rs.map encI64)
  row : W.ownsRow w0.heap.size 36 8 v n (ts.flatMap cells36)
  low : Below w0.heap.size w0 W
  base : w0.heap.size ≤ S

set_option maxRecDepth 100000 in
set_option maxHeartbeats 2000000 in
theorem summarize_any (lo : Nat) (v : Value) (l : List S36) (w : World) (hrow : w.ownsRow lo 36 8 v l.length (l.flatMap cells36)) (hgood : ∀ r ∈ l, Good r) (hu : unitsOf l ≤ 1152921504606846976) (hlen : l.length ≤ 2048) :
    Calls Try.prog 36 #[v] w fun e w' => ∃ (ts : List S36) (vr : Value), ts.Perm l ∧ ts.Pairwise (fun a b => a.f4 ≤ b.f4) ∧ e = .returned (.agg #[.int .i64 (acc ts).u, .int .i64 (acc ts).d, .bool (acc ts).b, vr]) ∧
      w'.ownsRow w.heap.size 3 1 vr (Lib.compact (acc ts).rs).length ((Lib.compact (acc ts).rs).map encI64) ∧ Below w.heap.size w w' := by
  obtain ⟨W0, hW0⟩ : ∃ W0, w.alloc (.cells #[.int .i64 0, .int .i64 0, .bool false, .slice none 0 0] 68) = W0 := ⟨_, rfl⟩
  have hs0 : W0.heap.size = w.heap.size + 1 := by rw [← hW0]; simp
  have hB0 : Below w.heap.size w W0 := by rw [← hW0]; exact (Below.refl _ _).alloc (Nat.le_refl _) _
  have hrow0 : W0.ownsRow lo 36 8 v l.length (l.flatMap cells36) := by rw [← hW0]; exact hrow.alloc _
  have hblk0 : W0.heap[w.heap.size]? = some (.cells #[.int .i64 0, .int .i64 0, .bool false, .slice none 0 0] 68 (0, 0)) := by rw [← hW0]; exact heap_alloc_new w _
  have hcl := clone_any lo v l W0 hrow0 (by omega)
  go_enter Try.func36, Try.ntmps36
  go_wp2_with (go_at_call 44; refine hcl.mono ?_; rintro e w1 ⟨v1, rfl, hrow1, hb1⟩; obtain ⟨A, c, rfl⟩ := row_slice hrow1)
  have hsort := sort_recs_row W0.heap.size (.slice A l.length c) l w1 hrow1 (by omega)
  go_wp2_with (go_at_call 45; refine hsort.mono ?_; rintro e w2 ⟨rfl, ts, hperm, hsorted, hrow2, hg2⟩)
  have hl := hperm.length_eq
  have hgoodt : ∀ r ∈ ts, Good r := fun r hr => hgood r (hperm.mem_iff.1 hr)
  have hut : unitsOf ts ≤ 1152921504606846976 := by rw [units_perm hperm]; exact hu
  have hS2 : SumAt w w.heap.size (.slice A l.length c) l.length ts 0 w2 := by
    refine ⟨⟨.slice none 0 0, ?_, ⟨rfl, .inl ⟨rfl, rfl⟩⟩⟩, ?_, ?_, Nat.le_refl _⟩
    · show w2.heap[w.heap.size]? = _
      have e1 : some w.heap.size ≠ (Value.slice A l.length c).ownBlock := fun e => by
        have := (hrow1.lt w.heap.size e.symm).1
        omega
      rw [hg2.block w.heap.size (by have := hb1.size; omega) e1, hb1.block w.heap.size (by omega)]
      exact hblk0
    · have := hrow2
      refine ⟨this.1, this.2.imp id ?_⟩
      rintro ⟨g, cap, cur, h1, h2, h3⟩
      exact ⟨g, cap, cur, h1, by omega, h3⟩
    · have h1 : Below w.heap.size w w1 := hB0.trans (hb1.mono (by omega))
      exact h1.grown hg2 h1.size (fun j hj => by have := (hrow1.lt j hj).1; omega)
  have hlent : ts.length ≤ 2048 := by omega
  clear hcl hsort hrow2 hg2 hrow1 hb1 hrow0 hblk0 hB0 hrow hW0 hs0 hgood hu hlen
  go_loopw [3, 12] (fun e i wr => ∃ k : Nat, k ≤ l.length ∧ i = .int .i64 k ∧ e = .int .i64 (acc (ts.take k)).e ∧ SumAt w w.heap.size (.slice A l.length c) l.length ts k wr) (fun e i _ => l.length - (intOf i).toNat)
  case atStart => exact ⟨0, by omega, rfl, rfl, hS2⟩
  case round =>
    obtain ⟨k, hk, rfl, rfl, hS⟩ := hrel
    by_cases hlt : k < l.length
    · have hltt : k < ts.length := by omega
      obtain ⟨⟨vr, hblk, hvr⟩, hrow, hlow, hbase⟩ := hS
      obtain ⟨A', c', eA, hC⟩ := reads_of_row (by rw [hl]; exact hrow : wr.ownsRow w.heap.size 36 8 (.slice A l.length c) ts.length (ts.flatMap cells36))
      obtain ⟨ad, e130, hx0, hx1, hx2, hx3, hx4, hx5, hx6, hx7⟩ := at_T36 hC (k : Int) (by omega) (by omega)
      subst e130
      have eA' : A = some ad := by simp at eA; exact eA.1
      subst eA'
      simp only [Int.toNat_natCast] at hx0 hx1 hx2 hx3 hx4 hx5 hx6 hx7
      have hmem : rd_T36 ts (k : Int) ∈ ts := by
        unfold rd_T36
        rw [Int.toNat_natCast, List.getD_eq_getElem?_getD, List.getElem?_eq_getElem hltt]
        exact List.getElem_mem hltt
      have htake : ts.take (k + 1) = ts.take k ++ [rd_T36 ts (k : Int)] := by
        rw [List.take_succ_eq_append_getElem hltt]
        unfold rd_T36
        rw [Int.toNat_natCast, List.getD_eq_getElem?_getD, List.getElem?_eq_getElem hltt]
        rfl
      generalize rd_T36 ts (k : Int) = r at *
      have hgr := hgoodt r hmem
      have hstep := acc_snoc (ts.take k) r
      rw [← htake] at hstep
      have hu1 := units_take ts hgoodt k
      have hu2 := units_take ts hgoodt (k + 1)
      rw [htake, units_app] at hu2
      have hd1 := dur_le (ts.take k) (fun x hx => hgoodt x (List.mem_of_mem_take hx))
      have he1 := acc_e (ts.take k) (fun x hx => hgoodt x (List.mem_of_mem_take hx))
      have hrl : (acc (ts.take k)).rs.length = k := by rw [acc_rs]; simp; omega
      have htl : (ts.take k).length = k := by simp; omega
      rw [htl] at hd1
      have hau := acc_u (ts.take k)
      have had := acc_d (ts.take k)
      have hur : unitsOf [r] = r.f7 := by simp [unitsOf]
      generalize acc (ts.take k) = a at *
      obtain ⟨au, adu, ae, ab, ars⟩ := a
      simp only at hau had he1 hrl hblk hvr hstep
      unfold Good at hgr
      have hw1 := wrap_id (au + r.f7) (by omega) (by omega)
      have hw2 := wrap_id (r.f5 - r.f4) (by omega) (by omega)
      have hw3 := wrap_id (adu + (r.f5 - r.f4)) (by omega) (by omega)
      have hst := store36
      obtain ⟨i0, hi3, hz3, hs3, hb3⟩ := info_parts info3
      obtain ⟨pv, cv, rfl⟩ := row_slice hvr
      have s0 := cell_of_blk hblk 0 _ rfl
      have s1 := cell_of_blk hblk 1 _ rfl
      have s2 := cell_of_blk hblk 2 _ rfl
      have s3 := cell_of_blk hblk 3 _ rfl
      have hSlt : w.heap.size < wr.heap.size := (Array.getElem?_eq_some_iff.1 hblk).1
      have hfS : ∀ j, wr.frozen? ⟨w.heap.size, j, none⟩ = false := fun j => by simp [World.frozen?, hblk]
      have hvne : (Value.slice pv k cv).ownBlock ≠ some w.heap.size := fun e => by
        obtain ⟨cells, hc⟩ := own_typed hvr _ e
        rw [hblk] at hc; cases hc
      have hrne : (Value.slice (some ad) l.length c).ownBlock ≠ some w.heap.size := fun e => by
        obtain ⟨cells, hc⟩ := own_typed hrow _ e
        rw [hblk] at hc; cases hc
      have hvrr : ∀ j, (Value.slice pv k cv).ownBlock = some j → (Value.slice (some ad) l.length c).ownBlock ≠ some j := fun j h1 h2 => by
        obtain ⟨cells, hc⟩ := own_typed hvr _ h1
        obtain ⟨cells', hc'⟩ := own_typed hrow _ h2
        rw [hc] at hc'; cases hc'
      have hXheap : ∀ (x y z : Value) (o : Obj) j, j < wr.heap.size → j ≠ w.heap.size → (((((wr.setCell ⟨w.heap.size, 0, none⟩ x).setCell ⟨w.heap.size, 1, none⟩ y).setCell ⟨w.heap.size, 2, none⟩ z).alloc (.cells #[.int .i64 r.f0, .int .i64 r.f1, .int .i64 r.f2, .string r.f3, .int .i64 r.f4, .int .i64 r.f5, .int .i64 r.f6, .int .i64 r.f7] 36)).alloc o).heap[j]? = wr.heap[j]? := fun x y z o j hj hne => by
        rw [Below.heap_alloc _ _ _ (by simp; omega), Below.heap_alloc _ _ _ (by simp; omega), Below.heap_setCell _ _ _ _ hne, Below.heap_setCell _ _ _ _ hne, Below.heap_setCell _ _ _ _ hne]
      have hXS : ∀ (x y z : Value) (o : Obj), (((((wr.setCell ⟨w.heap.size, 0, none⟩ x).setCell ⟨w.heap.size, 1, none⟩ y).setCell ⟨w.heap.size, 2, none⟩ z).alloc (.cells #[.int .i64 r.f0, .int .i64 r.f1, .int .i64 r.f2, .string r.f3, .int .i64 r.f4, .int .i64 r.f5, .int .i64 r.f6, .int .i64 r.f7] 36)).alloc o).heap[w.heap.size]? = some (.cells #[x, y, z, .slice pv k cv] 68 (0, 0)) := fun x y z o => by
        rw [Below.heap_alloc _ _ _ (by simp; omega), Below.heap_alloc _ _ _ (by simp; omega)]
        exact heap_setCell_blk (heap_setCell_blk (heap_setCell_blk hblk 0 x) 1 y) 2 z
      have hXrow : ∀ (x y z : Value) (o : Obj), (((((wr.setCell ⟨w.heap.size, 0, none⟩ x).setCell ⟨w.heap.size, 1, none⟩ y).setCell ⟨w.heap.size, 2, none⟩ z).alloc (.cells #[.int .i64 r.f0, .int .i64 r.f1, .int .i64 r.f2, .string r.f3, .int .i64 r.f4, .int .i64 r.f5, .int .i64 r.f6, .int .i64 r.f7] 36)).alloc o).ownsRow w.heap.size 3 1 (.slice pv k cv) k (ars.map encI64) := fun x y z o =>
        own_move hvr (fun j hj => hXheap x y z o j ((hvr.lt j hj).2) (fun e => hvne (by rw [← e]; exact hj)))
      have hXnews : ∀ (x y z : Value) (o : Value), ∀ j u, [o][j]? = some u → (((((wr.setCell ⟨w.heap.size, 0, none⟩ x).setCell ⟨w.heap.size, 1, none⟩ y).setCell ⟨w.heap.size, 2, none⟩ z).alloc (.cells #[.int .i64 r.f0, .int .i64 r.f1, .int .i64 r.f2, .string r.f3, .int .i64 r.f4, .int .i64 r.f5, .int .i64 r.f6, .int .i64 r.f7] 36)).alloc (.cells #[o] 3)).cell? ((⟨wr.heap.size + 1, 0, none⟩ : Addr).add j) = some u := fun x y z o => by
        have h := cell_one_new ((((wr.setCell ⟨w.heap.size, 0, none⟩ x).setCell ⟨w.heap.size, 1, none⟩ y).setCell ⟨w.heap.size, 2, none⟩ z).alloc (.cells #[.int .i64 r.f0, .int .i64 r.f1, .int .i64 r.f2, .string r.f3, .int .i64 r.f4, .int .i64 r.f5, .int .i64 r.f6, .int .i64 r.f7] 36)) o 3
        have e : ((((wr.setCell ⟨w.heap.size, 0, none⟩ x).setCell ⟨w.heap.size, 1, none⟩ y).setCell ⟨w.heap.size, 2, none⟩ z).alloc (.cells #[.int .i64 r.f0, .int .i64 r.f1, .int .i64 r.f2, .string r.f3, .int .i64 r.f4, .int .i64 r.f5, .int .i64 r.f6, .int .i64 r.f7] 36)).heap.size = wr.heap.size + 1 := by simp
        rw [e] at h
        exact h
      have hXlow : ∀ (x y z : Value) (o : Obj), Below w.heap.size w (((((wr.setCell ⟨w.heap.size, 0, none⟩ x).setCell ⟨w.heap.size, 1, none⟩ y).setCell ⟨w.heap.size, 2, none⟩ z).alloc (.cells #[.int .i64 r.f0, .int .i64 r.f1, .int .i64 r.f2, .string r.f3, .int .i64 r.f4, .int .i64 r.f5, .int .i64 r.f6, .int .i64 r.f7] 36)).alloc o) := fun x y z o =>
        ((((hlow.setCell (p := ⟨w.heap.size, 0, none⟩) (Nat.le_refl _) x).setCell (p := ⟨w.heap.size, 1, none⟩) (Nat.le_refl _) y).setCell (p := ⟨w.heap.size, 2, none⟩) (Nat.le_refl _) z).alloc (by simp; omega) _).alloc (by simp; omega) o
      have hXbase : ∀ (x y z : Value) (o : Obj), w.heap.size ≤ (((((wr.setCell ⟨w.heap.size, 0, none⟩ x).setCell ⟨w.heap.size, 1, none⟩ y).setCell ⟨w.heap.size, 2, none⟩ z).alloc (.cells #[.int .i64 r.f0, .int .i64 r.f1, .int .i64 r.f2, .string r.f3, .int .i64 r.f4, .int .i64 r.f5, .int .i64 r.f6, .int .i64 r.f7] 36)).alloc o).heap.size := fun x y z o => by simp; omega
      have hXfin : ∀ (x y z : Value) (o : Obj) (w1 : World) (v' : Value), (((((wr.setCell ⟨w.heap.size, 0, none⟩ x).setCell ⟨w.heap.size, 1, none⟩ y).setCell ⟨w.heap.size, 2, none⟩ z).alloc (.cells #[.int .i64 r.f0, .int .i64 r.f1, .int .i64 r.f2, .string r.f3, .int .i64 r.f4, .int .i64 r.f5, .int .i64 r.f6, .int .i64 r.f7] 36)).alloc o).grownBy w1 (Value.slice pv k cv).ownBlock → w1.ownsRow w.heap.size 3 1 v' (k + 1) (ars.map encI64 ++ [.int .i64 r.f6]) →
          w1.cell? ⟨w.heap.size, 3, none⟩ = some (.slice pv k cv) ∧ w1.frozen? ⟨w.heap.size, 3, none⟩ = false ∧
          (w1.setCell ⟨w.heap.size, 3, none⟩ v').heap[w.heap.size]? = some (.cells #[x, y, z, v'] 68 (0, 0)) ∧
          (w1.setCell ⟨w.heap.size, 3, none⟩ v').ownsRow w.heap.size 3 1 v' (k + 1) ((ars ++ [r.f6]).map encI64) ∧
          (w1.setCell ⟨w.heap.size, 3, none⟩ v').ownsRow w.heap.size 36 8 (.slice (some ad) l.length c) l.length (ts.flatMap cells36) ∧
          Below w.heap.size w (w1.setCell ⟨w.heap.size, 3, none⟩ v') := fun x y z o w1 v' hg hown => by
        have hb : w1.heap[w.heap.size]? = some (.cells #[x, y, z, .slice pv k cv] 68 (0, 0)) := (hg.block _ (by simp; omega) (fun e => hvne e.symm)).trans (hXS x y z o)
        refine ⟨cell_of_blk hb 3 _ rfl, by simp [World.frozen?, hb], heap_setCell_blk hb 3 v', ?_, ?_, ?_⟩
        · have := own_move (w1 := w1.setCell ⟨w.heap.size, 3, none⟩ v') hown (fun j hj => Below.heap_setCell _ _ _ j (fun e => by
            obtain ⟨cells, hc⟩ := own_typed hown j hj
            rw [e, hb] at hc; cases hc))
          simpa [encI64] using this
        · refine own_move hrow (fun j hj => ?_)
          have hne : j ≠ w.heap.size := fun e => hrne (by rw [← e]; exact hj)
          have hj' := (hrow.lt j hj).2
          rw [Below.heap_setCell _ _ _ j hne, hg.block j (by simp; omega) (fun e => hvrr j e.symm hj), hXheap x y z o j hj' hne]
        · exact ((hXlow x y z o).grown hg (by simp; omega) (fun j hj => (hvr.lt j hj).1)).setCell (p := ⟨w.heap.size, 3, none⟩) (Nat.le_refl _) v'
      have HS := Lib.hid hstep
      have H1 := Lib.hid hXfin
      have H2 := Lib.hid hXrow
      have H3 := Lib.hid hXnews
      have H4 := Lib.hid hXbase
      clear hXlow hXS hXheap hvrr hrne hvne
      clear hblk hvr hrow hlow hstep hu1 hu2 hd1 hau had hur hgr hC hS2 eA htake hmem hgoodt hut hXfin hXrow hXnews hXbase
      cases ab
      all_goals
        go_wp2_with (at_builtin; refine wpList_append_own_at _ rfl _ _ 25 rfl w.heap.size 3 i0 (.int .i64 0) 1 8 Try.underlying25 hi3 hz3 hs3 hb3 rfl (by decide) (.slice pv k cv) k (ars.map encI64) rfl (H2.out _ _ _ _) ⟨wr.heap.size + 1, 0, none⟩ 1 1 [.int .i64 r.f6] rfl rfl (H3.out _ _ _ _) (by simp [Value.oneCell']) (by unfold maxLen; omega) (by omega) (H4.out _ _ _ _) ?_; intro v' w1 hown' hg1 _ hat; obtain ⟨f1, f2, f3, f4, f5, f6⟩ := H1.out _ _ _ _ w1 v' hg1 hown'; obtain ⟨pv', cv', rfl⟩ := row_slice hown')
        go_roundw
        case rel => exact ⟨k + 1, by omega, by go_num, by rw [HS.out]; rfl, ⟨⟨_, by rw [HS.out]; exact f3, by rw [HS.out]; exact f4⟩, f5, f6, Nat.le_refl _⟩⟩
        case measure => simp [intOf]; omega
    · obtain rfl : k = l.length := by omega
      obtain ⟨⟨vr, hblk, hvr⟩, hrow, hlow, hbase⟩ := hS
      have htk : ts.take l.length = ts := by rw [← hl]; exact List.take_length
      rw [htk] at hblk hvr
      have hrl : (acc ts).rs.length = l.length := by rw [acc_rs]; simp [hl]
      have hcon := compact_row w.heap.size vr (acc ts).rs wr (by rw [hrl]; exact hvr) (by omega)
      obtain ⟨pv, cv, rfl⟩ := row_slice hvr
      have s3 := cell_of_blk hblk 3 _ rfl
      have hvne : (Value.slice pv l.length cv).ownBlock ≠ some w.heap.size := fun e => by
        obtain ⟨cells, hc⟩ := own_typed hvr _ e
        rw [hblk] at hc; cases hc
      have hfin : ∀ (w1 : World) (p : Option Addr) (c' : Nat), wr.grownBy w1 (Value.slice pv l.length cv).ownBlock → (Value.slice p (Lib.compact (acc ts).rs).length c').ownBlock = (Value.slice pv l.length cv).ownBlock → w1.ownsRow w.heap.size 3 1 (.slice p (Lib.compact (acc ts).rs).length c') (Lib.compact (acc ts).rs).length ((Lib.compact (acc ts).rs).map encI64) →
          w1.cell? ⟨w.heap.size, 3, none⟩ = some (.slice pv l.length cv) ∧ w1.frozen? ⟨w.heap.size, 3, none⟩ = false ∧
          (w1.setCell ⟨w.heap.size, 3, none⟩ (.slice p (Lib.compact (acc ts).rs).length c')).heap[w.heap.size]? = some (.cells #[.int .i64 (acc ts).u, .int .i64 (acc ts).d, .bool (acc ts).b, .slice p (Lib.compact (acc ts).rs).length c'] 68 (0, 0)) ∧
          (w1.setCell ⟨w.heap.size, 3, none⟩ (.slice p (Lib.compact (acc ts).rs).length c')).ownsRow w.heap.size 3 1 (.slice p (Lib.compact (acc ts).rs).length c') (Lib.compact (acc ts).rs).length ((Lib.compact (acc ts).rs).map encI64) ∧
          Below w.heap.size w (w1.setCell ⟨w.heap.size, 3, none⟩ (.slice p (Lib.compact (acc ts).rs).length c')) := fun w1 p c' hg e hown => by
        have hb : w1.heap[w.heap.size]? = some (.cells #[.int .i64 (acc ts).u, .int .i64 (acc ts).d, .bool (acc ts).b, .slice pv l.length cv] 68 (0, 0)) := (hg.block _ (Array.getElem?_eq_some_iff.1 hblk).1 (fun e => hvne e.symm)).trans hblk
        refine ⟨cell_of_blk hb 3 _ rfl, by simp [World.frozen?, hb], heap_setCell_blk hb 3 _, ?_, ?_⟩
        · exact own_move hown (fun j hj => Below.heap_setCell _ _ _ j (fun e' => by
            rw [e, e'] at hj; exact hvne hj))
        · exact (hlow.grown hg hlow.size (fun j hj => (hvr.lt j hj).1)).setCell (p := ⟨w.heap.size, 3, none⟩) (Nat.le_refl _) _
      have HF := Lib.hid hfin
      have HP := Lib.hid hperm
      have HQ := Lib.hid hsorted
      clear hfin hblk hvr hrow hlow hS2 hperm hsorted hgoodt hut
      generalize hU : (acc ts).u = U at *
      generalize hD : (acc ts).d = DD at *
      generalize hBB : (acc ts).b = BB at *
      have HU := Lib.hid hU
      have HD := Lib.hid hD
      have HBB := Lib.hid hBB
      clear hU hD hBB
      go_wp2_with fail
      refine hcon.mono ?_
      rintro e w1 ⟨p, c', rfl, hown1, hg1, heq1⟩
      obtain ⟨f1, f2, f3, f4, f5⟩ := HF.out w1 p c' hg1 heq1 hown1
      have g0 := cell_of_blk f3 0 _ rfl
      have g1 := cell_of_blk f3 1 _ rfl
      have g2 := cell_of_blk f3 2 _ rfl
      have g3 := cell_of_blk f3 3 _ rfl
      have z0 := setCell_self f3 0 (.int .i64 U) rfl
      have z1 := setCell_self f3 1 (.int .i64 DD) rfl
      have z2 := setCell_self f3 2 (.bool BB) rfl
      have z3 := setCell_self f3 3 (.slice p (Lib.compact (acc ts).rs).length c') rfl
      have fz : ∀ j, w1.frozen? ⟨w.heap.size, j, none⟩ = false := fun j => by
        have : (w1.setCell ⟨w.heap.size, 3, none⟩ (.slice p (Lib.compact (acc ts).rs).length c')).frozen? ⟨w.heap.size, j, none⟩ = false := by simp only [World.frozen?, f3]; rfl
        rwa [World.frozen?_setCell] at this
      have F3 := Lib.hid f3
      have F4 := Lib.hid f4
      have F5 := Lib.hid f5
      clear f3 f4 f5 hown1 hg1 heq1 HF
      go_wp2
      try simp only [z0, z1, z2, z3]
      try simp only [Exit.inBlock, Exit.then]
      refine bodyPost_ret (results_cell_row rfl _ _ w.heap.size 68 #[.int .i64 U, .int .i64 DD, .bool BB, .slice p (Lib.compact (acc ts).rs).length c'] (0, 0) _ rfl F3.out Try.underlying68 rfl (by kernel_rfl)) rfl ?_
      exact ⟨ts, _, HP.out, HQ.out, by rw [HU.out, HD.out, HBB.out], F4.out, F5.out⟩
end Go.Proofs.Ytggdanifobagpaa.Ext
