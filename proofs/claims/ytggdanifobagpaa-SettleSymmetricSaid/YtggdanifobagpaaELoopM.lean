/- settle.Match: the loop over the sorted keys. -/
import Derived.Test.YtggdanifobagpaaEReg
namespace Go.Proofs.Ytggdanifobagpaa.Ext
set_option linter.unusedVariables false
set_option linter.unusedSimpArgs false
open Go.RowKit Go.Lib Go.Proofs.Ytggdanifobagpaa.Q Go.Proofs.YtggdanifobagpaaW.PrintWords

theorem keys_at {W : World} {base g n cap : Nat} {ks : List Key} (h : W.ownsRow base 59 2 (.slice (some ⟨g, 0, none⟩) n cap) n (ks.flatMap cellsKey)) {k : Nat} (hk : k < ks.length) :
    W.cell? ⟨g, k * 2, none⟩ = some (.int .i64 ks[k].1) ∧ W.cell? ⟨g, k * 2 + 1, none⟩ = some (.int .i64 ks[k].2) := by
  have hadd : ∀ j, (⟨g, 0, none⟩ : Addr).add j = ⟨g, j, none⟩ := fun j => by unfold Addr.add; split <;> simp_all
  have h0 := flat_get (enc := cellsKey) (k := 2) (fun _ => rfl) (by decide) ks (k * 2) (by omega)
  have h1 := flat_get (enc := cellsKey) (k := 2) (fun _ => rfl) (by decide) ks (k * 2 + 1) (by omega)
  have e0 : k * 2 / 2 = k := by omega
  have e1 : k * 2 % 2 = 0 := by omega
  have e2 : (k * 2 + 1) / 2 = k := by omega
  have e3 : (k * 2 + 1) % 2 = 1 := by omega
  rw [e0, e1] at h0
  rw [e2, e3] at h1
  have c0 := h.cells (g := g) rfl _ _ h0
  have c1 := h.cells (g := g) rfl _ _ h1
  rw [hadd] at c0 c1
  rw [c0, c1]
  simp [cellsKey, hk]

theorem wrap_wrap_add (a b : Int) : IntKind.i64.wrap (IntKind.i64.wrap a + b) = IntKind.i64.wrap (a + b) := by
  simp [IntKind.wrap, IntKind.bits, IntKind.signed]
  omega

theorem info38 : (Try.prog.info? 38).map (fun i => (i.zero, i.size, i.bytes)) = some (some (.agg #[.int .i64 0, .int .i64 0, .int .i64 0, .int .i64 0]), 4, 32) := by kernel_rfl

/-- What the loop asks of the legs. -/
def LegsOk (L : LegsL) : Prop := ∀ q c, (∀ r ∈ L q c, Good r) ∧ unitsOf (L q c) ≤ 1152921504606846976 ∧ (L q c).length ≤ 2048

set_option maxRecDepth 100000 in
set_option maxHeartbeats 4000000 in
theorem loopM {c0 c1 c3 c4 c5 c6 c7 c8 c10 c12 c13 c14 c15 c16 c17 c18 c19 c20 c21 c22 c23 c24 c25 c26 c27 c28 c29 c30 c31 c32 c33 c34 c35 c36 c37 c38 c39 c40 c41 c42 c43 c44 c45 c46 c47 c48 c49 c50 c51 c52 c53 c57 c58 c59 c60 c61 c62 c63 c64 c65 c66 c67 c68 c69 c70 c71 c72 c73 c74 c75 c76 c77 c78 c79 c80 c81 c82 c83 c84 c85 c86 c87 c88 c89 c90 c91 c92 c93 c94 c95 c96 c97 c98 c99 c100 c101 c102 c103 c104 c105 c106 c107 c108 c109 c110 c111 c112 : Value} (tol : Int) (L : LegsL) (hok : LegsOk L) (D : DataW Value) (V : Key → Bool → Value) (lo b n : Nat) (ks : List Key) (A : Option Addr) (c : Nat) (W0 W : World) (hL : LegsV W0 lo b n L D V) (hks : W0.ownsRow lo 59 2 (.slice A ks.length c) ks.length (ks.flatMap cellsKey)) (hwf : ∀ k ∈ ks, KeyWf k) (hkl : ks.length ≤ 4096)
    (hS : SetAt W0 ⟨0, [], []⟩ W) (Q : Exit → Act → World → Prop)
    (hexit : ∀ (u13 u14 u15 u16 u17 u57 u58 u59 u60 u61 u62 u63 u64 u65 u66 u67 u68 u69 u70 u71 u72 u73 u74 u75 u76 u77 u78 u79 u80 u81 u82 u83 u84 u85 u86 u87 u88 u89 u90 u91 u92 u93 u94 u95 u96 u97 u98 u99 u100 u101 u102 u103 u104 u105 u106 u107 u108 u109 u110 u111 : Value) (W' : World), SetAt W0 (setL tol L ks) W' → Q (.exit 0) ⟨#[c0, c1, .int .i64 tol, c3, c4, c5, c6, c7, c8, .map (some b), c10, .pointer (some ⟨W0.heap.size, 0, none⟩), c12, u13, u14, u15, u16, u17, c18, c19, c20, c21, c22, c23, c24, c25, c26, c27, c28, c29, c30, c31, c32, c33, c34, c35, c36, c37, c38, c39, c40, c41, c42, c43, c44, c45, c46, c47, c48, c49, c50, c51, c52, c53, .slice A ks.length c, .int .i64 ks.length, .int .i64 ks.length, u57, u58, u59, u60, u61, u62, u63, u64, u65, u66, u67, u68, u69, u70, u71, u72, u73, u74, u75, u76, u77, u78, u79, u80, u81, u82, u83, u84, u85, u86, u87, u88, u89, u90, u91, u92, u93, u94, u95, u96, u97, u98, u99, u100, u101, u102, u103, u104, u105, u106, u107, u108, u109, u110, u111, c112], []⟩ W') :
    Code.wp Try.prog (lp 0) Q ⟨#[c0, c1, .int .i64 tol, c3, c4, c5, c6, c7, c8, .map (some b), c10, .pointer (some ⟨W0.heap.size, 0, none⟩), c12, c13, c14, c15, c16, c17, c18, c19, c20, c21, c22, c23, c24, c25, c26, c27, c28, c29, c30, c31, c32, c33, c34, c35, c36, c37, c38, c39, c40, c41, c42, c43, c44, c45, c46, c47, c48, c49, c50, c51, c52, c53, .slice A ks.length c, .int .i64 ks.length, .int .i64 0, c57, c58, c59, c60, c61, c62, c63, c64, c65, c66, c67, c68, c69, c70, c71, c72, c73, c74, c75, c76, c77, c78, c79, c80, c81, c82, c83, c84, c85, c86, c87, c88, c89, c90, c91, c92, c93, c94, c95, c96, c97, c98, c99, c100, c101, c102, c103, c104, c105, c106, c107, c108, c109, c110, c111, c112], []⟩ W := by
  dsimp only at hexit ⊢
  conv => arg 2; whnf
  go_loopw [56] (fun i wr => ∃ k : Nat, k ≤ ks.length ∧ i = .int .i64 k ∧ (setL tol L (ks.take k)).calls.length + (setL tol L (ks.take k)).mis.length ≤ k ∧ SetAt W0 (setL tol L (ks.take k)) wr) (fun i _ => ks.length - (intOf i).toNat)
  case atStart => exact ⟨0, by omega, rfl, by simp [setL], by simpa [setL] using hS⟩
  case round =>
    obtain ⟨k, hk, rfl, hcount, hSk⟩ := hrel
    by_cases hlt : k < ks.length
    · have hst := store59'
      have hlow := hSk.low
      obtain ⟨g, cap, eA, hbase, hgl⟩ := hks.form (by omega)
      simp only [Value.slice.injEq] at eA
      obtain ⟨rfl, _, rfl⟩ := eA
      obtain ⟨q0', q1'⟩ := keys_at hks hlt
      have hwq : KeyWf ks[k] := hwf _ (List.getElem_mem hlt)
      have htake : ks.take (k + 1) = ks.take k ++ [ks[k]] := List.take_succ_eq_append_getElem hlt
      generalize ks[k] = q at *
      have hstep := setL_snoc tol L (ks.take k) q
      rw [← htake] at hstep
      have q0 := (hlow.cell (World.block_lt_of_cell? _ _ q0')).trans q0'
      have q1 := (hlow.cell (World.block_lt_of_cell? _ _ q1')).trans q1'
      have hV1 := hL.kept (hlow.alloc hlow.size (.cells #[.int .i64 q.1, .int .i64 q.2] 59))
      have hB1 : Below wr.heap.size wr (wr.alloc (.cells #[.int .i64 q.1, .int .i64 q.2] 59)) := (Below.refl _ _).alloc (Nat.le_refl _) _
      have hK1 : (wr.alloc (.cells #[.int .i64 q.1, .int .i64 q.2] 59)).heap[wr.heap.size]? = some (.cells #[.int .i64 q.1, .int .i64 q.2] 59 (0, 0)) := heap_alloc_new wr _
      generalize setL tol L (ks.take k) = s at *
      have HS := Lib.hid hSk
      have HT := Lib.hid hstep
      have HW := Lib.hid hwq
      have HV1 := Lib.hid hV1
      have HB1 := Lib.hid hB1
      have HK1 := Lib.hid hK1
      clear q0' q1' hSk htake hwq hL hks hlow hwf hS hV1 hB1 hK1 hstep
      go_wp2
      have hW1z : (wr.alloc (.cells #[.int .i64 q.1, .int .i64 q.2] 59)).heap.size = wr.heap.size + 1 := by simp
      generalize wr.alloc (.cells #[.int .i64 q.1, .int .i64 q.2] 59) = W1 at *
      refine wp_mono (reg14 _ W1 rfl lo b n wr.heap.size L D V q rfl rfl HK1.out HV1.out HW.out (fun c => (hok q c).1) (fun c => (hok q c).2.1) (fun c => (hok q c).2.2)) ?_
      intro e a W2 h
      obtain ⟨rfl, hfr, hB2, g14, g15, cx, cy, e14, e15, l14, l15, b14, b15, ⟨tx, vx, hpx, hsx, ex, hrx⟩, ⟨ty, vy, hpy, hsy, ey, hry⟩⟩ := h.parts
      clear h
      obtain rfl := Value.agg.inj ex
      obtain rfl := Value.agg.inj ey
      have hfa := frame_of hfr rfl
      simp only [slots14, List.foldl_cons, List.foldl_nil, List.setIfInBounds_toArray, List.set_cons_zero, List.set_cons_succ, e14, e15] at hfa
      generalize a.eval (.tmp 60) = v60 at hfa
      generalize a.eval (.tmp 61) = v61 at hfa
      generalize a.eval (.tmp 62) = v62 at hfa
      generalize a.eval (.tmp 63) = v63 at hfa
      generalize a.eval (.tmp 64) = v64 at hfa
      generalize a.eval (.tmp 65) = v65 at hfa
      generalize a.eval (.tmp 66) = v66 at hfa
      generalize a.eval (.tmp 67) = v67 at hfa
      generalize a.eval (.tmp 68) = v68 at hfa
      generalize a.eval (.tmp 69) = v69 at hfa
      rw [hfa]
      clear hfr e14 e15 hfa ex ey HV1 HW
      clear a
      -- what stands at W2
      have hmis := mismatch_any (acc tx).u (acc tx).d (acc tx).b vx (Lib.compact (acc tx).rs) (acc ty).u (acc ty).d (acc ty).b vy (Lib.compact (acc ty).rs) tol W1.heap.size W2 hrx hry
        (by rw [acc_d, dur_perm hpx]; have := dur_le (L q false) (hok q false).1; have := (hok q false).2.2; omega)
        (by rw [acc_d, dur_perm hpy]; have := dur_le (L q true) (hok q true).1; have := (hok q true).2.2; omega)
        (by have := compact_le (acc tx).rs; have h2 : (acc tx).rs.length = (L q false).length := by { rw [acc_rs, List.length_map]; exact hpx.length_eq }; have := (hok q false).2.2; omega)
        (by have := compact_le (acc ty).rs; have h2 : (acc ty).rs.length = (L q true).length := by { rw [acc_rs, List.length_map]; exact hpy.length_eq }; have := (hok q true).2.2; omega)
      rw [kind_eq hpx hsx hpy hsy (hok q false).1 (hok q true).1] at hmis
      have hux : (acc tx).u = unitsOf (L q false) := by rw [acc_u]; exact units_perm hpx
      have huy : (acc ty).u = unitsOf (L q true) := by rw [acc_u]; exact units_perm hpy
      have hux0 := units_nonneg _ (hok q false).1
      have huy0 := units_nonneg _ (hok q true).1
      have hux1 := (hok q false).2.1
      have huy1 := (hok q true).2.1
      rw [hux, huy] at hmis
      rw [hux] at b14
      rw [huy] at b15
      have hsd : setStep tol L s q = if kindOf tol (L q false) (L q true) ≠ 0 then ⟨s.u, s.calls, s.mis ++ [⟨kindOf tol (L q false) (L q true), q.1, unitsOf (L q false), unitsOf (L q true)⟩]⟩
          else ⟨s.u + (if q.2 = 3 then -(min (unitsOf (L q false)) (unitsOf (L q true))) else min (unitsOf (L q false)) (unitsOf (L q true))), s.calls ++ [q.1], s.mis⟩ := rfl
      have hT := HT.out
      rw [hsd] at hT
      clear hsd HT hux huy hrx hry hpx hpy hsx hsy
      generalize unitsOf (L q false) = ux at *
      generalize unitsOf (L q true) = uy at *
      generalize kindOf tol (L q false) (L q true) = KD at *
      generalize (acc tx).d = dx at *
      generalize (acc ty).d = dy at *
      generalize (acc tx).b = bx at *
      generalize (acc ty).b = by_ at *
      obtain ⟨⟨vc, vm, hblk, hvc, hvm⟩, hlow⟩ := HS.out
      have hSlt := (Array.getElem?_eq_some_iff.1 hblk).1
      have hB12 : Below wr.heap.size wr W2 := HB1.out.trans (hB2.mono (by omega))
      have hblk2 := (hB12.block _ hSlt).trans hblk
      have hvc2 := own_move (w1 := W2) hvc (fun j hj => hB12.block j (hvc.lt j hj).2)
      have hvm2 := own_move (w1 := W2) hvm (fun j hj => hB12.block j (hvm.lt j hj).2)
      have hlow2 : Below W0.heap.size W0 W2 := hlow.trans (hB12.mono hlow.size)
      have hK2 := (hB2.block _ (Array.getElem?_eq_some_iff.1 HK1.out).1).trans HK1.out
      clear hblk hvc hvm hlow hB12 HS HB1 HK1 hB2 l14 l15 hW1z hSlt
      have a0 := cell_of_blk b14 0 _ rfl
      have a1 := cell_of_blk b14 1 _ rfl
      have a2 := cell_of_blk b14 2 _ rfl
      have a3 := cell_of_blk b14 3 _ rfl
      have d0 := cell_of_blk b15 0 _ rfl
      have d1 := cell_of_blk b15 1 _ rfl
      have d2 := cell_of_blk b15 2 _ rfl
      have d3 := cell_of_blk b15 3 _ rfl
      have H14 := Lib.hid b14
      have H15 := Lib.hid b15
      have HBK := Lib.hid hblk2
      have HVC := Lib.hid hvc2
      have HVM := Lib.hid hvm2
      have HLO := Lib.hid hlow2
      have HKB := Lib.hid hK2
      have HTT := Lib.hid hT
      clear b14 b15 hblk2 hvc2 hvm2 hlow2 hK2 hT hexit
      go_wp2_with fail
      refine hmis.mono ?_
      rintro e W3 ⟨rfl, hb3⟩
      have b14 := (hb3.block _ (Array.getElem?_eq_some_iff.1 H14.out).1).trans H14.out
      have b15 := (hb3.block _ (Array.getElem?_eq_some_iff.1 H15.out).1).trans H15.out
      have hblk := (hb3.block _ (Array.getElem?_eq_some_iff.1 HBK.out).1).trans HBK.out
      have hK := (hb3.block _ (Array.getElem?_eq_some_iff.1 HKB.out).1).trans HKB.out
      have hvc := own_move (w1 := W3) HVC.out (fun j hj => hb3.block j (HVC.out.lt j hj).2)
      have hvm := own_move (w1 := W3) HVM.out (fun j hj => hb3.block j (HVM.out.lt j hj).2)
      have hlow := HLO.out.trans (hb3.mono HLO.out.size)
      have hle : W0.heap.size ≤ W3.heap.size := hlow.size
      clear hmis hb3 H14 H15 HBK HKB HVC HVM HLO a0 a1 a2 a3 d0 d1 d2 d3
      obtain ⟨pc, cc, rfl⟩ := row_slice hvc
      obtain ⟨pm, cm, rfl⟩ := row_slice hvm
      have u0 := cell_of_blk b14 0 _ rfl
      have w0' := cell_of_blk b15 0 _ rfl
      have s0 := cell_of_blk hblk 0 _ rfl
      have s1 := cell_of_blk hblk 1 _ rfl
      have s2 := cell_of_blk hblk 2 _ rfl
      have k0 := cell_of_blk hK 0 _ rfl
      have k1 := cell_of_blk hK 1 _ rfl
      have fS := frozen_blk hblk
      by_cases hkd : KD = 0
      · have hT := HTT.out
        rw [if_neg (by simpa using hkd)] at hT
        subst hkd
        obtain ⟨i0, hi, hz, hs, hbb⟩ := info_parts info3
        have ne1 : g14 ≠ W0.heap.size := fun e => by rw [e, hblk] at b14; cases b14
        have ne2 : g15 ≠ W0.heap.size := fun e => by rw [e, hblk] at b15; cases b15
        have ne3 : wr.heap.size ≠ W0.heap.size := fun e => by rw [e, hblk] at hK; exact absurd (Obj.cells.inj (Option.some.inj hK)).2.1 (by decide)
        have ne1' := Ne.symm ne1
        have ne2' := Ne.symm ne2
        have ne3' := Ne.symm ne3
        have hmax : s.calls.length + 1 ≤ maxLen := by unfold maxLen; omega
        have hbyt : (s.calls.length + 1) * 8 ≤ 140737488355328 := by omega
        have hbase' : W0.heap.size ≤ (W3.alloc (.cells #[.int .i64 q.1] 3)).heap.size := by simp; omega
        by_cases hq3 : q.2 = 3
        · -- a leg that came in
          rw [if_pos hq3] at hT
          have n3 : decide (q.2 = 3) = true := decide_eq_true hq3
          have hneg := wrap_id (-(min ux uy)) (by omega) (by omega)
          have hadd := wrap_wrap_add s.u (-(min ux uy))
          have hfin : ∀ (w4 : World) (v' : Value), (W3.alloc (.cells #[.int .i64 q.1] 3)).grownBy w4 (Value.slice pc s.calls.length cc).ownBlock → w4.ownsRow W0.heap.size 3 1 v' (s.calls.length + 1) (s.calls.map encI64 ++ [.int .i64 q.1]) →
              (w4.cell? ⟨W0.heap.size, 1, none⟩ = some (.slice pc s.calls.length cc) ∧ (∀ j, w4.frozen? ⟨W0.heap.size, j, none⟩ = false) ∧ w4.cell? ⟨W0.heap.size, 0, none⟩ = some (.int .i64 (IntKind.i64.wrap s.u)) ∧ w4.cell? ⟨g14, 0, none⟩ = some (.int .i64 ux) ∧ w4.cell? ⟨g15, 0, none⟩ = some (.int .i64 uy) ∧ w4.cell? ⟨wr.heap.size, 1, none⟩ = some (.int .i64 q.2)) ∧
              SetAt W0 (setL tol L (ks.take (k + 1))) ((w4.setCell ⟨W0.heap.size, 1, none⟩ v').setCell ⟨W0.heap.size, 0, none⟩ (.int .i64 (IntKind.i64.wrap (s.u + (-(min ux uy)))))) := fun w4 v' hg hown => by
            have bS := blk_app hvc hg hblk (by decide)
            have b4 := blk_app hvc hg b14 (by decide)
            have b5 := blk_app hvc hg b15 (by decide)
            have bK := blk_app hvc hg hK (by decide)
            refine ⟨⟨cell_of_blk bS 1 _ rfl, fun j => frozen_blk bS j, cell_of_blk bS 0 _ rfl, cell_of_blk b4 0 _ rfl, cell_of_blk b5 0 _ rfl, cell_of_blk bK 1 _ rfl⟩, ?_⟩
            have bS1 := heap_setCell_blk bS 1 v'
            refine ⟨⟨_, _, by rw [hT]; exact heap_setCell_blk bS1 0 _, ?_, ?_⟩, ?_⟩
            · rw [hT]
              have := row_set (i := 0) (x := .int .i64 (IntKind.i64.wrap (s.u + (-(min ux uy))))) bS1 (row_set (i := 1) (x := v') bS hown (by decide)) (by decide)
              simpa [encI64] using this
            · rw [hT]; exact row_set bS1 (row_set bS (row_app hvc hg hvm (by decide)) (by decide)) (by decide)
            · exact ((below_app hlow hvc hg hle).setCell (p := ⟨W0.heap.size, 1, none⟩) (Nat.le_refl _) v').setCell (p := ⟨W0.heap.size, 0, none⟩) (Nat.le_refl _) _
          have hcnt : (setL tol L (ks.take (k + 1))).calls.length + (setL tol L (ks.take (k + 1))).mis.length ≤ k + 1 := by rw [hT]; simp; omega
          have HVC := Lib.hid hvc
          have HF := Lib.hid hfin
          have HC := Lib.hid hcnt
          clear hvm hvc hlow hfin hcnt hT hblk hK b14 b15
          generalize IntKind.i64.wrap s.u = UW at *
          generalize IntKind.i64.wrap (s.u + (-(min ux uy))) = UW' at *
          go_wp2_with (at_builtin; refine wpList_append_own_at _ rfl _ _ 25 rfl W0.heap.size 3 i0 (.int .i64 0) 1 8 Try.underlying25 hi hz hs hbb rfl (by decide) (.slice pc s.calls.length cc) s.calls.length (s.calls.map encI64) rfl (HVC.out.alloc _) ⟨W3.heap.size, 0, none⟩ 1 1 [.int .i64 q.1] rfl rfl (cell_one_new _ _ _) (by simp [Value.oneCell']) hmax hbyt hbase' ?_; intro v' w4 hown' hg4 _ hat; obtain ⟨⟨f1, f2, f3, f4, f5, f6⟩, f7⟩ := HF.out w4 v' hg4 hown'; obtain ⟨pv', cv', rfl⟩ := row_slice hown')
          go_roundw
          case rel => exact ⟨k + 1, by omega, by go_num, HC.out, f7⟩
          case measure => simp [intOf]; omega
        · -- a leg that went out
          rw [if_neg hq3] at hT
          have n3 : decide (q.2 = 3) = false := decide_eq_false hq3
          have hneg := wrap_id (-(min ux uy)) (by omega) (by omega)
          have hadd := wrap_wrap_add s.u (min ux uy)
          have hfin : ∀ (w4 : World) (v' : Value), (W3.alloc (.cells #[.int .i64 q.1] 3)).grownBy w4 (Value.slice pc s.calls.length cc).ownBlock → w4.ownsRow W0.heap.size 3 1 v' (s.calls.length + 1) (s.calls.map encI64 ++ [.int .i64 q.1]) →
              (w4.cell? ⟨W0.heap.size, 1, none⟩ = some (.slice pc s.calls.length cc) ∧ (∀ j, w4.frozen? ⟨W0.heap.size, j, none⟩ = false) ∧ w4.cell? ⟨W0.heap.size, 0, none⟩ = some (.int .i64 (IntKind.i64.wrap s.u)) ∧ w4.cell? ⟨g14, 0, none⟩ = some (.int .i64 ux) ∧ w4.cell? ⟨g15, 0, none⟩ = some (.int .i64 uy) ∧ w4.cell? ⟨wr.heap.size, 1, none⟩ = some (.int .i64 q.2)) ∧
              SetAt W0 (setL tol L (ks.take (k + 1))) ((w4.setCell ⟨W0.heap.size, 1, none⟩ v').setCell ⟨W0.heap.size, 0, none⟩ (.int .i64 (IntKind.i64.wrap (s.u + (min ux uy))))) := fun w4 v' hg hown => by
            have bS := blk_app hvc hg hblk (by decide)
            have b4 := blk_app hvc hg b14 (by decide)
            have b5 := blk_app hvc hg b15 (by decide)
            have bK := blk_app hvc hg hK (by decide)
            refine ⟨⟨cell_of_blk bS 1 _ rfl, fun j => frozen_blk bS j, cell_of_blk bS 0 _ rfl, cell_of_blk b4 0 _ rfl, cell_of_blk b5 0 _ rfl, cell_of_blk bK 1 _ rfl⟩, ?_⟩
            have bS1 := heap_setCell_blk bS 1 v'
            refine ⟨⟨_, _, by rw [hT]; exact heap_setCell_blk bS1 0 _, ?_, ?_⟩, ?_⟩
            · rw [hT]
              have := row_set (i := 0) (x := .int .i64 (IntKind.i64.wrap (s.u + (min ux uy)))) bS1 (row_set (i := 1) (x := v') bS hown (by decide)) (by decide)
              simpa [encI64] using this
            · rw [hT]; exact row_set bS1 (row_set bS (row_app hvc hg hvm (by decide)) (by decide)) (by decide)
            · exact ((below_app hlow hvc hg hle).setCell (p := ⟨W0.heap.size, 1, none⟩) (Nat.le_refl _) v').setCell (p := ⟨W0.heap.size, 0, none⟩) (Nat.le_refl _) _
          have hcnt : (setL tol L (ks.take (k + 1))).calls.length + (setL tol L (ks.take (k + 1))).mis.length ≤ k + 1 := by rw [hT]; simp; omega
          have HVC := Lib.hid hvc
          have HF := Lib.hid hfin
          have HC := Lib.hid hcnt
          clear hvm hvc hlow hfin hcnt hT hblk hK b14 b15
          generalize IntKind.i64.wrap s.u = UW at *
          generalize IntKind.i64.wrap (s.u + (min ux uy)) = UW' at *
          go_wp2_with (at_builtin; refine wpList_append_own_at _ rfl _ _ 25 rfl W0.heap.size 3 i0 (.int .i64 0) 1 8 Try.underlying25 hi hz hs hbb rfl (by decide) (.slice pc s.calls.length cc) s.calls.length (s.calls.map encI64) rfl (HVC.out.alloc _) ⟨W3.heap.size, 0, none⟩ 1 1 [.int .i64 q.1] rfl rfl (cell_one_new _ _ _) (by simp [Value.oneCell']) hmax hbyt hbase' ?_; intro v' w4 hown' hg4 _ hat; obtain ⟨⟨f1, f2, f3, f4, f5, f6⟩, f7⟩ := HF.out w4 v' hg4 hown'; obtain ⟨pv', cv', rfl⟩ := row_slice hown')
          go_roundw
          case rel => exact ⟨k + 1, by omega, by go_num, HC.out, f7⟩
          case measure => simp [intOf]; omega
      · have hT := HTT.out
        rw [if_pos hkd] at hT
        have n1 : decide (KD = 0) = false := decide_eq_false hkd
        obtain ⟨i0, hi, hz, hs, hbb⟩ := info_parts info38
        have hnews : ∀ j u, (cells38 ⟨KD, q.1, ux, uy⟩)[j]? = some u → (W3.alloc (.cells #[.int .i64 KD, .int .i64 q.1, .int .i64 ux, .int .i64 uy] 38)).cell? ((⟨W3.heap.size, 0, none⟩ : Addr).add j) = some u :=
          World.news_of_block (cs := #[.int .i64 KD, .int .i64 q.1, .int .i64 ux, .int .i64 uy]) (heap_alloc_new W3 _)
        have hone : ∀ u ∈ cells38 ⟨KD, q.1, ux, uy⟩, u.oneCell' = true := fun u hu => by simp [cells38] at hu; rcases hu with rfl | rfl | rfl | rfl <;> rfl
        have hmax : s.mis.length + 1 ≤ maxLen := by unfold maxLen; omega
        have hbyt : (s.mis.length + 1) * 32 ≤ 140737488355328 := by omega
        have hbase' : W0.heap.size ≤ (W3.alloc (.cells #[.int .i64 KD, .int .i64 q.1, .int .i64 ux, .int .i64 uy] 38)).heap.size := by simp; omega
        have hfin : ∀ (w4 : World) (v' : Value), (W3.alloc (.cells #[.int .i64 KD, .int .i64 q.1, .int .i64 ux, .int .i64 uy] 38)).grownBy w4 (Value.slice pm s.mis.length cm).ownBlock → w4.ownsRow W0.heap.size 38 4 v' (s.mis.length + 1) (s.mis.flatMap cells38 ++ cells38 ⟨KD, q.1, ux, uy⟩) →
            w4.cell? ⟨W0.heap.size, 2, none⟩ = some (.slice pm s.mis.length cm) ∧ w4.frozen? ⟨W0.heap.size, 2, none⟩ = false ∧ SetAt W0 (setL tol L (ks.take (k + 1))) (w4.setCell ⟨W0.heap.size, 2, none⟩ v') := fun w4 v' hg hown => by
          have bS := blk_app hvm hg hblk (by decide)
          refine ⟨cell_of_blk bS 2 _ rfl, frozen_blk bS 2, ⟨⟨_, _, by rw [hT]; exact heap_setCell_blk bS 2 v', ?_, ?_⟩, ?_⟩⟩
          · rw [hT]; exact row_set bS (row_app hvm hg hvc (by decide)) (by decide)
          · rw [hT]
            have := row_set (i := 2) (x := v') bS hown (by decide)
            simpa using this
          · exact (below_app hlow hvm hg hle).setCell (p := ⟨W0.heap.size, 2, none⟩) (Nat.le_refl _) v'
        have hcnt : (setL tol L (ks.take (k + 1))).calls.length + (setL tol L (ks.take (k + 1))).mis.length ≤ k + 1 := by rw [hT]; simp; omega
        have HVM := Lib.hid hvm
        have HF := Lib.hid hfin
        have HC := Lib.hid hcnt
        clear hvm hvc hlow hfin hcnt hT hblk hK b14 b15
        go_wp2_with (at_builtin; refine wpList_append_own_at _ rfl _ _ 26 rfl W0.heap.size 38 i0 (.agg #[.int .i64 0, .int .i64 0, .int .i64 0, .int .i64 0]) 4 32 Try.underlying26 hi hz hs hbb rfl (by decide) (.slice pm s.mis.length cm) s.mis.length (s.mis.flatMap cells38) rfl (HVM.out.alloc _) ⟨W3.heap.size, 0, none⟩ 1 1 (cells38 ⟨KD, q.1, ux, uy⟩) rfl rfl hnews hone hmax hbyt hbase' ?_; intro v' w4 hown' hg4 _ hat; obtain ⟨f1, f2, f3⟩ := HF.out w4 v' hg4 hown'; obtain ⟨pv', cv', rfl⟩ := row_slice hown')
        go_roundw
        case rel => exact ⟨k + 1, by omega, by go_num, HC.out, f3⟩
        case measure => simp [intOf]; omega
    · obtain rfl : k = ks.length := by omega
      rw [List.take_length] at hSk
      have HS := Lib.hid hSk
      clear hSk hL hks hS hwf
      go_wp2
      exact HS.out
end Go.Proofs.Ytggdanifobagpaa.Ext
