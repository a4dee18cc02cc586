/- (legs).add: the records of one carrier are laid into the legs. -/
import Derived.Test.YtggdanifobagpaaELegs
import Derived.StillTailTactics
import Derived.Lib.Hide
import Derived.WalkSpells
import Derived.BigRegion
import Derived.BigQuiet
import Derived.Deep.RegionWith
import Derived.Deep.RegionLaw
import Derived.Deep.AppendLies
namespace Go.Proofs.Ytggdanifobagpaa.Ext
set_option linter.unusedVariables false
set_option linter.unusedSimpArgs false
open Go.RowKit Go.Maps Go.WideMaps Go.Proofs.Ytggdanifobagpaa.Q Go.Proofs.YtggdanifobagpaaW.PrintWords

theorem closure29 (x : Int) (W : World) : Calls Try.prog 29 #[.int .i64 x] W fun e w' => e = .returned (.int .i64 x) ∧ w' = W := by
  go_enter Try.func29, Try.ntmps29
  go_wp2
  go_ret
  exact ⟨rfl, rfl⟩

def exch (x : Int) : Int := if x = 2 then 3 else if x = 3 then 2 else x
theorem closure30 (x : Int) (W : World) : Calls Try.prog 30 #[.int .i64 x] W fun e w' => e = .returned (.int .i64 (exch x)) ∧ w' = W := by
  unfold exch
  by_cases h2 : x = 2
  · subst h2
    go_enter Try.func30, Try.ntmps30
    go_wp2
    go_ret
    exact ⟨rfl, rfl⟩
  · by_cases h3 : x = 3
    · subst h3
      go_enter Try.func30, Try.ntmps30
      go_wp2
      go_ret
      exact ⟨rfl, rfl⟩
    · rw [if_neg h2, if_neg h3]
      have e2 : decide (x = 2) = false := decide_eq_false h2
      have e3 : decide (x = 3) = false := decide_eq_false h3
      go_enter Try.func30, Try.ntmps30
      go_wp2
      go_ret
      exact ⟨rfl, rfl⟩

theorem store59' (g : Nat) (w : World) (a b : Value) (hg : g = w.heap.size) (ha : a.oneCell' = true) (hb : b.oneCell' = true) :
    (Instr.storeAt 59 (.pointer (some ⟨g, 0, none⟩)) (.agg #[a, b])).run Try.prog (w.alloc (.cells #[.int .i64 0, .int .i64 0] 59)) = .ok () (w.alloc (.cells #[a, b] 59)) := by
  subst hg
  exact run_storeAt_new w 59 _ _ (by kernel_rfl) rfl (by simp [ha, hb])

theorem info36v : ∃ i0, Try.prog.info? 36 = some i0 ∧ i0.zero = some (.agg #[.int .i64 0, .int .i64 0, .int .i64 0, .string ⟨#[]⟩, .int .i64 0, .int .i64 0, .int .i64 0, .int .i64 0]) ∧ i0.size = 8 ∧ i0.bytes = 72 := info_parts info36

/-- A region's end: this frame, this world. -/
def AtEnd (A : Act) (W : World) : Exit → Act → World → Prop
  | .normal, a, w => a = A ∧ w = W
  | _, _, _ => False
theorem AtEnd.parts {A : Act} {W : World} {e : Exit} {a : Act} {w : World} (h : AtEnd A W e a w) : e = .normal ∧ a = A ∧ w = W := by
  cases e <;> first | exact ⟨rfl, h.1, h.2⟩ | exact h.elim

/-- The legs behind the records l of carrier c. -/
def addL (φ : Int → Int) (c : Bool) (L : LegsL) (l : List S36) : LegsL :=
  l.foldl (fun L r => if r.f1 = 1 then L else putL L (r.f0, φ r.f1) c r) L

theorem addL_snoc (φ : Int → Int) (c : Bool) (L : LegsL) (l : List S36) (r : S36) : addL φ c L (l ++ [r]) = if r.f1 = 1 then addL φ c L l else putL (addL φ c L l) (r.f0, φ r.f1) c r := by
  simp [addL, List.foldl_append]

theorem addL_len (φ : Int → Int) (c : Bool) (l : List S36) : ∀ (L : LegsL) (k : Key) (c' : Bool), ((addL φ c L l) k c').length ≤ (L k c').length + l.length := by
  induction l with
  | nil => intro L k c'; simp [addL]
  | cons r l ih =>
    intro L k c'
    show ((addL φ c (if r.f1 = 1 then L else putL L (r.f0, φ r.f1) c r) l) k c').length ≤ _
    split
    · have := ih L k c'; simp; omega
    · have := ih (putL L (r.f0, φ r.f1) c r) k c'
      have h2 : ((putL L (r.f0, φ r.f1) c r) k c').length ≤ (L k c').length + 1 := by
        unfold putL
        split
        · rename_i h; obtain ⟨rfl, rfl⟩ := h; simp
        · omega
      simp only [List.length_cons]
      omega

/-- A region's end: this is so of the frame and the world. -/
def OnEnd (R : Act → World → Prop) : Exit → Act → World → Prop
  | .normal, a, w => R a w
  | _, _, _ => False
theorem OnEnd.parts {R : Act → World → Prop} {e : Exit} {a : Act} {w : World} (h : OnEnd R e a w) : e = .normal ∧ R a w := by
  cases e <;> first | exact ⟨rfl, h⟩ | exact h.elim

theorem heap_setCell_blk {W : World} {g : Nat} {cs : Array Value} {t : TypeId} (h : W.heap[g]? = some (.cells cs t (0, 0))) (i : Nat) (v : Value) : (W.setCell ⟨g, i, none⟩ v).heap[g]? = some (.cells (cs.setIfInBounds i v) t (0, 0)) := by
  obtain ⟨hlt, hk⟩ := Array.getElem?_eq_some_iff.1 h
  show (W.heap.modify g _)[g]? = _
  rw [Array.getElem?_eq_getElem (by rw [Array.size_modify]; exact hlt), Array.getElem_modify_self, hk]
  rfl

theorem cell_of_blk {W : World} {g : Nat} {cs : Array Value} {t : TypeId} (h : W.heap[g]? = some (.cells cs t (0, 0))) (i : Nat) (v : Value) (hv : cs[i]? = some v) : W.cell? ⟨g, i, none⟩ = some v := by
  rw [cell_of_row W g i cs t (0, 0) h]; exact hv

theorem row_slice {W : World} {base e size n : Nat} {v : Value} {xs : List Value} (h : W.ownsRow base e size v n xs) : ∃ p c, v = .slice p n c := by
  rcases h.2 with ⟨rfl, rfl⟩ | ⟨g, cap, cur, rfl, _⟩
  · exact ⟨_, _, rfl⟩
  · exact ⟨_, _, rfl⟩


set_option maxRecDepth 100000 in
set_option maxHeartbeats 8000000 in
theorem add_false (fid : Nat) (φ : Int → Int) (hφ : ∀ x W, Calls Try.prog fid #[.int .i64 x] W fun e w' => e = .returned (.int .i64 (φ x)) ∧ w' = W) (ef : ∀ args w, (callFunc fid args).run Try.prog w = .ok (.enter fid args) w)
    (A0 : Option Addr) (c0 : Nat) (l : List S36) (w0 w : World) (b n : Nat) (L : LegsL) (hr0 : Kd.C k36 w0 A0 l.length l) (hB : Below w0.heap.size w0 w) (hL : Legs w w0.heap.size b n L)
    (hlen : l.length ≤ 1024) (hn : n ≤ 1024) (hwf : ∀ r ∈ l, KeyWf (r.f0, φ r.f1)) (hsz : ∀ k, (L k false).length ≤ 1024) :
    Calls Try.prog 28 #[.map (some b), .slice A0 l.length c0, .int .i64 0, .func (.func fid) #[] #[]] w fun e w' => e = .returned (.tuple #[]) ∧ Legs w' w0.heap.size b (n + l.length) (addL φ false L l) ∧ Below w0.heap.size w0 w' := by
  go_enter Try.func28, Try.ntmps28
  go_wp2
  go_loopw [14] (fun i wr => ∃ k : Nat, k ≤ l.length ∧ i = .int .i64 k ∧ Legs wr w0.heap.size b (n + k) (addL φ false L (l.take k)) ∧ Below w0.heap.size w0 wr) (fun i _ => l.length - (intOf i).toNat)
  case atStart => exact ⟨0, by omega, rfl, by simpa [addL] using hL, hB⟩
  case round =>
    obtain ⟨k, hk, rfl, hLk, hBk⟩ := hrel
    by_cases hlt : k < l.length
    · obtain ⟨ad, e130, hx0, hx1, hx2, hx3, hx4, hx5, hx6, hx7⟩ := at_T36 hr0 (k : Int) (by omega) (by omega)
      cases e130
      have hst := store36
      replace hx0 := (hBk.cell (World.block_lt_of_cell? w0 _ hx0)).trans hx0
      replace hx1 := (hBk.cell (World.block_lt_of_cell? w0 _ hx1)).trans hx1
      replace hx2 := (hBk.cell (World.block_lt_of_cell? w0 _ hx2)).trans hx2
      replace hx3 := (hBk.cell (World.block_lt_of_cell? w0 _ hx3)).trans hx3
      replace hx4 := (hBk.cell (World.block_lt_of_cell? w0 _ hx4)).trans hx4
      replace hx5 := (hBk.cell (World.block_lt_of_cell? w0 _ hx5)).trans hx5
      replace hx6 := (hBk.cell (World.block_lt_of_cell? w0 _ hx6)).trans hx6
      replace hx7 := (hBk.cell (World.block_lt_of_cell? w0 _ hx7)).trans hx7
      simp only [Int.toNat_natCast] at hx0 hx1 hx2 hx3 hx4 hx5 hx6 hx7
      clear hr0 hB hL
      have hmem : rd_T36 l (k : Int) ∈ l := by
        unfold rd_T36
        rw [Int.toNat_natCast, List.getD_eq_getElem?_getD, List.getElem?_eq_getElem hlt]
        exact List.getElem_mem hlt
      have htake : l.take (k + 1) = l.take k ++ [rd_T36 l (k : Int)] := by
        rw [List.take_succ_eq_append_getElem hlt]
        unfold rd_T36
        rw [Int.toNat_natCast, List.getD_eq_getElem?_getD, List.getElem?_eq_getElem hlt]
        rfl
      generalize rd_T36 l (k : Int) = r at *
      have hadd := addL_snoc φ false L (l.take k) r
      rw [← htake] at hadd
      have hlen' : ∀ q, ((addL φ false L (l.take k)) q false).length ≤ 3000 := fun q => by
        have h1 := addL_len φ false (l.take k) L q false
        have h2 := hsz q
        have h3 : (l.take k).length ≤ l.length := by rw [List.length_take]; omega
        omega
      by_cases h1 : r.f1 = 1
      · rw [if_pos h1] at hadd
        have hb1 : decide (r.f1 = 1) = true := decide_eq_true h1
        have hsz0 : w0.heap.size ≤ wr.heap.size := hBk.size
        have HL := Lib.hid (hLk.elim fun D h => h.elim fun V h => (show Legs (wr.alloc (.cells #[.int .i64 r.f0, .int .i64 1, .int .i64 r.f2, .string r.f3, .int .i64 r.f4, .int .i64 r.f5, .int .i64 r.f6, .int .i64 r.f7] 36)) w0.heap.size b (n + (k + 1)) (addL φ false L (l.take (k + 1))) from ⟨D, V, by rw [hadd]; exact (h.kept ((Below.refl _ _).alloc (Nat.le_refl _) _)).mono (by omega)⟩))
        have HB := Lib.hid (hBk.alloc hsz0 (.cells #[.int .i64 r.f0, .int .i64 1, .int .i64 r.f2, .string r.f3, .int .i64 r.f4, .int .i64 r.f5, .int .i64 r.f6, .int .i64 r.f7] 36))
        clear hLk hBk hwf hsz hadd htake hmem hlen'
        go_wp2
        go_roundw
        case rel => exact ⟨k + 1, by omega, by go_num, HL.out, HB.out⟩
        case measure => simp [intOf]; omega
      · rw [if_neg h1] at hadd
        have hb1 : decide (r.f1 = 1) = false := decide_eq_false h1
        obtain ⟨D, V, hV⟩ := hLk
        have hkw : KeyWf (r.f0, φ r.f1) := hwf r hmem
        have HV := Lib.hid hV
        have HB := Lib.hid hBk
        have HA := Lib.hid hadd
        have HN := Lib.hid hlen'
        have HK := Lib.hid hkw
        clear hBk hwf hsz hadd htake hmem hlen' hkw hV
        go_wp2
        obtain ⟨W1, hW1⟩ : ∃ W1, wr.alloc (.cells #[.int .i64 r.f0, .int .i64 r.f1, .int .i64 r.f2, .string r.f3, .int .i64 r.f4, .int .i64 r.f5, .int .i64 r.f6, .int .i64 r.f7] 36) = W1 := ⟨_, rfl⟩
        have hs1 : W1.heap.size = wr.heap.size + 1 := by rw [← hW1]; simp
        have q0 : W1.cell? ⟨wr.heap.size, 0, none⟩ = some (.int .i64 r.f0) := by rw [← hW1]; simp
        have q1 : W1.cell? ⟨wr.heap.size, 1, none⟩ = some (.int .i64 r.f1) := by rw [← hW1]; simp
        have qlt : wr.heap.size < W1.heap.size := by omega
        have p0 : ∀ o, (W1.drew.alloc o).cell? ⟨wr.heap.size, 0, none⟩ = some (.int .i64 r.f0) := fun o => by rw [World.cell?_alloc_past _ _ _ (by exact qlt)]; exact q0
        have p1 : ∀ o, (W1.drew.alloc o).cell? ⟨wr.heap.size, 1, none⟩ = some (.int .i64 r.f1) := fun o => by rw [World.cell?_alloc_past _ _ _ (by exact qlt)]; exact q1
        rw [hW1]
        have HW1 := Lib.hid hW1
        have Hs1 := Lib.hid hs1
        clear hW1 hx0 hx1 hx2 hx3 hx4 hx5 hx6 hx7 hst hs1
        have hst := store59'
        refine wp_mono (Q := AtEnd ⟨#[.map (some b), .slice (some ad) l.length c0, .int .i64 0, .func (.func fid) #[] #[], undef, undef, undef, undef, undef, .pointer (some ⟨wr.heap.size, 0, none⟩), .pointer (some ⟨wr.heap.size + 1, 0, none⟩), u11, .slice (some ad) l.length c0, .int .i64 l.length, .int .i64 k, .bool true, .pointer (some (ad.add (k * 8))), .agg #[.int .i64 r.f0, .int .i64 r.f1, .int .i64 r.f2, .string r.f3, .int .i64 r.f4, .int .i64 r.f5, .int .i64 r.f6, .int .i64 r.f7], .pointer (some ⟨wr.heap.size, 1, none⟩), .int .i64 r.f1, .bool false, .pointer (some ⟨wr.heap.size, 0, none⟩), .int .i64 r.f0, .func (.func fid) #[] #[], .pointer (some ⟨wr.heap.size, 1, none⟩), .int .i64 r.f1, .int .i64 (φ r.f1), .agg #[.int .i64 r.f0, .int .i64 (φ r.f1)], u28, u29, u30, u31, u32, u33, u34, u35, u36, u37, u38, u39, u40, u41, u42], []⟩ (W1.alloc (.cells #[.int .i64 r.f0, .int .i64 (φ r.f1)] 59)).drew) ?reg ?imp
        case reg =>
          go_region_with (refine (hφ _ _).mono ?_; rintro e w' ⟨rfl, rfl⟩)
          all_goals exact ⟨by rw [Hs1.out], rfl⟩
        case imp =>
          intro e a w' h
          obtain ⟨rfl, rfl, rfl⟩ := h.parts
          clear h q0 q1 qlt p0 p1 hst
          dsimp only
          have hW1 := HW1.out
          have hs1 := Hs1.out
          clear HW1 Hs1
          obtain ⟨W2, hW2⟩ : ∃ W2, (W1.alloc (.cells #[.int .i64 r.f0, .int .i64 (φ r.f1)] 59)).drew = W2 := ⟨_, rfl⟩
          have hs2 : W2.heap.size = wr.heap.size + 2 := by rw [← hW2]; simp [hs1]
          have hB2 : Below wr.heap.size wr W2 := by
            rw [← hW2, ← hW1]
            exact below_drew1 (((Below.refl _ _).alloc (Nat.le_refl _) _).alloc (by simp) _)
          have blkR : W2.heap[wr.heap.size]? = some (.cells #[.int .i64 r.f0, .int .i64 r.f1, .int .i64 r.f2, .string r.f3, .int .i64 r.f4, .int .i64 r.f5, .int .i64 r.f6, .int .i64 r.f7] 36 (0, 0)) := by
            rw [← hW2]
            show (W1.alloc _).heap[wr.heap.size]? = _
            rw [Below.heap_alloc _ _ _ (by omega), ← hW1]
            exact heap_alloc_new wr _
          have blkK : W2.heap[wr.heap.size + 1]? = some (.cells #[.int .i64 r.f0, .int .i64 (φ r.f1)] 59 (0, 0)) := by
            rw [← hW2, ← hs1]
            exact heap_alloc_new W1 _
          rw [hW2]
          clear hW2 hW1 hs1
          have k0 := cell_of_blk blkK 0 _ rfl
          have k1 := cell_of_blk blkK 1 _ rfl
          have hV2 := HV.out.kept hB2
          have look := hV2.look HK.out
          obtain ⟨pa, ca, hva⟩ := row_slice (hV2.row (r.f0, φ r.f1) false)
          obtain ⟨pb, cb, hvb⟩ := row_slice (hV2.row (r.f0, φ r.f1) true)
          rw [hva, hvb] at look
          simp only [encKey] at look
          generalize hna : (addL φ false L (l.take k) (r.f0, φ r.f1) false).length = na at hva look
          generalize hnb : (addL φ false L (l.take k) (r.f0, φ r.f1) true).length = nb at hvb look
          have hst := store63
          have HV2 := Lib.hid hV2
          have Hva := Lib.hid hva
          have Hvb := Lib.hid hvb
          have HR := Lib.hid blkR
          have HK2 := Lib.hid blkK
          have HB2 := Lib.hid hB2
          have Hs2 := Lib.hid hs2
          clear hV2 hva hvb blkR blkK hB2 hs2 W1
          go_wp2
          clear look hst k0 k1 hna hnb
          obtain ⟨W3, hW3⟩ : ∃ W3, W2.alloc (.cells #[.slice pa na ca, .slice pb nb cb] 63) = W3 := ⟨_, rfl⟩
          have hs2 := Hs2.out
          have hs3 : W3.heap.size = wr.heap.size + 3 := by rw [← hW3]; simp [hs2]
          have blkX : W3.heap[wr.heap.size + 2]? = some (.cells #[.slice pa na ca, .slice pb nb cb] 63 (0, 0)) := by
            rw [← hW3, ← hs2]; exact heap_alloc_new W2 _
          have blkR : W3.heap[wr.heap.size]? = some (.cells #[.int .i64 r.f0, .int .i64 r.f1, .int .i64 r.f2, .string r.f3, .int .i64 r.f4, .int .i64 r.f5, .int .i64 r.f6, .int .i64 r.f7] 36 (0, 0)) := by
            rw [← hW3, Below.heap_alloc _ _ _ (by omega)]; exact HR.out
          have blkK : W3.heap[wr.heap.size + 1]? = some (.cells #[.int .i64 r.f0, .int .i64 (φ r.f1)] 59 (0, 0)) := by
            rw [← hW3, Below.heap_alloc _ _ _ (by omega)]; exact HK2.out
          have hB3 : Below wr.heap.size wr W3 := by rw [← hW3]; exact HB2.out.alloc HB2.out.size _
          have hB23 : Below W2.heap.size W2 W3 := by rw [← hW3]; exact (Below.refl _ _).alloc (Nat.le_refl _) _
          have hV3 := HV2.out.kept hB23
          rw [hW3, hs2]
          clear hW3 hs2 hB23 Hs2 HV2 HR HK2 HB2
          have q0 := cell_of_blk blkR 0 _ rfl
          have q1 := cell_of_blk blkR 1 _ rfl
          have q2 := cell_of_blk blkR 2 _ rfl
          have q3 := cell_of_blk blkR 3 _ rfl
          have q4 := cell_of_blk blkR 4 _ rfl
          have q5 := cell_of_blk blkR 5 _ rfl
          have q6 := cell_of_blk blkR 6 _ rfl
          have q7 := cell_of_blk blkR 7 _ rfl
          have qx := cell_of_blk blkX 0 _ rfl
          have px : ∀ o, (W3.drew.alloc o).cell? ⟨wr.heap.size + 2, 0, none⟩ = some (.slice pa na ca) := fun o => by rw [World.cell?_alloc_past _ _ _ (by show _ < W3.heap.size; omega)]; exact qx
          have px2 : ∀ o, (W3.alloc o).cell? ⟨wr.heap.size + 2, 0, none⟩ = some (.slice pa na ca) := fun o => px o
          obtain ⟨i0, hi36, hz36, hs36, hb36⟩ := info36v
          have hown3 := (hV3.row (r.f0, φ r.f1) false).alloc (.cells #[.int .i64 r.f0, .int .i64 r.f1, .int .i64 r.f2, .string r.f3, .int .i64 r.f4, .int .i64 r.f5, .int .i64 r.f6, .int .i64 r.f7] 36)
          have hnews3 : ∀ j u, (cells36 r)[j]? = some u → ((W3.alloc (.cells #[.int .i64 r.f0, .int .i64 r.f1, .int .i64 r.f2, .string r.f3, .int .i64 r.f4, .int .i64 r.f5, .int .i64 r.f6, .int .i64 r.f7] 36)).drew).cell? ((⟨W3.heap.size, 0, none⟩ : Addr).add j) = some u :=
            World.news_of_block (w := (W3.alloc (.cells #[.int .i64 r.f0, .int .i64 r.f1, .int .i64 r.f2, .string r.f3, .int .i64 r.f4, .int .i64 r.f5, .int .i64 r.f6, .int .i64 r.f7] 36)).drew) (cs := #[.int .i64 r.f0, .int .i64 r.f1, .int .i64 r.f2, .string r.f3, .int .i64 r.f4, .int .i64 r.f5, .int .i64 r.f6, .int .i64 r.f7]) (heap_alloc_new W3 _)
          have hlenc := HN.out (r.f0, φ r.f1)
          have hvx := Hva.out
          have hnc : (addL φ false L (l.take k) (r.f0, φ r.f1) false).length = na := by
            have h1 := (hV3.row (r.f0, φ r.f1) false)
            rw [hvx] at h1
            rcases h1.2 with ⟨e1, e2⟩ | ⟨g, cap, cur, e1, _⟩
            · rw [e2]; simp at e1; exact e1.2.1.symm
            · simp at e1; exact e1.2.1.symm
          rw [hvx, hnc] at hown3
          have hxne : some (wr.heap.size + 2) ≠ (Value.slice pa na ca).ownBlock := fun e => by
            have := (hV3.row (r.f0, φ r.f1) false)
            rw [hvx] at this
            obtain ⟨cells, hc⟩ := own_typed this _ e.symm
            rw [blkX] at hc; cases hc
          have hbase3 : w0.heap.size ≤ (W3.alloc (.cells #[.int .i64 r.f0, .int .i64 r.f1, .int .i64 r.f2, .string r.f3, .int .i64 r.f4, .int .i64 r.f5, .int .i64 r.f6, .int .i64 r.f7] 36)).drew.heap.size := by
            have := HB.out.size; have := hB3.size
            show _ ≤ (W3.alloc _).heap.size
            simp; omega
          have hH3 : (W3.alloc (.cells #[.int .i64 r.f0, .int .i64 r.f1, .int .i64 r.f2, .string r.f3, .int .i64 r.f4, .int .i64 r.f5, .int .i64 r.f6, .int .i64 r.f7] 36)).drew.heap.size = W3.heap.size + 1 := by show (W3.alloc _).heap.size = _; simp
          have hone : ∀ u ∈ cells36 r, u.oneCell' = true := fun u hu => by simp [cells36] at hu; rcases hu with rfl | rfl | rfl | rfl | rfl | rfl | rfl | rfl <;> rfl
          have hmax : na + 1 ≤ maxLen := by unfold maxLen; omega
          have hbyt : (na + 1) * 72 ≤ 140737488355328 := by omega
          have fx : ∀ (w1 : World), ((W3.alloc (.cells #[.int .i64 r.f0, .int .i64 r.f1, .int .i64 r.f2, .string r.f3, .int .i64 r.f4, .int .i64 r.f5, .int .i64 r.f6, .int .i64 r.f7] 36)).drew).grownBy w1 (Value.slice pa na ca).ownBlock → w1.cell? ⟨wr.heap.size + 2, 0, none⟩ = some (.slice pa na ca) ∧ w1.frozen? ⟨wr.heap.size + 2, 0, none⟩ = false := fun w1 hg => by
            have hb : w1.heap[wr.heap.size + 2]? = some (.cells #[.slice pa na ca, .slice pb nb cb] 63 (0, 0)) := by
              rw [hg.block (wr.heap.size + 2) (by show _ < (W3.alloc _).heap.size; simp; omega) hxne]
              show (W3.alloc _).heap[wr.heap.size + 2]? = _
              rw [Below.heap_alloc _ _ _ (by omega)]; exact blkX
            exact ⟨cell_of_blk hb 0 _ rfl, by simp [World.frozen?, hb]⟩
          have HX := Lib.hid blkX
          have HR := Lib.hid blkR
          have HK2 := Lib.hid blkK
          have HV3 := Lib.hid hV3
          have HB3 := Lib.hid hB3
          have Hne := Lib.hid hxne
          have Hs3 := Lib.hid hs3
          clear blkX blkR blkK hV3 hB3 hxne hs3 hlenc
          refine wp_mono (Q := OnEnd fun a w5 => ∃ g cap w1, w1.ownsRow w0.heap.size 36 8 (.slice (some ⟨g, 0, none⟩) (na + 1) cap) (na + 1) ((addL φ false L (l.take k) (r.f0, φ r.f1) false).flatMap cells36 ++ cells36 r) ∧ ((W3.alloc (.cells #[.int .i64 r.f0, .int .i64 r.f1, .int .i64 r.f2, .string r.f3, .int .i64 r.f4, .int .i64 r.f5, .int .i64 r.f6, .int .i64 r.f7] 36)).drew).grownBy w1 (Value.slice pa na ca).ownBlock ∧
            ((Value.slice pa na ca).ownBlock = some g ∨ g = W3.heap.size + 1) ∧ g < w1.heap.size ∧ w5 = w1.setCell ⟨wr.heap.size + 2, 0, none⟩ (.slice (some ⟨g, 0, none⟩) (na + 1) cap) ∧
            ∃ t16 t17 t18 t19 t20 t21 t22 t23 t24 t25 t26 t27 t28 t29 t30 t31 t32 t33 t34 t35 t36 t37 t38, a = ⟨#[.map (some b), .slice (some ad) l.length c0, .int .i64 0, .func (.func fid) #[] #[], undef, undef, undef, undef, undef, .pointer (some ⟨wr.heap.size, 0, none⟩), .pointer (some ⟨wr.heap.size + 1, 0, none⟩), .pointer (some ⟨wr.heap.size + 2, 0, none⟩), .slice (some ad) l.length c0, .int .i64 l.length, .int .i64 k, .bool true, t16, t17, t18, t19, t20, t21, t22, t23, t24, t25, t26, t27, t28, t29, t30, t31, t32, t33, t34, t35, t36, t37, t38, u39, u40, u41, u42], []⟩) ?reg6 ?imp6
          case reg6 =>
            go_region_law (first | (refine step_append_lies _ rfl (.tmp 34) (.tmp 36) 22 rfl w0.heap.size 36 i0 _ 8 72 Try.underlying22 hi36 hz36 hs36 hb36 rfl (by decide) (.slice pa na ca) na _ rfl hown3 ⟨W3.heap.size, 0, none⟩ 1 1 (cells36 r) rfl rfl hnews3 hone (by omega) hmax hbyt hbase3 (W3.heap.size + 1) hH3 ?_; intro g cap w1 hown1 hg1 hat1 hlt1; obtain ⟨fx1, fx2⟩ := fx w1 hg1))
            all_goals exact ⟨g, cap, w1, hown1, hg1, hat1, hlt1, rfl, _, _, _, _, _, _, _, _, _, _, _, _, _, _, _, _, _, _, _, _, _, _, _, rfl⟩
          case imp6 =>
            intro e a w' h
            obtain ⟨rfl, g, cap, w1, hown1, hg1, hat1, hlt1, rfl, t16, t17, t18, t19, t20, t21, t22, t23, t24, t25, t26, t27, t28, t29, t30, t31, t32, t33, t34, t35, t36, t37, t38, rfl⟩ := h.parts
            clear h fx hown3 hnews3 hbase3 hone hmax hbyt hvx q0 q1 q2 q3 q4 q5 q6 q7 qx px px2 hi36 hz36 hs36 hb36 hH3
            dsimp only
            have blkX := HX.out
            have blkK := HK2.out
            have hV3 := HV3.out
            have hB3 := HB3.out
            have hs3 := Hs3.out
            have hlo := HB.out.size
            have hrowc := hV3.row (r.f0, φ r.f1) false
            rw [Hva.out] at hrowc
            have hne59 : some (wr.heap.size + 1) ≠ (Value.slice pa na ca).ownBlock := fun e => by
              obtain ⟨cells, hc⟩ := own_typed hrowc _ e.symm
              rw [blkK] at hc; cases hc
            have hold : ∀ j, j < W3.heap.size → some j ≠ (Value.slice pa na ca).ownBlock → w1.heap[j]? = W3.heap[j]? := fun j hj hne => by
              rw [hg1.block j (by show _ < (W3.alloc _).heap.size; simp; omega) hne]
              show (W3.alloc _).heap[j]? = _
              exact Below.heap_alloc _ _ _ hj
            have blkX1 : w1.heap[wr.heap.size + 2]? = _ := (hold _ (by omega) Hne.out).trans blkX
            have blkK1 : w1.heap[wr.heap.size + 1]? = _ := (hold _ (by omega) hne59).trans blkK
            obtain ⟨W5, hW5⟩ : ∃ W5, w1.setCell ⟨wr.heap.size + 2, 0, none⟩ (.slice (some ⟨g, 0, none⟩) (na + 1) cap) = W5 := ⟨_, rfl⟩
            have h5 : ∀ j, j ≠ wr.heap.size + 2 → W5.heap[j]? = w1.heap[j]? := fun j hj => by rw [← hW5]; exact Below.heap_setCell _ _ _ j hj
            have blkX5 : W5.heap[wr.heap.size + 2]? = some (.cells #[.slice (some ⟨g, 0, none⟩) (na + 1) cap, .slice pb nb cb] 63 (0, 0)) := by rw [← hW5]; exact heap_setCell_blk blkX1 0 _
            have blkK5 : W5.heap[wr.heap.size + 1]? = _ := (h5 _ (by omega)).trans blkK1
            rw [hW5]
            have hown5 : W5.ownsMap Try.prog 59 rawElem b (n + k) D := by
              obtain ⟨es, clock, hb, rest⟩ := hV3.own
              have hbx : b ≠ wr.heap.size + 2 := fun e => by rw [e, blkX] at hb; cases hb
              have hbr : some b ≠ (Value.slice pa na ca).ownBlock := fun e => by
                obtain ⟨cells, hc⟩ := own_typed hrowc _ e.symm
                rw [hb] at hc; cases hc
              exact ⟨es, clock, ((h5 b hbx).trans (hold b (Array.getElem?_eq_some_iff.1 hb).1 hbr)).trans hb, rest⟩
            have hg5 : wr.grownBy W5 (Value.slice pa na ca).ownBlock := by
              refine ⟨?_, ?_, ?_, ?_, fun j hj hne => ?_⟩
              · rw [← hW5]; exact hg1.os.trans hB3.os
              · rw [← hW5]; exact hg1.tape.trans hB3.tape
              · rw [← hW5]; exact hg1.output.trans hB3.output
              · rw [← hW5, World.size_setCell]
                have h1 := hg1.size
                have h2 : (W3.alloc (.cells #[.int .i64 r.f0, .int .i64 r.f1, .int .i64 r.f2, .string r.f3, .int .i64 r.f4, .int .i64 r.f5, .int .i64 r.f6, .int .i64 r.f7] 36)).drew.heap.size = W3.heap.size + 1 := by show (W3.alloc _).heap.size = _; simp
                omega
              · rw [h5 j (by omega), hold j (by omega) hne]
                exact hB3.block j hj
            have hrow5 : W5.ownsRow w0.heap.size 36 8 (.slice (some ⟨g, 0, none⟩) (na + 1) cap) (na + 1) ((addL φ false L (l.take k) (r.f0, φ r.f1) false).flatMap cells36 ++ cells36 r) :=
              own_move hown1 (fun j hj => h5 j (fun e => by
                obtain ⟨cells, hc⟩ := own_typed hown1 j hj
                rw [e, blkX1] at hc; cases hc))
            have k0 := cell_of_blk blkK5 0 _ rfl
            have k1 := cell_of_blk blkK5 1 _ rfl
            have x0 := cell_of_blk blkX5 0 _ rfl
            have x1 := cell_of_blk blkX5 1 _ rfl
            have hput := fun w6 h1 h2 => HV.out.put (W := wr) (w1 := W5) (w2 := w6) HK.out false r (v := .slice (some ⟨g, 0, none⟩) (na + 1) cap) (by rw [Hva.out]; exact hg5) (by rw [hnc]; exact hrow5) (by
              rw [Hva.out]
              rcases hat1 with e | e
              · left; rw [e]; rfl
              · right; exact ⟨g, rfl, by omega⟩) h1 h2
            have hadd := HA.out
            have hBg : Below w0.heap.size w0 W5 := HB.out.grown hg5 hlo (fun j hj => (hrowc.lt j hj).1)
            have hlob := HV.out.lob
            have HP := Lib.hid hput
            have HA5 := Lib.hid hBg
            have HLO := Lib.hid hlob
            have hnk : n + k < maxLen := by unfold maxLen; omega
            have hkey := keyOf_encKey HK.out
            clear hput hBg hlob blkX blkK hV3 hB3 hs3 hlo hrowc hne59 hold blkX1 blkK1 hW5 h5 blkX5 blkK5 hg5 hrow5 hadd hown1 hg1 hat1 hlt1
            go_wp2_with (at_mapUpdate; refine wpList_mapUpdate_own _ rfl _ _ _ 53 rfl 59 63 law59 Try.underlying53 rawElem b (n + k) D rfl hown5 hnk _ _ (litKey (r.f0, φ r.f1)) rfl rfl hkey _ [] rfl ?_; intro w6 hown6 hgrow6)
            have hfin := HP.out w6 hgrow6 (by
              have e1 : putV V (r.f0, φ r.f1) false (.slice (some ⟨g, 0, none⟩) (na + 1) cap) (r.f0, φ r.f1) false = .slice (some ⟨g, 0, none⟩) (na + 1) cap := by simp [putV]
              have e2 : putV V (r.f0, φ r.f1) false (.slice (some ⟨g, 0, none⟩) (na + 1) cap) (r.f0, φ r.f1) true = .slice pb nb cb := by simp [putV, Hvb.out]
              rw [e1, e2]
              exact hown6)
            have hB6 : Below w0.heap.size w0 w6 := HA5.out.grown hgrow6 HA5.out.size (fun j hj => by cases hj; exact HLO.out)
            clear hown6 hgrow6 hown5 HP HA5
            go_roundw
            case rel => exact ⟨k + 1, by omega, by go_num, ⟨_, _, by rw [HA.out]; exact hfin⟩, hB6⟩
            case measure => simp [intOf]; omega
    · obtain rfl : k = l.length := by omega
      rw [List.take_length] at hLk
      have HL := Lib.hid hLk
      have HB := Lib.hid hBk
      clear hLk hBk hr0 hB hL
      go_wp2
      go_end0
      exact ⟨rfl, HL.out, HB.out⟩

set_option maxRecDepth 100000 in
set_option maxHeartbeats 8000000 in
theorem add_true (fid : Nat) (φ : Int → Int) (hφ : ∀ x W, Calls Try.prog fid #[.int .i64 x] W fun e w' => e = .returned (.int .i64 (φ x)) ∧ w' = W) (ef : ∀ args w, (callFunc fid args).run Try.prog w = .ok (.enter fid args) w)
    (A0 : Option Addr) (c0 : Nat) (l : List S36) (w0 w : World) (b n : Nat) (L : LegsL) (hr0 : Kd.C k36 w0 A0 l.length l) (hB : Below w0.heap.size w0 w) (hL : Legs w w0.heap.size b n L)
    (hlen : l.length ≤ 1024) (hn : n ≤ 1024) (hwf : ∀ r ∈ l, KeyWf (r.f0, φ r.f1)) (hsz : ∀ k, (L k true).length ≤ 1024) :
    Calls Try.prog 28 #[.map (some b), .slice A0 l.length c0, .int .i64 1, .func (.func fid) #[] #[]] w fun e w' => e = .returned (.tuple #[]) ∧ Legs w' w0.heap.size b (n + l.length) (addL φ true L l) ∧ Below w0.heap.size w0 w' := by
  go_enter Try.func28, Try.ntmps28
  go_wp2
  go_loopw [14] (fun i wr => ∃ k : Nat, k ≤ l.length ∧ i = .int .i64 k ∧ Legs wr w0.heap.size b (n + k) (addL φ true L (l.take k)) ∧ Below w0.heap.size w0 wr) (fun i _ => l.length - (intOf i).toNat)
  case atStart => exact ⟨0, by omega, rfl, by simpa [addL] using hL, hB⟩
  case round =>
    obtain ⟨k, hk, rfl, hLk, hBk⟩ := hrel
    by_cases hlt : k < l.length
    · obtain ⟨ad, e130, hx0, hx1, hx2, hx3, hx4, hx5, hx6, hx7⟩ := at_T36 hr0 (k : Int) (by omega) (by omega)
      cases e130
      have hst := store36
      replace hx0 := (hBk.cell (World.block_lt_of_cell? w0 _ hx0)).trans hx0
      replace hx1 := (hBk.cell (World.block_lt_of_cell? w0 _ hx1)).trans hx1
      replace hx2 := (hBk.cell (World.block_lt_of_cell? w0 _ hx2)).trans hx2
      replace hx3 := (hBk.cell (World.block_lt_of_cell? w0 _ hx3)).trans hx3
      replace hx4 := (hBk.cell (World.block_lt_of_cell? w0 _ hx4)).trans hx4
      replace hx5 := (hBk.cell (World.block_lt_of_cell? w0 _ hx5)).trans hx5
      replace hx6 := (hBk.cell (World.block_lt_of_cell? w0 _ hx6)).trans hx6
      replace hx7 := (hBk.cell (World.block_lt_of_cell? w0 _ hx7)).trans hx7
      simp only [Int.toNat_natCast] at hx0 hx1 hx2 hx3 hx4 hx5 hx6 hx7
      clear hr0 hB hL
      have hmem : rd_T36 l (k : Int) ∈ l := by
        unfold rd_T36
        rw [Int.toNat_natCast, List.getD_eq_getElem?_getD, List.getElem?_eq_getElem hlt]
        exact List.getElem_mem hlt
      have htake : l.take (k + 1) = l.take k ++ [rd_T36 l (k : Int)] := by
        rw [List.take_succ_eq_append_getElem hlt]
        unfold rd_T36
        rw [Int.toNat_natCast, List.getD_eq_getElem?_getD, List.getElem?_eq_getElem hlt]
        rfl
      generalize rd_T36 l (k : Int) = r at *
      have hadd := addL_snoc φ true L (l.take k) r
      rw [← htake] at hadd
      have hlen' : ∀ q, ((addL φ true L (l.take k)) q true).length ≤ 3000 := fun q => by
        have h1 := addL_len φ true (l.take k) L q true
        have h2 := hsz q
        have h3 : (l.take k).length ≤ l.length := by rw [List.length_take]; omega
        omega
      by_cases h1 : r.f1 = 1
      · rw [if_pos h1] at hadd
        have hb1 : decide (r.f1 = 1) = true := decide_eq_true h1
        have hsz0 : w0.heap.size ≤ wr.heap.size := hBk.size
        have HL := Lib.hid (hLk.elim fun D h => h.elim fun V h => (show Legs (wr.alloc (.cells #[.int .i64 r.f0, .int .i64 1, .int .i64 r.f2, .string r.f3, .int .i64 r.f4, .int .i64 r.f5, .int .i64 r.f6, .int .i64 r.f7] 36)) w0.heap.size b (n + (k + 1)) (addL φ true L (l.take (k + 1))) from ⟨D, V, by rw [hadd]; exact (h.kept ((Below.refl _ _).alloc (Nat.le_refl _) _)).mono (by omega)⟩))
        have HB := Lib.hid (hBk.alloc hsz0 (.cells #[.int .i64 r.f0, .int .i64 1, .int .i64 r.f2, .string r.f3, .int .i64 r.f4, .int .i64 r.f5, .int .i64 r.f6, .int .i64 r.f7] 36))
        clear hLk hBk hwf hsz hadd htake hmem hlen'
        go_wp2
        go_roundw
        case rel => exact ⟨k + 1, by omega, by go_num, HL.out, HB.out⟩
        case measure => simp [intOf]; omega
      · rw [if_neg h1] at hadd
        have hb1 : decide (r.f1 = 1) = false := decide_eq_false h1
        obtain ⟨D, V, hV⟩ := hLk
        have hkw : KeyWf (r.f0, φ r.f1) := hwf r hmem
        have HV := Lib.hid hV
        have HB := Lib.hid hBk
        have HA := Lib.hid hadd
        have HN := Lib.hid hlen'
        have HK := Lib.hid hkw
        clear hBk hwf hsz hadd htake hmem hlen' hkw hV
        go_wp2
        obtain ⟨W1, hW1⟩ : ∃ W1, wr.alloc (.cells #[.int .i64 r.f0, .int .i64 r.f1, .int .i64 r.f2, .string r.f3, .int .i64 r.f4, .int .i64 r.f5, .int .i64 r.f6, .int .i64 r.f7] 36) = W1 := ⟨_, rfl⟩
        have hs1 : W1.heap.size = wr.heap.size + 1 := by rw [← hW1]; simp
        have q0 : W1.cell? ⟨wr.heap.size, 0, none⟩ = some (.int .i64 r.f0) := by rw [← hW1]; simp
        have q1 : W1.cell? ⟨wr.heap.size, 1, none⟩ = some (.int .i64 r.f1) := by rw [← hW1]; simp
        have qlt : wr.heap.size < W1.heap.size := by omega
        have p0 : ∀ o, (W1.drew.alloc o).cell? ⟨wr.heap.size, 0, none⟩ = some (.int .i64 r.f0) := fun o => by rw [World.cell?_alloc_past _ _ _ (by exact qlt)]; exact q0
        have p1 : ∀ o, (W1.drew.alloc o).cell? ⟨wr.heap.size, 1, none⟩ = some (.int .i64 r.f1) := fun o => by rw [World.cell?_alloc_past _ _ _ (by exact qlt)]; exact q1
        rw [hW1]
        have HW1 := Lib.hid hW1
        have Hs1 := Lib.hid hs1
        clear hW1 hx0 hx1 hx2 hx3 hx4 hx5 hx6 hx7 hst hs1
        have hst := store59'
        refine wp_mono (Q := AtEnd ⟨#[.map (some b), .slice (some ad) l.length c0, .int .i64 1, .func (.func fid) #[] #[], undef, undef, undef, undef, undef, .pointer (some ⟨wr.heap.size, 0, none⟩), .pointer (some ⟨wr.heap.size + 1, 0, none⟩), u11, .slice (some ad) l.length c0, .int .i64 l.length, .int .i64 k, .bool true, .pointer (some (ad.add (k * 8))), .agg #[.int .i64 r.f0, .int .i64 r.f1, .int .i64 r.f2, .string r.f3, .int .i64 r.f4, .int .i64 r.f5, .int .i64 r.f6, .int .i64 r.f7], .pointer (some ⟨wr.heap.size, 1, none⟩), .int .i64 r.f1, .bool false, .pointer (some ⟨wr.heap.size, 0, none⟩), .int .i64 r.f0, .func (.func fid) #[] #[], .pointer (some ⟨wr.heap.size, 1, none⟩), .int .i64 r.f1, .int .i64 (φ r.f1), .agg #[.int .i64 r.f0, .int .i64 (φ r.f1)], u28, u29, u30, u31, u32, u33, u34, u35, u36, u37, u38, u39, u40, u41, u42], []⟩ (W1.alloc (.cells #[.int .i64 r.f0, .int .i64 (φ r.f1)] 59)).drew) ?reg ?imp
        case reg =>
          go_region_with (refine (hφ _ _).mono ?_; rintro e w' ⟨rfl, rfl⟩)
          all_goals exact ⟨by rw [Hs1.out], rfl⟩
        case imp =>
          intro e a w' h
          obtain ⟨rfl, rfl, rfl⟩ := h.parts
          clear h q0 q1 qlt p0 p1 hst
          dsimp only
          have hW1 := HW1.out
          have hs1 := Hs1.out
          clear HW1 Hs1
          obtain ⟨W2, hW2⟩ : ∃ W2, (W1.alloc (.cells #[.int .i64 r.f0, .int .i64 (φ r.f1)] 59)).drew = W2 := ⟨_, rfl⟩
          have hs2 : W2.heap.size = wr.heap.size + 2 := by rw [← hW2]; simp [hs1]
          have hB2 : Below wr.heap.size wr W2 := by
            rw [← hW2, ← hW1]
            exact below_drew1 (((Below.refl _ _).alloc (Nat.le_refl _) _).alloc (by simp) _)
          have blkR : W2.heap[wr.heap.size]? = some (.cells #[.int .i64 r.f0, .int .i64 r.f1, .int .i64 r.f2, .string r.f3, .int .i64 r.f4, .int .i64 r.f5, .int .i64 r.f6, .int .i64 r.f7] 36 (0, 0)) := by
            rw [← hW2]
            show (W1.alloc _).heap[wr.heap.size]? = _
            rw [Below.heap_alloc _ _ _ (by omega), ← hW1]
            exact heap_alloc_new wr _
          have blkK : W2.heap[wr.heap.size + 1]? = some (.cells #[.int .i64 r.f0, .int .i64 (φ r.f1)] 59 (0, 0)) := by
            rw [← hW2, ← hs1]
            exact heap_alloc_new W1 _
          rw [hW2]
          clear hW2 hW1 hs1
          have k0 := cell_of_blk blkK 0 _ rfl
          have k1 := cell_of_blk blkK 1 _ rfl
          have hV2 := HV.out.kept hB2
          have look := hV2.look HK.out
          obtain ⟨pa, ca, hva⟩ := row_slice (hV2.row (r.f0, φ r.f1) false)
          obtain ⟨pb, cb, hvb⟩ := row_slice (hV2.row (r.f0, φ r.f1) true)
          rw [hva, hvb] at look
          simp only [encKey] at look
          generalize hna : (addL φ true L (l.take k) (r.f0, φ r.f1) false).length = na at hva look
          generalize hnb : (addL φ true L (l.take k) (r.f0, φ r.f1) true).length = nb at hvb look
          have hst := store63
          have HV2 := Lib.hid hV2
          have Hva := Lib.hid hva
          have Hvb := Lib.hid hvb
          have HR := Lib.hid blkR
          have HK2 := Lib.hid blkK
          have HB2 := Lib.hid hB2
          have Hs2 := Lib.hid hs2
          clear hV2 hva hvb blkR blkK hB2 hs2 W1
          go_wp2
          clear look hst k0 k1 hna hnb
          obtain ⟨W3, hW3⟩ : ∃ W3, W2.alloc (.cells #[.slice pa na ca, .slice pb nb cb] 63) = W3 := ⟨_, rfl⟩
          have hs2 := Hs2.out
          have hs3 : W3.heap.size = wr.heap.size + 3 := by rw [← hW3]; simp [hs2]
          have blkX : W3.heap[wr.heap.size + 2]? = some (.cells #[.slice pa na ca, .slice pb nb cb] 63 (0, 0)) := by
            rw [← hW3, ← hs2]; exact heap_alloc_new W2 _
          have blkR : W3.heap[wr.heap.size]? = some (.cells #[.int .i64 r.f0, .int .i64 r.f1, .int .i64 r.f2, .string r.f3, .int .i64 r.f4, .int .i64 r.f5, .int .i64 r.f6, .int .i64 r.f7] 36 (0, 0)) := by
            rw [← hW3, Below.heap_alloc _ _ _ (by omega)]; exact HR.out
          have blkK : W3.heap[wr.heap.size + 1]? = some (.cells #[.int .i64 r.f0, .int .i64 (φ r.f1)] 59 (0, 0)) := by
            rw [← hW3, Below.heap_alloc _ _ _ (by omega)]; exact HK2.out
          have hB3 : Below wr.heap.size wr W3 := by rw [← hW3]; exact HB2.out.alloc HB2.out.size _
          have hB23 : Below W2.heap.size W2 W3 := by rw [← hW3]; exact (Below.refl _ _).alloc (Nat.le_refl _) _
          have hV3 := HV2.out.kept hB23
          rw [hW3, hs2]
          clear hW3 hs2 hB23 Hs2 HV2 HR HK2 HB2
          have q0 := cell_of_blk blkR 0 _ rfl
          have q1 := cell_of_blk blkR 1 _ rfl
          have q2 := cell_of_blk blkR 2 _ rfl
          have q3 := cell_of_blk blkR 3 _ rfl
          have q4 := cell_of_blk blkR 4 _ rfl
          have q5 := cell_of_blk blkR 5 _ rfl
          have q6 := cell_of_blk blkR 6 _ rfl
          have q7 := cell_of_blk blkR 7 _ rfl
          have qx := cell_of_blk blkX 1 _ rfl
          have px : ∀ o, (W3.drew.alloc o).cell? ⟨wr.heap.size + 2, 1, none⟩ = some (.slice pb nb cb) := fun o => by rw [World.cell?_alloc_past _ _ _ (by show _ < W3.heap.size; omega)]; exact qx
          have px2 : ∀ o, (W3.alloc o).cell? ⟨wr.heap.size + 2, 1, none⟩ = some (.slice pb nb cb) := fun o => px o
          obtain ⟨i0, hi36, hz36, hs36, hb36⟩ := info36v
          have hown3 := (hV3.row (r.f0, φ r.f1) true).alloc (.cells #[.int .i64 r.f0, .int .i64 r.f1, .int .i64 r.f2, .string r.f3, .int .i64 r.f4, .int .i64 r.f5, .int .i64 r.f6, .int .i64 r.f7] 36)
          have hnews3 : ∀ j u, (cells36 r)[j]? = some u → ((W3.alloc (.cells #[.int .i64 r.f0, .int .i64 r.f1, .int .i64 r.f2, .string r.f3, .int .i64 r.f4, .int .i64 r.f5, .int .i64 r.f6, .int .i64 r.f7] 36)).drew).cell? ((⟨W3.heap.size, 0, none⟩ : Addr).add j) = some u :=
            World.news_of_block (w := (W3.alloc (.cells #[.int .i64 r.f0, .int .i64 r.f1, .int .i64 r.f2, .string r.f3, .int .i64 r.f4, .int .i64 r.f5, .int .i64 r.f6, .int .i64 r.f7] 36)).drew) (cs := #[.int .i64 r.f0, .int .i64 r.f1, .int .i64 r.f2, .string r.f3, .int .i64 r.f4, .int .i64 r.f5, .int .i64 r.f6, .int .i64 r.f7]) (heap_alloc_new W3 _)
          have hlenc := HN.out (r.f0, φ r.f1)
          have hvx := Hvb.out
          have hnc : (addL φ true L (l.take k) (r.f0, φ r.f1) true).length = nb := by
            have h1 := (hV3.row (r.f0, φ r.f1) true)
            rw [hvx] at h1
            rcases h1.2 with ⟨e1, e2⟩ | ⟨g, cap, cur, e1, _⟩
            · rw [e2]; simp at e1; exact e1.2.1.symm
            · simp at e1; exact e1.2.1.symm
          rw [hvx, hnc] at hown3
          have hxne : some (wr.heap.size + 2) ≠ (Value.slice pb nb cb).ownBlock := fun e => by
            have := (hV3.row (r.f0, φ r.f1) true)
            rw [hvx] at this
            obtain ⟨cells, hc⟩ := own_typed this _ e.symm
            rw [blkX] at hc; cases hc
          have hbase3 : w0.heap.size ≤ (W3.alloc (.cells #[.int .i64 r.f0, .int .i64 r.f1, .int .i64 r.f2, .string r.f3, .int .i64 r.f4, .int .i64 r.f5, .int .i64 r.f6, .int .i64 r.f7] 36)).drew.heap.size := by
            have := HB.out.size; have := hB3.size
            show _ ≤ (W3.alloc _).heap.size
            simp; omega
          have hH3 : (W3.alloc (.cells #[.int .i64 r.f0, .int .i64 r.f1, .int .i64 r.f2, .string r.f3, .int .i64 r.f4, .int .i64 r.f5, .int .i64 r.f6, .int .i64 r.f7] 36)).drew.heap.size = W3.heap.size + 1 := by show (W3.alloc _).heap.size = _; simp
          have hone : ∀ u ∈ cells36 r, u.oneCell' = true := fun u hu => by simp [cells36] at hu; rcases hu with rfl | rfl | rfl | rfl | rfl | rfl | rfl | rfl <;> rfl
          have hmax : nb + 1 ≤ maxLen := by unfold maxLen; omega
          have hbyt : (nb + 1) * 72 ≤ 140737488355328 := by omega
          have fx : ∀ (w1 : World), ((W3.alloc (.cells #[.int .i64 r.f0, .int .i64 r.f1, .int .i64 r.f2, .string r.f3, .int .i64 r.f4, .int .i64 r.f5, .int .i64 r.f6, .int .i64 r.f7] 36)).drew).grownBy w1 (Value.slice pb nb cb).ownBlock → w1.cell? ⟨wr.heap.size + 2, 1, none⟩ = some (.slice pb nb cb) ∧ w1.frozen? ⟨wr.heap.size + 2, 1, none⟩ = false := fun w1 hg => by
            have hb : w1.heap[wr.heap.size + 2]? = some (.cells #[.slice pa na ca, .slice pb nb cb] 63 (0, 0)) := by
              rw [hg.block (wr.heap.size + 2) (by show _ < (W3.alloc _).heap.size; simp; omega) hxne]
              show (W3.alloc _).heap[wr.heap.size + 2]? = _
              rw [Below.heap_alloc _ _ _ (by omega)]; exact blkX
            exact ⟨cell_of_blk hb 1 _ rfl, by simp [World.frozen?, hb]⟩
          have HX := Lib.hid blkX
          have HR := Lib.hid blkR
          have HK2 := Lib.hid blkK
          have HV3 := Lib.hid hV3
          have HB3 := Lib.hid hB3
          have Hne := Lib.hid hxne
          have Hs3 := Lib.hid hs3
          clear blkX blkR blkK hV3 hB3 hxne hs3 hlenc
          refine wp_mono (Q := OnEnd fun a w5 => ∃ g cap w1, w1.ownsRow w0.heap.size 36 8 (.slice (some ⟨g, 0, none⟩) (nb + 1) cap) (nb + 1) ((addL φ true L (l.take k) (r.f0, φ r.f1) true).flatMap cells36 ++ cells36 r) ∧ ((W3.alloc (.cells #[.int .i64 r.f0, .int .i64 r.f1, .int .i64 r.f2, .string r.f3, .int .i64 r.f4, .int .i64 r.f5, .int .i64 r.f6, .int .i64 r.f7] 36)).drew).grownBy w1 (Value.slice pb nb cb).ownBlock ∧
            ((Value.slice pb nb cb).ownBlock = some g ∨ g = W3.heap.size + 1) ∧ g < w1.heap.size ∧ w5 = w1.setCell ⟨wr.heap.size + 2, 1, none⟩ (.slice (some ⟨g, 0, none⟩) (nb + 1) cap) ∧
            ∃ t16 t17 t18 t19 t20 t21 t22 t23 t24 t25 t26 t27 t28 t29 t30 t31 t32 t33 t34 t35 t36 t37 t38, a = ⟨#[.map (some b), .slice (some ad) l.length c0, .int .i64 1, .func (.func fid) #[] #[], undef, undef, undef, undef, undef, .pointer (some ⟨wr.heap.size, 0, none⟩), .pointer (some ⟨wr.heap.size + 1, 0, none⟩), .pointer (some ⟨wr.heap.size + 2, 0, none⟩), .slice (some ad) l.length c0, .int .i64 l.length, .int .i64 k, .bool true, t16, t17, t18, t19, t20, t21, t22, t23, t24, t25, t26, t27, t28, t29, t30, t31, t32, t33, t34, t35, t36, t37, t38, u39, u40, u41, u42], []⟩) ?reg6 ?imp6
          case reg6 =>
            go_region_law (first | (refine step_append_lies _ rfl (.tmp 34) (.tmp 36) 22 rfl w0.heap.size 36 i0 _ 8 72 Try.underlying22 hi36 hz36 hs36 hb36 rfl (by decide) (.slice pb nb cb) nb _ rfl hown3 ⟨W3.heap.size, 0, none⟩ 1 1 (cells36 r) rfl rfl hnews3 hone (by omega) hmax hbyt hbase3 (W3.heap.size + 1) hH3 ?_; intro g cap w1 hown1 hg1 hat1 hlt1; obtain ⟨fx1, fx2⟩ := fx w1 hg1))
            all_goals exact ⟨g, cap, w1, hown1, hg1, hat1, hlt1, rfl, _, _, _, _, _, _, _, _, _, _, _, _, _, _, _, _, _, _, _, _, _, _, _, rfl⟩
          case imp6 =>
            intro e a w' h
            obtain ⟨rfl, g, cap, w1, hown1, hg1, hat1, hlt1, rfl, t16, t17, t18, t19, t20, t21, t22, t23, t24, t25, t26, t27, t28, t29, t30, t31, t32, t33, t34, t35, t36, t37, t38, rfl⟩ := h.parts
            clear h fx hown3 hnews3 hbase3 hone hmax hbyt hvx q0 q1 q2 q3 q4 q5 q6 q7 qx px px2 hi36 hz36 hs36 hb36 hH3
            dsimp only
            have blkX := HX.out
            have blkK := HK2.out
            have hV3 := HV3.out
            have hB3 := HB3.out
            have hs3 := Hs3.out
            have hlo := HB.out.size
            have hrowc := hV3.row (r.f0, φ r.f1) true
            rw [Hvb.out] at hrowc
            have hne59 : some (wr.heap.size + 1) ≠ (Value.slice pb nb cb).ownBlock := fun e => by
              obtain ⟨cells, hc⟩ := own_typed hrowc _ e.symm
              rw [blkK] at hc; cases hc
            have hold : ∀ j, j < W3.heap.size → some j ≠ (Value.slice pb nb cb).ownBlock → w1.heap[j]? = W3.heap[j]? := fun j hj hne => by
              rw [hg1.block j (by show _ < (W3.alloc _).heap.size; simp; omega) hne]
              show (W3.alloc _).heap[j]? = _
              exact Below.heap_alloc _ _ _ hj
            have blkX1 : w1.heap[wr.heap.size + 2]? = _ := (hold _ (by omega) Hne.out).trans blkX
            have blkK1 : w1.heap[wr.heap.size + 1]? = _ := (hold _ (by omega) hne59).trans blkK
            obtain ⟨W5, hW5⟩ : ∃ W5, w1.setCell ⟨wr.heap.size + 2, 1, none⟩ (.slice (some ⟨g, 0, none⟩) (nb + 1) cap) = W5 := ⟨_, rfl⟩
            have h5 : ∀ j, j ≠ wr.heap.size + 2 → W5.heap[j]? = w1.heap[j]? := fun j hj => by rw [← hW5]; exact Below.heap_setCell _ _ _ j hj
            have blkX5 : W5.heap[wr.heap.size + 2]? = some (.cells #[.slice pa na ca, .slice (some ⟨g, 0, none⟩) (nb + 1) cap] 63 (0, 0)) := by rw [← hW5]; exact heap_setCell_blk blkX1 1 _
            have blkK5 : W5.heap[wr.heap.size + 1]? = _ := (h5 _ (by omega)).trans blkK1
            rw [hW5]
            have hown5 : W5.ownsMap Try.prog 59 rawElem b (n + k) D := by
              obtain ⟨es, clock, hb, rest⟩ := hV3.own
              have hbx : b ≠ wr.heap.size + 2 := fun e => by rw [e, blkX] at hb; cases hb
              have hbr : some b ≠ (Value.slice pb nb cb).ownBlock := fun e => by
                obtain ⟨cells, hc⟩ := own_typed hrowc _ e.symm
                rw [hb] at hc; cases hc
              exact ⟨es, clock, ((h5 b hbx).trans (hold b (Array.getElem?_eq_some_iff.1 hb).1 hbr)).trans hb, rest⟩
            have hg5 : wr.grownBy W5 (Value.slice pb nb cb).ownBlock := by
              refine ⟨?_, ?_, ?_, ?_, fun j hj hne => ?_⟩
              · rw [← hW5]; exact hg1.os.trans hB3.os
              · rw [← hW5]; exact hg1.tape.trans hB3.tape
              · rw [← hW5]; exact hg1.output.trans hB3.output
              · rw [← hW5, World.size_setCell]
                have h1 := hg1.size
                have h2 : (W3.alloc (.cells #[.int .i64 r.f0, .int .i64 r.f1, .int .i64 r.f2, .string r.f3, .int .i64 r.f4, .int .i64 r.f5, .int .i64 r.f6, .int .i64 r.f7] 36)).drew.heap.size = W3.heap.size + 1 := by show (W3.alloc _).heap.size = _; simp
                omega
              · rw [h5 j (by omega), hold j (by omega) hne]
                exact hB3.block j hj
            have hrow5 : W5.ownsRow w0.heap.size 36 8 (.slice (some ⟨g, 0, none⟩) (nb + 1) cap) (nb + 1) ((addL φ true L (l.take k) (r.f0, φ r.f1) true).flatMap cells36 ++ cells36 r) :=
              own_move hown1 (fun j hj => h5 j (fun e => by
                obtain ⟨cells, hc⟩ := own_typed hown1 j hj
                rw [e, blkX1] at hc; cases hc))
            have k0 := cell_of_blk blkK5 0 _ rfl
            have k1 := cell_of_blk blkK5 1 _ rfl
            have x0 := cell_of_blk blkX5 0 _ rfl
            have x1 := cell_of_blk blkX5 1 _ rfl
            have hput := fun w6 h1 h2 => HV.out.put (W := wr) (w1 := W5) (w2 := w6) HK.out true r (v := .slice (some ⟨g, 0, none⟩) (nb + 1) cap) (by rw [Hvb.out]; exact hg5) (by rw [hnc]; exact hrow5) (by
              rw [Hvb.out]
              rcases hat1 with e | e
              · left; rw [e]; rfl
              · right; exact ⟨g, rfl, by omega⟩) h1 h2
            have hadd := HA.out
            have hBg : Below w0.heap.size w0 W5 := HB.out.grown hg5 hlo (fun j hj => (hrowc.lt j hj).1)
            have hlob := HV.out.lob
            have HP := Lib.hid hput
            have HA5 := Lib.hid hBg
            have HLO := Lib.hid hlob
            have hnk : n + k < maxLen := by unfold maxLen; omega
            have hkey := keyOf_encKey HK.out
            clear hput hBg hlob blkX blkK hV3 hB3 hs3 hlo hrowc hne59 hold blkX1 blkK1 hW5 h5 blkX5 blkK5 hg5 hrow5 hadd hown1 hg1 hat1 hlt1
            go_wp2_with (at_mapUpdate; refine wpList_mapUpdate_own _ rfl _ _ _ 53 rfl 59 63 law59 Try.underlying53 rawElem b (n + k) D rfl hown5 hnk _ _ (litKey (r.f0, φ r.f1)) rfl rfl hkey _ [] rfl ?_; intro w6 hown6 hgrow6)
            have hfin := HP.out w6 hgrow6 (by
              have e1 : putV V (r.f0, φ r.f1) true (.slice (some ⟨g, 0, none⟩) (nb + 1) cap) (r.f0, φ r.f1) false = .slice pa na ca := by simp [putV, Hva.out]
              have e2 : putV V (r.f0, φ r.f1) true (.slice (some ⟨g, 0, none⟩) (nb + 1) cap) (r.f0, φ r.f1) true = .slice (some ⟨g, 0, none⟩) (nb + 1) cap := by simp [putV]
              rw [e1, e2]
              exact hown6)
            have hB6 : Below w0.heap.size w0 w6 := HA5.out.grown hgrow6 HA5.out.size (fun j hj => by cases hj; exact HLO.out)
            clear hown6 hgrow6 hown5 HP HA5
            go_roundw
            case rel => exact ⟨k + 1, by omega, by go_num, ⟨_, _, by rw [HA.out]; exact hfin⟩, hB6⟩
            case measure => simp [intOf]; omega
    · obtain rfl : k = l.length := by omega
      rw [List.take_length] at hLk
      have HL := Lib.hid hLk
      have HB := Lib.hid hBk
      clear hLk hBk hr0 hB hL
      go_wp2
      go_end0
      exact ⟨rfl, HL.out, HB.out⟩

end Go.Proofs.Ytggdanifobagpaa.Ext
