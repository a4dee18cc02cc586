/- digits.Minimal: the loop that lays the prefixes into the levels. -/
import Derived.Test.YtajddminbfiipaaEMinSets
import Derived.Test.YtajddminbfiipaaEOnly
import Derived.Test.YtajddminbfiipaaEMatch
namespace Go.Proofs.Ytajddminbfiipaa.Ext
set_option linter.unusedVariables false
set_option linter.unusedSimpArgs false
open Go.RowKit Go.Maps Go.WideMaps

/-- The strings of length n among l. -/
def S0 (l : List Bytes) (n : Nat) (x : Bytes) : Bool := l.contains x && x.length == n
theorem S0_snoc_ne (l : List Bytes) (p : Bytes) (n : Nat) (h : n ≠ p.length) : S0 (l ++ [p]) n = S0 l n := by
  funext x
  unfold S0
  by_cases e : x = p
  · subst e
    have : (x.length == n) = false := beq_eq_false_iff_ne.2 (fun hh => h hh.symm)
    simp [this]
  · simp [e]
theorem S0_snoc (l : List Bytes) (p : Bytes) (x : Bytes) : S0 (l ++ [p]) p.length x = (S0 l p.length x || x == p) := by
  unfold S0
  by_cases e : x = p
  · subst e; simp
  · simp [e]
theorem s0_nil : S0 [] = fun _ _ => false := by funext n x; simp [S0]
def bytes (l : List ByteArray) : List Bytes := l.map (·.data.toList)

set_option maxHeartbeats 2000000 in
set_option maxRecDepth 100000 in
theorem loopB {c0 c1 c2 c3 c5 c6 c7 c8 c9 c10 c11 c12 c13 c14 c15 c16 c17 c18 c19 c20 c21 c22 c23 c24 c25 c26 c27 c31 c32 c33 c34 c35 c36 c37 c38 c39 c40 c41 c42 c43 c44 c45 c46 c47 c48 c49 c50 c51 c52 c53 c54 c55 c56 c57 c58 c59 c60 c61 c62 c63 c64 c65 c66 c67 c68 c69 c70 c71 c72 c73 c74 c75 c76 c77 c78 c79 c80 c81 c82 c83 c84 c85 c86 c87 c88 c89 c90 c91 c92 c93 c94 c95 c96 c97 c98 c99 c100 c101 c102 c103 c104 c105 c106 : Value} (L : Nat) (A0 : Option Addr) (c0' : Nat) (l : List ByteArray) (w W : World) (hlen : l.length ≤ 1024) (hr0 : l = [] ∨ ∃ b off, A0 = some ⟨b, off, none⟩ ∧ ∀ j, j < l.length → w.cell? ⟨b, off + j, none⟩ = some (.string l[j]!))
    (hM : Lev w L 15 (fun _ => 0) (fun _ _ => false) W) (Q : Exit → Act → World → Prop)
    (hexit : ∀ (u2 u3 u7 u30 u31 u32 u33 u34 u35 u36 u37 u38 u39 u40 u41 u42 : Value) (W' : World), ((∀ p ∈ l, onlyB p 0 14 = true) ∧ Lev w L 15 (fun _ => l.length) (S0 (bytes l)) W') → Q (.exit 2) ⟨#[c0, c1, u2, u3, .pointer (some ⟨L, 0, none⟩), c5, c6, u7, c8, c9, c10, c11, c12, c13, c14, c15, c16, c17, c18, c19, c20, c21, c22, c23, c24, c25, c26, c27, .slice A0 l.length c0', .int .i64 l.length, u30, u31, u32, u33, u34, u35, u36, u37, u38, u39, u40, u41, u42, c43, c44, c45, c46, c47, c48, c49, c50, c51, c52, c53, c54, c55, c56, c57, c58, c59, c60, c61, c62, c63, c64, c65, c66, c67, c68, c69, c70, c71, c72, c73, c74, c75, c76, c77, c78, c79, c80, c81, c82, c83, c84, c85, c86, c87, c88, c89, c90, c91, c92, c93, c94, c95, c96, c97, c98, c99, c100, c101, c102, c103, c104, c105, c106], []⟩ W')
    (hret : ∀ (u2 u3 u7 u30 u31 u32 u33 u34 u35 u36 u37 u38 u39 u40 u41 u42 : Value) (W' : World), ((∃ p ∈ l, onlyB p 0 14 = false) ∧ Below w.heap.size w W') → Q .ret ⟨#[c0, c1, .slice none 0 0, .int .i64 60, .pointer (some ⟨L, 0, none⟩), c5, c6, u7, c8, c9, c10, c11, c12, c13, c14, c15, c16, c17, c18, c19, c20, c21, c22, c23, c24, c25, c26, c27, .slice A0 l.length c0', .int .i64 l.length, u30, u31, u32, u33, u34, u35, u36, u37, u38, u39, u40, u41, u42, c43, c44, c45, c46, c47, c48, c49, c50, c51, c52, c53, c54, c55, c56, c57, c58, c59, c60, c61, c62, c63, c64, c65, c66, c67, c68, c69, c70, c71, c72, c73, c74, c75, c76, c77, c78, c79, c80, c81, c82, c83, c84, c85, c86, c87, c88, c89, c90, c91, c92, c93, c94, c95, c96, c97, c98, c99, c100, c101, c102, c103, c104, c105, c106], []⟩ W') :
    Code.wp Try.prog (lp 1) Q ⟨#[c0, c1, c2, c3, .pointer (some ⟨L, 0, none⟩), c5, c6, c7, c8, c9, c10, c11, c12, c13, c14, c15, c16, c17, c18, c19, c20, c21, c22, c23, c24, c25, c26, c27, .slice A0 l.length c0', .int .i64 l.length, .int .i64 0, c31, c32, c33, c34, c35, c36, c37, c38, c39, c40, c41, c42, c43, c44, c45, c46, c47, c48, c49, c50, c51, c52, c53, c54, c55, c56, c57, c58, c59, c60, c61, c62, c63, c64, c65, c66, c67, c68, c69, c70, c71, c72, c73, c74, c75, c76, c77, c78, c79, c80, c81, c82, c83, c84, c85, c86, c87, c88, c89, c90, c91, c92, c93, c94, c95, c96, c97, c98, c99, c100, c101, c102, c103, c104, c105, c106], []⟩ W := by
  dsimp only at hexit hret ⊢
  conv => arg 2; whnf
  go_loopw [30] (fun i wr => ∃ k : Nat, k ≤ l.length ∧ i = .int .i64 k ∧ (∀ j, j < k → onlyB l[j]! 0 14 = true) ∧ Lev w L 15 (fun _ => k) (S0 (bytes (l.take k))) wr) (fun i _ => l.length - (intOf i).toNat)
  case atStart => exact ⟨0, by omega, rfl, by omega, by simpa [bytes, s0_nil] using hM⟩
  case round =>
    obtain ⟨k, hk, rfl, hv, hL⟩ := hrel
    by_cases hlt : k < l.length
    · obtain ⟨b, off, rfl, hcells⟩ : ∃ b off, A0 = some ⟨b, off, none⟩ ∧ ∀ j, j < l.length → w.cell? ⟨b, off + j, none⟩ = some (.string l[j]!) := by
        rcases hr0 with h | h
        · subst h; simp at hlt
        · exact h
      have hcell := cell_later hL.low (hcells k hlt)
      clear hcells hr0 hM
      have hmem : l[k]! ∈ l := by simp [hlt]
      have htake : l.take (k + 1) = l.take k ++ [l[k]!] := by rw [List.take_succ_eq_append_getElem hlt]; simp [hlt]
      generalize hpk : l[k]! = p at hcell hmem htake
      have hO := fun W => digits_only.calls p 0 14 (onlyB p 0 14) W rfl
      by_cases hp : onlyB p 0 14 = true
      · rw [hp] at hO
        have hsz : p.size ≤ 14 := by
          have := hp
          simp only [onlyB, Bool.and_eq_true, decide_eq_true_eq] at this
          omega
        have hsz' : (p.size : Int) < 15 := by omega
        have hv' : ∀ j, j < k + 1 → onlyB l[j]! 0 14 = true := by
          intro j hj
          by_cases e : j = k
          · subst e; rw [hpk]; exact hp
          · exact hv j (by omega)
        have HV := Lib.hid hv'
        have HT := Lib.hid htake
        clear hret hexit htake hp hv hv' hpk
        go_wp2_with (first
          | (go_at_call 29; refine (hO _).mono ?_; rintro e w1 ⟨rfl, hb⟩; have hL1 := hL.below hb; have hc1 := hL1.cell p.size (by omega); obtain ⟨D, hown, hDc0, h3, h4⟩ := hL1.set p.size (by omega); have hDc : Maps.size D ≤ k := hDc0; clear hDc0; have H3 := Lib.hid h3; have H4 := Lib.hid h4; clear h3 h4 hb hL)
          | (at_mapUpdate; refine wpList_mapUpdate_own _ rfl _ _ _ 44 rfl 9 4 law9 Try.underlying44 _ (L + 1 + p.size) (Maps.size D) _ rfl hown (by unfold maxLen; omega) _ _ _ rfl rfl (keyOf_string_mk Try.underlying9 (by unfold maxLen; omega)) _ [] (plainElem_bool Try.underlying4 true) ?_; intro w2 hown2 hgrow2))
        have hS := SetAt.put hown hDc H3.out H4.out hown2
        have hL2 : Lev w L 15 (fun _ => k + 1) (S0 (bytes (l.take (k + 1)))) w2 := by
          have hb' : bytes (l.take (k + 1)) = bytes (l.take k) ++ [p.data.toList] := by rw [HT.out]; simp [bytes]
          have hpl : p.data.toList.length = p.size := by simp
          rw [hb']
          refine (hL1.turn (c' := fun j => if j = p.size then k + 1 else k) (S' := S0 (bytes (l.take k) ++ [p.data.toList])) hgrow2 (fun _ => ?_) (fun j e => by simp [e]) (fun j e => ?_)).turn' (fun j _ => by show (if j = p.size then k + 1 else k) ≤ k + 1; split <;> omega) (fun _ _ => rfl)
          · have e1 : S0 (bytes (l.take k) ++ [p.data.toList]) p.size = fun x => S0 (bytes (l.take k)) p.size x || x == p.data.toList := by
              funext x; rw [← hpl]; exact S0_snoc _ _ _
            rw [e1]
            simpa using hS
          · exact S0_snoc_ne _ _ _ (by rw [hpl]; exact e)
        clear hS hgrow2 hown2 hown H3 H4 hL1 hc1 hcell
        go_roundw
        case rel => exact ⟨k + 1, by omega, by go_num, HV.out, hL2⟩
        case measure => simp [intOf]; omega
      · have hp' : onlyB p 0 14 = false := by simpa using hp
        rw [hp'] at hO
        have HR := Lib.hid hret
        clear hret hexit htake hp hv hpk
        go_wp2_with (go_at_call 29; refine (hO _).mono ?_; rintro e w1 ⟨rfl, hb⟩)
        exact HR.out c0 c0 _ _ _ _ _ _ _ _ _ _ _ _ _ _ _ ⟨⟨p, hmem, hp'⟩, (hL.below hb).low⟩
    · obtain rfl : k = l.length := by omega
      have hpost : (∀ p ∈ l, onlyB p 0 14 = true) ∧ Lev w L 15 (fun _ => l.length) (S0 (bytes l)) wr := by
        refine ⟨fun p hp => ?_, ?_⟩
        · obtain ⟨j, hj, rfl⟩ := List.mem_iff_getElem.1 hp
          simpa [hj] using hv j hj
        · rw [List.take_length] at hL; exact hL
      have H := Lib.hid hpost
      clear hpost hL hv hr0 hM hret
      go_wp2
      exact H.out
end Go.Proofs.Ytajddminbfiipaa.Ext
