/- What digits.Common answers: the length of the longest common prefix. -/
import Derived.Test.YtajddminbfiipaaERef2
import Derived.WalkLawsBesides
import Derived.Deep.QuietTactic
import Derived.BigQuiet
import Derived.Test.YtajddminbfiipaaWMore
namespace Go.Proofs.Ytajddminbfiipaa.Ext
open Go.RowKit Go.Lib Go.Proofs.YtajddminbfiipaaW.PrintMore Go.Proofs.YtajddminbfiipaaW.PrintWords
attribute [local go_sem] max2_int min2_int max_two min_two

/-- The length of the longest common prefix. -/
def com : Bytes → Bytes → Nat
  | x :: a, y :: b => if x = y then com a b + 1 else 0
  | _, _ => 0

theorem com_add : ∀ (k : Nat) (a b : Bytes), k ≤ a.length → k ≤ b.length → a.take k = b.take k → com a b = k + com (a.drop k) (b.drop k)
  | 0, a, b, _, _, _ => by simp
  | k + 1, [], _, h, _, _ => by simp at h
  | k + 1, _ :: _, [], _, h, _ => by simp at h
  | k + 1, x :: a, y :: b, h1, h2, h => by
    simp only [List.take_succ_cons, List.cons.injEq] at h
    simp only [com, h.1, if_true, List.drop_succ_cons]
    rw [com_add k a b (by simpa using h1) (by simpa using h2) h.2]
    omega

/-- a and b begin with the same k bytes. -/
def SameTo (a b : ByteArray) (k : Nat) : Prop := k ≤ a.size ∧ k ≤ b.size ∧ a.data.toList.take k = b.data.toList.take k
theorem same_zero (a b : ByteArray) : SameTo a b 0 := ⟨Nat.zero_le _, Nat.zero_le _, by simp⟩
theorem get_list {a : ByteArray} {k : Nat} (h : k < a.size) : a.data.toList[k]'(by simpa using h) = a[k] := by simp [ByteArray.getElem_eq_getElem_data]
theorem same_succ {a b : ByteArray} {k : Nat} (h : SameTo a b k) (ha : k < a.size) (hb : k < b.size) (he : a[k] = b[k]) : SameTo a b (k + 1) := by
  refine ⟨ha, hb, ?_⟩
  rw [List.take_succ_eq_append_getElem (by simpa using ha), List.take_succ_eq_append_getElem (by simpa using hb), h.2.2, get_list ha, get_list hb, he]
theorem com_stop {a b : ByteArray} {k : Nat} (h : SameTo a b k) (ha : k < a.size) (hb : k < b.size) (he : ¬ a[k] = b[k]) : com a.data.toList b.data.toList = k := by
  rw [com_add k _ _ (by simpa using h.1) (by simpa using h.2.1) h.2.2]
  rw [List.drop_eq_getElem_cons (l := a.data.toList) (by simpa using ha), List.drop_eq_getElem_cons (l := b.data.toList) (by simpa using hb), get_list ha, get_list hb]
  simp only [com, he, if_false]; rfl
theorem com_end {a b : ByteArray} {k : Nat} (h : SameTo a b k) (_ha : k ≤ a.size) (_hb : k ≤ b.size) (he : k = a.size ∨ k = b.size) : com a.data.toList b.data.toList = k := by
  rw [com_add k _ _ (by simpa using h.1) (by simpa using h.2.1) h.2.2]
  have hz : com (a.data.toList.drop k) (b.data.toList.drop k) = 0 := by
    rcases he with e | e
    · rw [List.drop_of_length_le (by rw [e]; simp)]; simp [com]
    · rw [List.drop_of_length_le (l := b.data.toList) (by rw [e]; simp)]
      cases a.data.toList.drop k <;> simp [com]
  omega

set_option maxHeartbeats 1000000 in
theorem com_calls (a b : ByteArray) (w : World) (ha : a.size ≤ 140737488351232) (hb : b.size ≤ 140737488351232) :
    Calls Try.prog 24 #[.string a, .string b] w fun e w' => e = .returned (.int .i64 (com a.data.toList b.data.toList : Nat)) ∧ Below w.heap.size w w' := by
  by_cases hm : (b.size : Int) < (a.size : Int)
  · go_enter Try.func24, Try.ntmps24
    go_wp2
    go_loopw [11] (fun i wr => ∃ k : Nat, k ≤ b.size ∧ i = .int .i64 k ∧ SameTo a b k ∧ Below w.heap.size w wr) (fun i _ => b.size - (intOf i).toNat)
    case atStart => exact ⟨0, Nat.zero_le _, rfl, same_zero a b, Below.refl _ _⟩
    case round =>
      obtain ⟨k, hk, rfl, hd, hbw⟩ := hrel
      by_cases hlt : k < b.size
      · have hka : k < a.size := by omega
        have hkb : k < b.size := by omega
        have hka' : (k : Int) < (a.size : Int) := by omega
        have hkb' : (k : Int) < (b.size : Int) := by omega
        have hk0 : (0 : Int) ≤ (k : Int) := by omega
        by_cases he : a[k] = b[k]
        · have hS := same_succ hd hka hkb he
          have he1 : (((a[k]).toNat : Int) == ((b[k]).toNat : Int)) = true := by rw [he]; simp
          have he2 : (((a[k]).toNat : Int) != ((b[k]).toNat : Int)) = false := by rw [he]; simp
          clear hd he
          go_wp2
          go_quiet (fail)
          go_wp2
          go_roundw
          case rel => exact ⟨k + 1, by omega, by go_num, hS, pw_below_drewN hbw _⟩
          case measure => simp [intOf]; omega
        · have hS := com_stop hd hka hkb he
          have hne : (a[k]).toNat ≠ (b[k]).toNat := fun e => he (UInt8.toNat_inj.1 e)
          have he1 : (((a[k]).toNat : Int) == ((b[k]).toNat : Int)) = false := by rw [beq_eq_false_iff_ne]; omega
          have he2 : (((a[k]).toNat : Int) != ((b[k]).toNat : Int)) = true := by rw [bne_iff_ne]; omega
          have HS := Lib.hid hS
          clear hS hd he hne
          go_wp2
          go_quiet (fail)
          go_wp2
          go_ret
          exact ⟨by rw [HS.out]; rfl, pw_below_drewN hbw _⟩
      · obtain rfl : k = b.size := by omega
        have hS : com a.data.toList b.data.toList = b.size := com_end hd (by omega) (by omega) (by omega)
        have HS := Lib.hid hS
        clear hS hd
        go_wp2
        go_ret
        exact ⟨by rw [HS.out]; rfl, hbw⟩
  · go_enter Try.func24, Try.ntmps24
    go_wp2
    go_loopw [11] (fun i wr => ∃ k : Nat, k ≤ a.size ∧ i = .int .i64 k ∧ SameTo a b k ∧ Below w.heap.size w wr) (fun i _ => a.size - (intOf i).toNat)
    case atStart => exact ⟨0, Nat.zero_le _, rfl, same_zero a b, Below.refl _ _⟩
    case round =>
      obtain ⟨k, hk, rfl, hd, hbw⟩ := hrel
      by_cases hlt : k < a.size
      · have hka : k < a.size := by omega
        have hkb : k < b.size := by omega
        have hka' : (k : Int) < (a.size : Int) := by omega
        have hkb' : (k : Int) < (b.size : Int) := by omega
        have hk0 : (0 : Int) ≤ (k : Int) := by omega
        by_cases he : a[k] = b[k]
        · have hS := same_succ hd hka hkb he
          have he1 : (((a[k]).toNat : Int) == ((b[k]).toNat : Int)) = true := by rw [he]; simp
          have he2 : (((a[k]).toNat : Int) != ((b[k]).toNat : Int)) = false := by rw [he]; simp
          clear hd he
          go_wp2
          go_quiet (fail)
          go_wp2
          go_roundw
          case rel => exact ⟨k + 1, by omega, by go_num, hS, pw_below_drewN hbw _⟩
          case measure => simp [intOf]; omega
        · have hS := com_stop hd hka hkb he
          have hne : (a[k]).toNat ≠ (b[k]).toNat := fun e => he (UInt8.toNat_inj.1 e)
          have he1 : (((a[k]).toNat : Int) == ((b[k]).toNat : Int)) = false := by rw [beq_eq_false_iff_ne]; omega
          have he2 : (((a[k]).toNat : Int) != ((b[k]).toNat : Int)) = true := by rw [bne_iff_ne]; omega
          have HS := Lib.hid hS
          clear hS hd he hne
          go_wp2
          go_quiet (fail)
          go_wp2
          go_ret
          exact ⟨by rw [HS.out]; rfl, pw_below_drewN hbw _⟩
      · obtain rfl : k = a.size := by omega
        have hS : com a.data.toList b.data.toList = a.size := com_end hd (by omega) (by omega) (by omega)
        have HS := Lib.hid hS
        clear hS hd
        go_wp2
        go_ret
        exact ⟨by rw [HS.out]; rfl, hbw⟩
end Go.Proofs.Ytajddminbfiipaa.Ext
