/- What digits.full answers, and the two checks that digits.Shorten makes first: for every three strings. -/
import Derived.Test.YtajddminbfiipaaShelf
import Derived.Test.YtajddminbfiipaaEOnly
import Derived.Test.YtajddminbfiipaaEMatch
import Derived.WalkKit
namespace Go.Proofs.Ytajddminbfiipaa.Ext
open Go.Shelf Go.RowKit Go.Lib

/-- s without its prefix p (s itself where p is none). -/
def cutP (s p : ByteArray) : ByteArray := ⟨(Lib.trimPrefix s.data.toList p.data.toList).toArray⟩
def z1 : ByteArray := ⟨#[48]⟩
def z2 : ByteArray := ⟨#[48, 48]⟩
def fullB (d c a : ByteArray) : ByteArray := if hasP d z2 = true then cutP d z2 else if hasP d z1 = true then c ++ cutP d z1 else (c ++ a) ++ d

theorem cutP_size (s p : ByteArray) : (cutP s p).size ≤ s.size := by
  unfold cutP Lib.trimPrefix
  simp only [ByteArray.size, List.size_toArray]
  split <;> simp

theorem cut_calls (s p : ByteArray) (w : World) : Calls Try.prog 46 #[.string s, .string p] w fun e w' => e = .returned (.tuple #[.string (cutP s p), .bool (hasP s p)]) ∧ w' = w := Any.strings_CutPrefix Try.l103 s p w

set_option maxHeartbeats 1000000 in
theorem full_calls (d c a : ByteArray) (w : World) (hd : c.size + a.size + d.size ≤ 9223372036854775807) :
    Calls Try.prog 31 #[.string d, .string c, .string a] w fun e w' => e = .returned (.string (fullB d c a)) ∧ w' = w := by
  have hc2 := cut_calls d z2 w
  have hc1 := cut_calls d z1 w
  have hs1 := cutP_size d z1
  unfold fullB
  generalize hx : hasP d z2 = x at hc2 ⊢
  generalize hy : hasP d z1 = y at hc1 ⊢
  generalize cutP d z2 = u at hc2 ⊢
  generalize cutP d z1 = v at hc1 hs1 ⊢
  clear hx hy
  unfold z1 at hc1
  unfold z2 at hc2
  have HC1 := Lib.hid hc1
  have HC2 := Lib.hid hc2
  clear hc1 hc2
  cases x
  · cases y
    · go_enter Try.func31, Try.ntmps31
      go_wp2_with fail
      refine HC2.out.mono ?_
      rintro e w' ⟨rfl, rfl⟩
      go_wp2_with fail
      refine HC1.out.mono ?_
      rintro e w' ⟨rfl, rfl⟩
      go_wp2
      go_ret
      exact ⟨rfl, rfl⟩
    · go_enter Try.func31, Try.ntmps31
      go_wp2_with fail
      refine HC2.out.mono ?_
      rintro e w' ⟨rfl, rfl⟩
      go_wp2_with fail
      refine HC1.out.mono ?_
      rintro e w' ⟨rfl, rfl⟩
      go_wp2
      go_ret
      exact ⟨rfl, rfl⟩
  · go_enter Try.func31, Try.ntmps31
    go_wp2_with fail
    refine HC2.out.mono ?_
    rintro e w' ⟨rfl, rfl⟩
    go_wp2
    go_ret
    exact ⟨rfl, rfl⟩

theorem valid_calls (s : ByteArray) (w : World) : Calls Try.prog 18 #[.string s] w fun e w' => e = .returned (.bool (onlyB s 1 15)) ∧ Below w.heap.size w w' := by
  have hC := fun W => digits_only.calls s 1 15 (onlyB s 1 15) W rfl
  generalize onlyB s 1 15 = b at hC ⊢
  go_enter Try.func18, Try.ntmps18
  go_wp2_with (go_at_call 29; refine (hC _).mono ?_; rintro e w' ⟨rfl, hb⟩)
  go_ret
  exact ⟨rfl, hb⟩

theorem home_calls (c a : ByteArray) (w : World) : Calls Try.prog 30 #[.string c, .string a] w fun e w' => e = .returned (.bool (onlyB c 1 15 && onlyB a 0 15)) ∧ Below w.heap.size w w' := by
  have hV := fun W => valid_calls c W
  have hC := fun W => digits_only.calls a 0 15 (onlyB a 0 15) W rfl
  generalize onlyB a 0 15 = b at hC ⊢
  generalize onlyB c 1 15 = v at hV ⊢
  cases v
  · go_enter Try.func30, Try.ntmps30
    go_wp2_with (go_at_call 18; refine (hV _).mono ?_; rintro e w' ⟨rfl, hb⟩)
    go_ret
    exact ⟨rfl, hb⟩
  · go_enter Try.func30, Try.ntmps30
    go_wp2_with (first | (go_at_call 18; refine (hV _).mono ?_; rintro e w' ⟨rfl, hb⟩) | (go_at_call 29; refine (hC _).mono ?_; rintro e w2 ⟨rfl, hb2⟩))
    go_ret
    exact ⟨by simp, hb.trans (hb2.mono hb.size)⟩
end Go.Proofs.Ytajddminbfiipaa.Ext
