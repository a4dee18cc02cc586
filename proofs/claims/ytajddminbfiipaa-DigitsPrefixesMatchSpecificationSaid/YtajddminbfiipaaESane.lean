/- The chapter's examples hold: sane answers true. -/
import Derived.Test.YtajddminbfiipaaQx2
import Derived.KernelRfl
namespace Go.Proofs.Ytajddminbfiipaa.Pure
set_option linter.unusedVariables false
set_option linter.unusedSimpArgs false
open Go.RowKit Go.Proofs.Ytajddminbfiipaa.Q Go.Proofs.Ytajddminbfiipaa.Ext Go.Proofs.YtajddminbfiipaaW.PrintWords Go.Proofs.YtajddminbfiipaaW.PrintLast

theorem n1 : normB ⟨#[49, 50, 51, 52]⟩ ⟨#[52, 57]⟩ ⟨#[51, 48]⟩ = (⟨#[52, 57, 51, 48, 49, 50, 51, 52]⟩, 0) := by kernel_rfl
theorem n2 : normB ⟨#[48, 56, 57, 49, 50, 51, 52]⟩ ⟨#[52, 57]⟩ ⟨#[51, 48]⟩ = (⟨#[52, 57, 56, 57, 49, 50, 51, 52]⟩, 0) := by kernel_rfl
theorem n3 : normB ⟨#[48, 48, 51, 51, 49]⟩ ⟨#[52, 57]⟩ ⟨#[51, 48]⟩ = (⟨#[51, 51, 49]⟩, 0) := by kernel_rfl
theorem n4 : normB ⟨#[48, 48]⟩ ⟨#[52, 57]⟩ ⟨#[51, 48]⟩ = (⟨#[]⟩, 60) := by kernel_rfl
theorem s1 : shortenB ⟨#[52, 57, 51, 48, 49, 50, 51, 52]⟩ ⟨#[52, 57]⟩ ⟨#[51, 48]⟩ = (⟨#[49, 50, 51, 52]⟩, 0) := by kernel_rfl
theorem s2 : shortenB ⟨#[52, 57, 51, 48, 48, 49, 50, 51]⟩ ⟨#[52, 57]⟩ ⟨#[51, 48]⟩ = (⟨#[48, 51, 48, 48, 49, 50, 51]⟩, 0) := by kernel_rfl
theorem s3 : shortenB ⟨#[51, 51, 49]⟩ ⟨#[52, 57]⟩ ⟨#[51, 48]⟩ = (⟨#[48, 48, 51, 51, 49]⟩, 0) := by kernel_rfl
theorem m1 : minimalB [⟨#[49, 50]⟩, ⟨#[49, 50, 51]⟩, ⟨#[49]⟩] = ([⟨#[49]⟩], 0) := by kernel_rfl
theorem m2 : minimalB [⟨#[53, 48]⟩, ⟨#[53, 49]⟩, ⟨#[53, 50]⟩, ⟨#[53, 51]⟩, ⟨#[53, 52]⟩, ⟨#[53, 53]⟩, ⟨#[53, 54]⟩, ⟨#[53, 55]⟩, ⟨#[55]⟩, ⟨#[53, 56]⟩, ⟨#[53, 57]⟩] = ([⟨#[53]⟩, ⟨#[55]⟩], 0) := by kernel_rfl

theorem wrap_succ {i n : Nat} (h : i < n) (hn : n ≤ 9223372036854775807) : wrap64 ((i : Int) + 1) = ((i + 1 : Nat) : Int) := by
  unfold wrap64; omega

theorem rd_nat {α : Type} (d : α) (xs : List α) (i : Nat) : rdOf d xs (i : Int) = xs.getD i d := by simp [rdOf]

theorem strings_l0 (a b : List ByteArray) (hl : a.length = b.length) (hn : a.length ≤ 9223372036854775807) (d : Nat) : ∀ (k i : Nat), a.length - i = d → i ≤ a.length → d < k →
    crossbarref06_Strings.l0 k a b (i : Int) = some (decide (a.drop i = b.drop i)) := by
  induction d with
  | zero =>
    intro k i hd hi hk
    obtain ⟨k, rfl⟩ : ∃ m, k = m + 1 := ⟨k - 1, by omega⟩
    obtain rfl : i = a.length := by omega
    simp only [crossbarref06_Strings.l0]
    rw [if_neg (by omega)]
    rw [List.drop_of_length_le (Nat.le_refl _), List.drop_of_length_le (by omega)]
    simp
  | succ d ih =>
    intro k i hd hi hk
    obtain ⟨k, rfl⟩ : ∃ m, k = m + 1 := ⟨k - 1, by omega⟩
    have ha : i < a.length := by omega
    have hb : i < b.length := by omega
    simp only [crossbarref06_Strings.l0]
    rw [if_pos (by omega), if_pos (by omega), if_pos (by omega), rd_nat, rd_nat, wrap_succ ha hn]
    rw [List.drop_eq_getElem_cons (l := a) ha, List.drop_eq_getElem_cons (l := b) hb]
    have ea : a.getD i ByteArray.empty = a[i] := by simp [List.getD_eq_getElem?_getD, ha]
    have eb : b.getD i ByteArray.empty = b[i] := by simp [List.getD_eq_getElem?_getD, hb]
    rw [ea, eb, toList_eq, toList_eq]
    by_cases e : a[i] = b[i]
    · rw [if_pos (by rw [e]), ih k (i + 1) (by omega) (by omega) (by omega)]
      refine congrArg some ?_
      rw [decide_eq_decide, List.cons.injEq]
      exact ⟨fun h => ⟨e, h⟩, fun h => h.2⟩
    · rw [if_neg (fun h => e (ba_eq.2 h))]
      refine congrArg some ?_
      symm
      rw [decide_eq_false_iff_not, List.cons.injEq]
      exact fun h => e h.1

theorem strings_eq (a b : List ByteArray) (hn : a.length ≤ 9223372036854775807) (k : Nat) (hk : a.length < k) : crossbarref06_Strings.f k a b = some (decide (a = b)) := by
  unfold crossbarref06_Strings.f
  by_cases hl : a.length = b.length
  · rw [if_pos (by omega)]
    have := strings_l0 a b hl hn a.length k 0 (by omega) (by omega) hk
    simpa using this
  · rw [if_neg (by omega)]
    have : a ≠ b := fun h => hl (by rw [h])
    simp [this]

theorem sane_true (k : Nat) (hk : 10 ≤ k) : crossbarlaw06_sane.f k = some true := by
  obtain ⟨k, rfl⟩ : ∃ m, k = m + 3 := ⟨k - 3, by omega⟩
  have e1 := strings_eq [⟨#[49]⟩] [⟨#[49]⟩] (by simp) (k + 1) (by simp; omega)
  have e2 := strings_eq [⟨#[53]⟩, ⟨#[55]⟩] [⟨#[53]⟩, ⟨#[55]⟩] (by simp) (k + 1) (by simp; omega)
  simp only [decide_true] at e1 e2
  have v1 : onlyB ⟨#[55]⟩ 1 15 = true := by kernel_rfl
  have v2 : onlyB ⟨#[]⟩ 1 15 = false := by kernel_rfl
  have v3 : onlyB ⟨#[55, 120]⟩ 1 15 = false := by kernel_rfl
  have c1 : digits_Common.f ⟨#[49, 50, 51, 52]⟩ ⟨#[49, 50, 56, 57]⟩ = some 2 := by kernel_rfl
  have p1 : matchesB [⟨#[49, 50]⟩] ⟨#[49, 50, 51]⟩ = true := by kernel_rfl
  have p2 : matchesB [⟨#[49, 50]⟩] ⟨#[49]⟩ = false := by kernel_rfl
  simp only [crossbarlaw06_sane.f, digits_Normalize.f, digits_Shorten.f, digits_Minimal.f, n1, n2, n3, n4, s1, s2, s3, m1, m2, Option.bind_some, if_true]
  simp only [crossbarlaw06_sane.j0, toList_eq, if_true]
  simp only [crossbarlaw06_sane.j1, e1, e2, Option.bind_some, if_true]
  simp only [crossbarlaw06_sane.j2, digits_Valid.f, digits_Matches.f, v1, v2, v3, c1, p1, p2, Option.bind_some, if_true]
  rfl

theorem short_any (a b c : ByteArray) : crossbarlaw06_short.f a b c = some (decide (a.size ≤ 200) && (decide (b.size ≤ 200) && decide (c.size ≤ 200))) := by
  unfold crossbarlaw06_short.f
  by_cases h1 : a.size ≤ 200
  · rw [if_pos (by omega)]
    by_cases h2 : b.size ≤ 200
    · rw [if_pos (by omega)]
      have : decide ((c.size : Int) ≤ 200) = decide (c.size ≤ 200) := by rw [Bool.eq_iff_iff, decide_eq_true_eq, decide_eq_true_eq]; omega
      rw [this]; simp [h1, h2]
    · rw [if_neg (by omega)]; simp [h2]
  · rw [if_neg (by omega)]; simp [h1]
end Go.Proofs.Ytajddminbfiipaa.Pure
