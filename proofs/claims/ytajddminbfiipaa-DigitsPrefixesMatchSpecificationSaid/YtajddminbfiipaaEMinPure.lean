/- Plain laws about sets of strings of digits: when ten extensions are there. -/
import Derived.Test.YtajddminbfiipaaEMinC2
namespace Go.Proofs.Ytajddminbfiipaa.Ext
set_option linter.unusedVariables false
set_option linter.unusedSimpArgs false

/-- The ten extensions of q by a digit are in S. -/
def tenB (S : Bytes → Bool) (q : Bytes) : Bool := (List.range 10).all fun d => S (q ++ [UInt8.ofNat (48 + d)])

theorem mem_of_full {α : Type} [DecidableEq α] : ∀ (F M : List α), F.Nodup → (∀ x ∈ F, x ∈ M) → M.length ≤ F.length → ∀ x ∈ M, x ∈ F
  | [], M, _, _, hl, x, hx => by
    have : M = [] := List.eq_nil_of_length_eq_zero (by simpa using hl)
    subst this; simp at hx
  | a :: F, M, hn, hs, hl, x, hx => by
    by_cases e : x = a
    · subst e; simp
    · have ha : a ∈ M := hs a (by simp)
      have hn' := List.nodup_cons.1 hn
      have := mem_of_full F (M.erase a) hn'.2 (fun y hy => (List.mem_erase_of_ne (fun e' => hn'.1 (by rw [← e']; exact hy))).2 (hs y (by simp [hy]))) (by
        rw [List.length_erase_of_mem ha]; simp at hl; omega) x ((List.mem_erase_of_ne e).2 hx)
      simp [this]

theorem len_le {α : Type} [DecidableEq α] : ∀ (F M : List α), F.Nodup → (∀ x ∈ F, x ∈ M) → F.length ≤ M.length
  | [], _, _, _ => by simp
  | a :: F, M, hn, hs => by
    have ha : a ∈ M := hs a (by simp)
    have hn' := List.nodup_cons.1 hn
    have := len_le F (M.erase a) hn'.2 (fun y hy => (List.mem_erase_of_ne (fun e' => hn'.1 (by rw [← e']; exact hy))).2 (hs y (by simp [hy])))
    rw [List.length_erase_of_mem ha] at this
    have : 0 < M.length := List.length_pos_of_mem ha
    simp; omega

def exts (q : Bytes) : List Bytes := (List.range 10).map fun d => q ++ [UInt8.ofNat (48 + d)]
theorem exts_length (q : Bytes) : (exts q).length = 10 := by simp [exts]
theorem exts_nodup (q : Bytes) : (exts q).Nodup := by
  unfold exts
  rw [List.nodup_iff_pairwise_ne, List.pairwise_map]
  have h : (List.range 10).Pairwise (fun a b => UInt8.ofNat (48 + a) ≠ UInt8.ofNat (48 + b)) := by decide
  exact h.imp (fun hne e => hne (by simpa using e))
theorem mem_exts {q x : Bytes} : x ∈ exts q ↔ ∃ d, d < 10 ∧ x = q ++ [UInt8.ofNat (48 + d)] := by
  simp [exts, eq_comm]

theorem digit_of {c : UInt8} (h : isDig c = true) : ∃ d, d < 10 ∧ c = UInt8.ofNat (48 + d) := by
  simp only [isDig, Bool.and_eq_true, decide_eq_true_eq] at h
  refine ⟨c.toNat - 48, by omega, ?_⟩
  rw [show 48 + (c.toNat - 48) = c.toNat from by omega]
  simp
theorem digit_is {d : Nat} (h : d < 10) : isDig (UInt8.ofNat (48 + d)) = true := by
  simp only [isDig, Bool.and_eq_true, decide_eq_true_eq, UInt8.toNat_ofNat']
  omega

/-- A level: strings of n digits. -/
def Good (n : Nat) (S : Bytes → Bool) : Prop := ∀ x, S x = true → x.length = n ∧ ∀ c ∈ x, isDig c = true

theorem tenB_iff {S : Bytes → Bool} {q : Bytes} : tenB S q = true ↔ ∀ d, d < 10 → S (q ++ [UInt8.ofNat (48 + d)]) = true := by
  simp [tenB]

theorem cnt_ten {n : Nat} {S : Bytes → Bool} {ss : List Bytes} (hn : 1 ≤ n) (hnd : ss.Nodup) (hm : ∀ x, x ∈ ss ↔ S x = true) (hG : Good n S) (q : Bytes) : (cntP n ss q == 10) = tenB S q := by
  have hF : (ss.filter fun p => p.take (n - 1) == q).Nodup := hnd.filter _
  have hsub : ∀ x ∈ ss.filter (fun p => p.take (n - 1) == q), x ∈ exts q := by
    intro x hx
    rw [List.mem_filter] at hx
    obtain ⟨hl, hd⟩ := hG x ((hm x).1 hx.1)
    have ht : x.take (n - 1) = q := eq_of_beq hx.2
    have hx1 : x = x.take (n - 1) ++ x.drop (n - 1) := (List.take_append_drop _ _).symm
    have hdl : (x.drop (n - 1)).length = 1 := by simp; omega
    obtain ⟨c, hc⟩ := List.length_eq_one_iff.1 hdl
    have hcx : c ∈ x := List.mem_of_mem_drop (by rw [hc]; simp)
    obtain ⟨d, hd1, hd2⟩ := digit_of (hd c hcx)
    exact mem_exts.2 ⟨d, hd1, by rw [hx1, ht, hc, hd2]⟩
  have hcnt : cntP n ss q ≤ 10 := by
    have := len_le _ _ hF hsub
    rw [exts_length] at this
    exact this
  rw [Bool.eq_iff_iff, beq_iff_eq, tenB_iff]
  constructor
  · intro h d hd
    have := mem_of_full _ _ hF hsub (by rw [exts_length]; exact Nat.le_of_eq h.symm) _ (mem_exts.2 ⟨d, hd, rfl⟩)
    exact (hm _).1 (List.mem_filter.1 this).1
  · intro h
    have hq : q.length = n - 1 := by
      have := (hG _ (h 0 (by omega))).1
      simp at this; omega
    have h10 : (exts q).length ≤ cntP n ss q := by
      refine len_le _ _ (exts_nodup q) ?_
      intro x hx
      obtain ⟨d, hd, rfl⟩ := mem_exts.1 hx
      rw [List.mem_filter]
      refine ⟨(hm _).2 (h d hd), ?_⟩
      rw [← hq]; simp
    rw [exts_length] at h10
    omega

/-- The levels once the ten extensions of a string have been laid one level up: k levels below the lowest. -/
def Tt (l : List Bytes) : Nat → Bytes → Bool
  | 0 => S0 l 14
  | k + 1 => fun x => S0 l (13 - k) x || tenB (Tt l k) x

def AllDig (l : List Bytes) : Prop := ∀ x ∈ l, ∀ c ∈ x, isDig c = true

theorem S0_good {l : List Bytes} (h : AllDig l) (n : Nat) : Good n (S0 l n) := by
  intro x hx
  simp only [S0, Bool.and_eq_true, beq_iff_eq] at hx
  exact ⟨hx.2, h x (by simpa using hx.1)⟩

theorem Tt_good {l : List Bytes} (h : AllDig l) : ∀ k, k ≤ 14 → Good (14 - k) (Tt l k)
  | 0, _ => S0_good h 14
  | k + 1, hk => by
    intro x hx
    simp only [Tt, Bool.or_eq_true] at hx
    rcases hx with hx | hx
    · have := S0_good h _ x hx
      rw [show 14 - (k + 1) = 13 - k from by omega]
      exact this
    · rw [tenB_iff] at hx
      obtain ⟨h1, h2⟩ := Tt_good h k (by omega) _ (hx 0 (by omega))
      simp at h1
      exact ⟨by omega, fun c hc => h2 c (by simp [hc])⟩
end Go.Proofs.Ytajddminbfiipaa.Ext
