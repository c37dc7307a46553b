/- Bit i of Bits: is group from + i not free? -/
import Derived.Test.YtallanlajecmhaaGuardPlain
namespace Go.Proofs.Ytallanlajecmhaa
open Go.RowKit
set_option linter.unusedVariables false
set_option linter.unusedSimpArgs false

theorem testBit_bitIn (F o : Nat) (x : Ev) (i : Nat) : (bitIn (F : Int) o x).testBit i = (o.testBit i || (decide (i < 32) && decide (x.1.1 = F + i))) := by
  unfold bitIn
  split
  · rename_i h
    obtain ⟨d, hd⟩ := Int.eq_ofNat_of_zero_le (show 0 ≤ (x.1.1 : Int) - F by omega)
    rw [hd, Int.toNat_natCast, Nat.testBit_or, Nat.testBit_two_pow]
    have h1 : d < 32 := by omega
    have h2 : x.1.1 = F + d := by omega
    rw [h2]
    by_cases hi : d = i
    · subst hi; simp [h1]
    · have : ¬ (F + d = F + i) := by omega
      simp [hi]
  · rename_i h
    have : ¬ (i < 32 ∧ x.1.1 = F + i) := by omega
    by_cases h1 : i < 32
    · have h2 : ¬ x.1.1 = F + i := fun e => this ⟨h1, e⟩
      simp [h2]
    · simp [h1]
theorem testBit_evs (F : Nat) (f : Nat → Nat) (i : Nat) : ∀ k, k ≤ 256 → (∀ j, j < k → f j < 4) → (bitsIn (F : Int) (evs f k)).testBit i = (decide (i < 32) && (decide (F + i < k) && decide (f (F + i) ≠ 0)))
  | 0, _, _ => by simp [bitsIn, evs]
  | k + 1, hk, hf => by
    have ih := testBit_evs F f i k (by omega) (fun j hj => hf j (by omega))
    by_cases hz : f k = 0
    · rw [evs_no f k hz, ih]
      by_cases h1 : F + i = k
      · rw [h1]; simp [hz]
      · have : (F + i < k + 1) = (F + i < k) := by simp; omega
        simp only [this]
    · rw [evs_yes f k hz ⟨by omega, hf k (by omega)⟩, bitsIn_snoc, testBit_bitIn, ih]
      simp only
      by_cases h1 : F + i = k
      · rw [h1]; by_cases h2 : i < 32 <;> simp [h2, hz]
      · have h3 : ¬ k = F + i := fun e => h1 e.symm
        have : (F + i < k + 1) = (F + i < k) := by simp; omega
        simp only [this, h3, decide_false, Bool.and_false, Bool.or_false]
theorem bitsK_neg (fr : Int) (ks : List Nat) (h : fr < 0) : bitsK fr ks = 0 := by
  unfold bitsK bitsIn
  suffices ∀ (l : List Ev) o, l.foldl (bitIn fr) o = o by exact this _ _
  intro l
  induction l with
  | nil => intro o; rfl
  | cons x l ih =>
    intro o
    rw [List.foldl_cons, ih]
    unfold bitIn
    rw [if_neg (by omega)]
theorem testBit_bitsK {n : Nat} {ks : List Nat} (h : Kinds n ks) (hn : n ≤ 256) (F i : Nat) : (bitsK (F : Int) ks).testBit i = (decide (i < 32) && (decide (F + i < ks.length) && decide (ks.getD (F + i) 0 ≠ 0))) :=
  testBit_evs F _ i _ (by rw [h.1]; exact hn) (fun j _ => getD_lt ks h.2 j)
theorem bit_at {n : Nat} {ks : List Nat} (h : Kinds n ks) (hn : n ≤ 256) (a : Int) : bits .and .u32 (bitsK a ks : Nat) 1 = if inR ks a ∧ ks.getD a.toNat 0 ≠ 0 then 1 else 0 := by
  have e := u32_and_nat (bitsK a ks) 1 (bitsK_lt _ _) (by omega)
  rw [show ((1 : Nat) : Int) = 1 from rfl] at e
  rw [e, Nat.and_one_is_mod]
  by_cases h0 : a < 0
  · rw [bitsK_neg a ks h0, if_neg (fun e => by have := e.1.1; omega)]; rfl
  · obtain ⟨F, rfl⟩ := Int.eq_ofNat_of_zero_le (show 0 ≤ a by omega)
    have t := testBit_bitsK h hn F 0
    rw [Nat.testBit_zero] at t
    simp only [Nat.add_zero, Int.toNat_natCast] at t ⊢
    by_cases hc : inR ks (F : Int) ∧ ks.getD F 0 ≠ 0
    · rw [if_pos hc]
      have h1 : F < ks.length := by have := hc.1.2; omega
      have h2 := hc.2
      have h7 : (decide (0 < 32) && (decide (F < ks.length) && decide (ks.getD F 0 ≠ 0))) = true := by simp only [Bool.and_eq_true, decide_eq_true_eq]; exact ⟨by omega, h1, h2⟩
      rw [← t] at h7
      have h5 : bitsK (F : Int) ks % 2 = 1 := by simpa using h7
      rw [h5]; rfl
    · rw [if_neg hc]
      have h5 : ¬ bitsK (F : Int) ks % 2 = 1 := by
        intro hb
        have h7 : (decide (0 < 32) && (decide (F < ks.length) && decide (ks.getD F 0 ≠ 0))) = true := by rw [← t]; simp [hb]
        simp only [Bool.and_eq_true, decide_eq_true_eq] at h7
        exact hc ⟨⟨by omega, by omega⟩, h7.2.2⟩
      have : bitsK (F : Int) ks % 2 = 0 := by omega
      rw [this]; rfl
def kindK (ks : List Nat) (g : Int) : Nat := if inR ks g then ks.getD g.toNat 0 else 0
end Go.Proofs.Ytallanlajecmhaa
