/- What was laid is whole: the plain law, first part. -/
import Derived.Test.YtlidbkofjchnnaaDoorPageC
namespace Go.Proofs.YtlidbkofjchnnaaDoor
open Go.RowKit
set_option linter.unusedVariables false
set_option linter.unusedSimpArgs false

theorem lay_split (l : List Nat) (k : Nat) : ∀ c, k < c → ∃ rest, lay l c = lay l k ++ (blk l k ++ (chks (blk l k) 8 ++ (0 :: rest)))
  | 0, h => by omega
  | c + 1, h => by
    by_cases e : k = c
    · subst e
      exact ⟨[], by simp [lay]⟩
    · obtain ⟨rest, hr⟩ := lay_split l k c (by omega)
      exact ⟨rest ++ (blk l c ++ chks (blk l c) 8 ++ [0]), by rw [lay, hr]; simp⟩
section
variable {l : List Nat} {c k : Nat} (hl : l.length = 64 * c) (hk : k < c)
include hl hk
theorem lay_cd : cd (lay l c) k = blk l k := by
  obtain ⟨rest, hr⟩ := lay_split l k c hk
  have h1 := lay_length l c hl k (by omega)
  have h2 := blk_length l k c hl hk
  unfold cd
  rw [hr, ← h1, List.drop_left, ← h2, List.take_left]
theorem lay_cc : cc (lay l c) k = chks (blk l k) 8 := by
  obtain ⟨rest, hr⟩ := lay_split l k c hk
  have h1 := lay_length l c hl k (by omega)
  have h2 := blk_length l k c hl hk
  have h3 := chks_length (blk l k) 8
  unfold cc
  rw [hr, ← List.append_assoc (lay l k), show 73 * k + 64 = (lay l k ++ blk l k).length by rw [List.length_append, h1, h2], List.drop_left]
  conv => lhs; rw [show (8 : Nat) = (chks (blk l k) 8).length from h3.symm]
  rw [h3, List.take_append_of_le_length (by rw [h3]; exact Nat.le_refl _), List.take_of_length_le (by rw [h3]; exact Nat.le_refl _)]
theorem lay_mark : (lay l c).getD (72 + 73 * k) 0 = 0 := by
  obtain ⟨rest, hr⟩ := lay_split l k c hk
  have h1 := lay_length l c hl k (by omega)
  have h2 := blk_length l k c hl hk
  have h3 := chks_length (blk l k) 8
  rw [hr, List.getD_eq_getElem?_getD, List.getElem?_append_right (by omega), List.getElem?_append_right (by omega), List.getElem?_append_right (by omega), h1, h2, h3, show 72 + 73 * k - 73 * k - 64 - 8 = 0 by omega]
  rfl
end
theorem marks_all {l : List Nat} : ∀ c, (∀ k, k < c → pop8 (l.getD (72 + 73 * k) 0) ≤ 4) → marks l c = c
  | 0, _ => rfl
  | c + 1, h => by
    rw [marks, marks_all c (fun k hk => h k (by omega)), if_pos (h c (by omega))]
theorem lay_state {l : List Nat} {c : Nat} (hl : l.length = 64 * c) (hc : 1 ≤ c) : stateOf (lay l c) c = 2 := by
  have hm := marks_all (l := lay l c) c (fun k hk => by rw [lay_mark hl hk]; decide)
  unfold stateOf
  rw [hm, if_neg (by omega), if_pos rfl]
end Go.Proofs.YtlidbkofjchnnaaDoor
namespace Go.Proofs.YtlidbkofjchnnaaDoor
open Go.RowKit
set_option linter.unusedVariables false
set_option linter.unusedSimpArgs false

theorem gw_add (l : List Nat) (h : ∀ j, l.getD j 0 < 256) (k : Nat) : gw l (k + 1) = 2 ^ (8 * k) * l.getD k 0 + gw l k := by
  rw [Nat.two_pow_add_eq_or_of_lt (gw_lt l h k), Nat.or_comm, Nat.mul_comm]
  rfl
theorem gw_byte (l : List Nat) (h : ∀ j, l.getD j 0 < 256) : ∀ k i, i < k → gw l k / 2 ^ (8 * i) % 256 = l.getD i 0
  | 0, i, hi => by omega
  | k + 1, i, hi => by
    rw [gw_add l h k]
    by_cases e : i = k
    · subst e
      rw [Nat.mul_add_div (Nat.two_pow_pos _), Nat.div_eq_of_lt (gw_lt l h i), Nat.add_zero, Nat.mod_eq_of_lt (h i)]
    · have hp : 2 ^ (8 * k) = 2 ^ (8 * i) * (256 * 2 ^ (8 * (k - i - 1))) := by
        rw [show (256 : Nat) = 2 ^ 8 by decide, ← Nat.pow_add, ← Nat.pow_add]
        congr 1
        omega
      rw [hp, Nat.mul_assoc, Nat.mul_add_div (Nat.two_pow_pos _), Nat.mul_assoc, Nat.mul_add_mod]
      exact gw_byte l h k i (by omega)
theorem pb_gw (l : List Nat) (h : ∀ j, l.getD j 0 < 256) (hl : 8 ≤ l.length) : pb (gw l 8) 8 = l.take 8 := by
  apply List.ext_getElem
  · rw [pb_length, List.length_take]; omega
  · intro i h1 h2
    have hi : i < 8 := by rw [pb_length] at h1; exact h1
    simp only [pb, List.getElem_map, List.getElem_range, if_pos hi, List.getElem_take]
    rw [gw_byte l h 8 i hi, List.getD_eq_getElem?_getD, List.getElem?_eq_getElem (by omega)]
    rfl
theorem mend_same (x : Nat) : mend x (chk x) = (x, chk x, 0) := by
  unfold mend
  rw [Nat.xor_self, if_pos rfl]
theorem chks_get (l : List Nat) (k i : Nat) (h : i < k) : (chks l k).getD i 0 = chk (gw (l.drop (8 * i)) 8) := by
  rw [List.getD_eq_getElem?_getD]
  simp [chks, h]
theorem mw_same (l : List Nat) (i : Nat) (h : i < 8) : mw l (chks l 8) i = (gw (l.drop (8 * i)) 8, chk (gw (l.drop (8 * i)) 8), 0) := by
  unfold mw
  rw [chks_get l 8 i h, mend_same]
theorem mBytes_same (l : List Nat) (hl : l.length = 64) (h : ∀ u ∈ l, u < 256) : ∀ k, k ≤ 8 → mBytes l (chks l 8) k = l.take (8 * k)
  | 0, _ => rfl
  | k + 1, hk => by
    rw [mBytes, mBytes_same l hl h k (by omega), mw_same l k (by omega), pb_gw _ (getD_lt (mem_drop h)) (by rw [List.length_drop]; omega), show 8 * (k + 1) = 8 * k + 8 by omega, List.take_add]
theorem mCnt_same (l : List Nat) : ∀ k, k ≤ 8 → mCnt l (chks l 8) k = 0
  | 0, _ => rfl
  | k + 1, hk => by rw [mCnt, mCnt_same l k (by omega), mw_same l k (by omega)]; rfl
theorem mBad_same (l : List Nat) : mBad l (chks l 8) = false := mBad_none _ _ fun i hi => by rw [mw_same l i hi]; simp
end Go.Proofs.YtlidbkofjchnnaaDoor
