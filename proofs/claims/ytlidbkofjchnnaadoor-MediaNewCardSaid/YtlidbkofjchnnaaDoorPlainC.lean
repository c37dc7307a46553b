/- What was laid is read: its bytes, none of them mended. -/
import Derived.Test.YtlidbkofjchnnaaDoorPlain
import Derived.Test.YtlidbkofjchnnaaDoorMediaE
import Derived.Test.YtlidbkofjchnnaaDoorNandF
namespace Go.Proofs.YtlidbkofjchnnaaDoor
open Go.RowKit
set_option linter.unusedVariables false
set_option linter.unusedSimpArgs false

section
variable {l : List Nat} {c : Nat}
theorem blk_lt {k : Nat} (h : ∀ u ∈ l, u < 256) : ∀ u ∈ blk l k, u < 256 := mem_take (mem_drop h)
theorem rBytes_lay (hl : l.length = 64 * c) (h : ∀ u ∈ l, u < 256) : ∀ k, k ≤ c → rBytes (lay l c) k = l.take (64 * k)
  | 0, _ => by simp [rBytes]
  | k + 1, hk => by
    have hb := blk_length l k c hl (by omega)
    rw [rBytes, rBytes_lay hl h k (by omega), lay_cd hl (by omega), lay_cc hl (by omega), mBytes_same _ hb (blk_lt h) 8 (by omega), show (blk l k).take (8 * 8) = blk l k from List.take_of_length_le (by omega), show 64 * (k + 1) = 64 * k + 64 by omega, List.take_add]
    rfl
theorem rCnt_lay (hl : l.length = 64 * c) : ∀ k, k ≤ c → rCnt (lay l c) k = 0
  | 0, _ => by simp [rCnt]
  | k + 1, hk => by rw [rCnt, rCnt_lay hl k (by omega), lay_cd hl (by omega), lay_cc hl (by omega), mCnt_same _ 8 (by omega)]
theorem rBad_lay (hl : l.length = 64 * c) : rBad (lay l c) c = false := rBad_none _ _ fun i hi => by rw [lay_cd hl hi, lay_cc hl hi]; exact mBad_same _
end
theorem laid_how {d : List Nat} {c : Nat} (hc : 1 ≤ c) (hd : d.length ≤ 64 * c) : howOf (laid d c) c = 2 := by
  have hl := pad_length d c hd
  unfold howOf laid
  rw [if_pos (lay_state hl hc), rBad_lay hl]; rfl
theorem laid_cnt {d : List Nat} {c : Nat} (hd : d.length ≤ 64 * c) : cntOf (laid d c) c = 0 := by
  have hl := pad_length d c hd
  unfold cntOf laid
  rw [rCnt_lay hl c (Nat.le_refl _)]; simp
theorem laid_read {d : List Nat} {c : Nat} (hd : d.length ≤ 64 * c) (h : ∀ u ∈ d, u < 256) : (rBytes (laid d c) c).take d.length = d := by
  have hl := pad_length d c hd
  unfold laid
  rw [rBytes_lay hl (pad_lt h c) c (Nat.le_refl _), show (pad d c).take (64 * c) = pad d c from List.take_of_length_le (by omega)]
  exact List.take_left
theorem laid_raw {d : List Nat} {c : Nat} (hd : d.length ≤ 64 * c) (h : ∀ u ∈ d, u < 256) : Raw c (laid d c) :=
  ⟨lay_length (pad d c) c (pad_length d c hd) c (Nat.le_refl _), lay_lt (pad_lt h c) c⟩
end Go.Proofs.YtlidbkofjchnnaaDoor
namespace Go.Proofs.YtlidbkofjchnnaaDoor
open Go.RowKit
set_option linter.unusedVariables false
set_option linter.unusedSimpArgs false

theorem marks_at {l : List Nat} (j : Nat) (h1 : ∀ k, k < j → pop8 (l.getD (72 + 73 * k) 0) ≤ 4) : ∀ c, (∀ k, j ≤ k → k < c → ¬ pop8 (l.getD (72 + 73 * k) 0) ≤ 4) → marks l c = min c j
  | 0, _ => by simp [marks]
  | c + 1, h2 => by
    rw [marks, marks_at j h1 c (fun k hk hkc => h2 k hk (by omega))]
    by_cases hc : c < j
    · rw [if_pos (h1 c hc)]; omega
    · rw [if_neg (h2 c (by omega) (by omega))]; omega
theorem part_state {d : List Nat} {c j : Nat} (hd : d.length ≤ 64 * c) (hj : 0 < j) (hjc : j < c) : stateOf (part (laid d c) c j) c = 1 := by
  have hl := pad_length d c hd
  have hr : (laid d c).length = 73 * c := lay_length (pad d c) c hl c (Nat.le_refl _)
  have hm := marks_at (l := part (laid d c) c j) j (fun k hk => by
    have e : (part (laid d c) c j).getD (72 + 73 * k) 0 = (laid d c).getD (72 + 73 * k) 0 := by
      unfold part
      rw [List.getD_eq_getElem?_getD, List.getElem?_append_left (by rw [List.length_take]; omega), List.getElem?_take, if_pos (by omega), ← List.getD_eq_getElem?_getD]
    rw [e]
    unfold laid
    rw [lay_mark hl (by omega)]
    decide) c (fun k hk hkc => by
    have e : (part (laid d c) c j).getD (72 + 73 * k) 0 = 255 := by
      unfold part
      rw [List.getD_eq_getElem?_getD, List.getElem?_append_right (by rw [List.length_take]; omega), List.getElem?_replicate, if_pos (by rw [List.length_take]; omega)]
      rfl
    rw [e]; decide)
  unfold stateOf
  rw [hm, if_neg (by omega), if_neg (by omega)]
theorem laid_state {d : List Nat} {c : Nat} (hd : d.length ≤ 64 * c) (hc : 1 ≤ c) : stateOf (laid d c) c = 2 := lay_state (pad_length d c hd) hc
end Go.Proofs.YtlidbkofjchnnaaDoor
