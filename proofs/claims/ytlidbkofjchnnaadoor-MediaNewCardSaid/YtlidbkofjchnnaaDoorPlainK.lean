/- locketlaw6.known: what its flipped page reads as. -/
import Derived.Test.YtlidbkofjchnnaaDoorPlainC
import Derived.Test.YtlidbkofjchnnaaDoorNandM
namespace Go.Proofs.YtlidbkofjchnnaaDoor
open Go.RowKit
set_option linter.unusedVariables false
set_option linter.unusedSimpArgs false

theorem chk_512 : chk 512 = 28 := by
  rw [chk_step 512 (by decide), show (512 : Nat) &&& (512 - 1) = 0 by decide, chk_zero]
  decide +kernel
theorem mend_0 : mend 0 0 = (0, 0, 0) := by unfold mend; rw [chk_zero]; rfl
theorem mend_512 : mend 512 0 = (0, 0, 1) := by unfold mend; rw [chk_512]; decide +kernel
theorem chks_0 : chks (List.replicate 64 0) 8 = List.replicate 8 0 := by
  have h : ∀ i, i < 8 → gw ((List.replicate 64 0).drop (8 * i)) 8 = 0 := by decide +kernel
  unfold chks
  rw [List.map_congr_left (g := fun _ => 0) (fun i hi => by rw [h i (List.mem_range.1 hi), chk_zero])]
  rfl
def zs : List Nat := List.replicate 100 0
theorem laid_zs : laid zs 2 = List.replicate 146 0 := by
  have h1 : pad zs 2 = List.replicate 128 0 := by decide +kernel
  have h2 : blk (List.replicate 128 0) 0 = List.replicate 64 0 := by decide +kernel
  have h3 : blk (List.replicate 128 0) 1 = List.replicate 64 0 := by decide +kernel
  unfold laid
  rw [h1]
  simp only [lay, h2, h3, chks_0]
  decide +kernel
/-- The page with its bit turned. -/
def kr : List Nat := (List.replicate 146 0).set 1 2
theorem kr_eq : flipBit (laid zs 2) 9 = kr := by rw [laid_zs]; decide +kernel
theorem kr_state : stateOf kr 2 = 2 := by decide +kernel
theorem kr_w0 : ∀ i, i < 8 → gw ((cd kr 0).drop (8 * i)) 8 = (if i = 0 then 512 else 0) ∧ (cc kr 0).getD i 0 = 0 := by decide +kernel
theorem kr_w1 : ∀ i, i < 8 → gw ((cd kr 1).drop (8 * i)) 8 = 0 ∧ (cc kr 1).getD i 0 = 0 := by decide +kernel
theorem kr_m0 : mw (cd kr 0) (cc kr 0) 0 = (0, 0, 1) := by unfold mw; rw [(kr_w0 0 (by decide)).1, (kr_w0 0 (by decide)).2, if_pos rfl, mend_512]
theorem kr_m (i : Nat) (hi : i < 8) (h0 : i ≠ 0) : mw (cd kr 0) (cc kr 0) i = (0, 0, 0) := by unfold mw; rw [(kr_w0 i hi).1, (kr_w0 i hi).2, if_neg h0, mend_0]
theorem kr_n (i : Nat) (hi : i < 8) : mw (cd kr 1) (cc kr 1) i = (0, 0, 0) := by unfold mw; rw [(kr_w1 i hi).1, (kr_w1 i hi).2, mend_0]
theorem kr_bad : rBad kr 2 = false := rBad_none _ _ fun k hk => by
  have : k = 0 ∨ k = 1 := by omega
  rcases this with rfl | rfl
  · refine mBad_none _ _ fun i hi => ?_
    by_cases h : i = 0
    · subst h; rw [kr_m0]; simp
    · rw [kr_m i hi h]; simp
  · exact mBad_none _ _ fun i hi => by rw [kr_n i hi]; simp
theorem kr_cnt : rCnt kr 2 = 1 := by
  simp only [rCnt, mCnt, kr_m0, kr_m 1 (by decide) (by decide), kr_m 2 (by decide) (by decide), kr_m 3 (by decide) (by decide), kr_m 4 (by decide) (by decide), kr_m 5 (by decide) (by decide), kr_m 6 (by decide) (by decide), kr_m 7 (by decide) (by decide), kr_n 0 (by decide), kr_n 1 (by decide), kr_n 2 (by decide), kr_n 3 (by decide), kr_n 4 (by decide), kr_n 5 (by decide), kr_n 6 (by decide), kr_n 7 (by decide)]
  decide
theorem kr_bytes : (rBytes kr 2).take 100 = zs := by
  simp only [rBytes, mBytes, kr_m0, kr_m 1 (by decide) (by decide), kr_m 2 (by decide) (by decide), kr_m 3 (by decide) (by decide), kr_m 4 (by decide) (by decide), kr_m 5 (by decide) (by decide), kr_m 6 (by decide) (by decide), kr_m 7 (by decide) (by decide), kr_n 0 (by decide), kr_n 1 (by decide), kr_n 2 (by decide), kr_n 3 (by decide), kr_n 4 (by decide), kr_n 5 (by decide), kr_n 6 (by decide), kr_n 7 (by decide)]
  decide +kernel
theorem kr_how : howOf kr 2 = 2 := by unfold howOf; rw [if_pos kr_state, kr_bad]; rfl
theorem kr_cntOf : cntOf kr 2 = 1 := by unfold cntOf; rw [if_pos ⟨kr_state, kr_bad⟩, kr_cnt]
end Go.Proofs.YtlidbkofjchnnaaDoor
