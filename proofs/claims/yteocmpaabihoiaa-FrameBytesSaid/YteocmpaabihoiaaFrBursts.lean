/- The walk of FrameBursts. -/
import Derived.Test.YteocmpaabihoiaaFrPlain
namespace Go.Proofs.Yteocmpaabihoiaa
open Go.RowKit
set_option linter.unusedVariables false
set_option linter.unusedSimpArgs false

theorem sum_known : sum7 64 0 = 74 := by decide +kernel
theorem laid_known : laid (0 + 64) 0 = .agg #[.int .u8 64, .int .u8 0, .int .u8 0, .int .u8 0, .int .u8 0, .int .u8 149] := by
  unfold laid; rw [show sum7 (0 + 64) 0 = 74 from sum_known]; rfl

set_option maxHeartbeats 400000 in
theorem known_any (w : World) : Calls Try.prog 7 #[] w fun e w' => e = .returned (.bool true) ∧ Below w.heap.size w w' := by
  have he := eql6 64 0 0 0 0 149 64 0 0 0 0 149
  go_enter Try.func7, Try.ntmps7
  go_wp2_with fail
  refine (Encode_yes 0 0 (by omega) (by omega) _).mono ?_
  rintro e w1 ⟨rfl, hb⟩
  rw [laid_known]
  go_wp2
  go_ret
  refine ⟨rfl, ?_⟩
  (have hsz0 := Below.size hb; repeat (first | (with_reducible refine Below.drew ?_) | (with_reducible refine below_drewN0 ?_ _) | ((with_reducible refine Below.setCell ?_ ?_ _); rotate_left; focus (first | omega | (simp; done) | (simp; omega) | (simp at *; omega))) | ((with_reducible refine Below.alloc ?_ ?_ _); rotate_left; focus (first | omega | (simp; done) | (simp; omega) | (simp at *; omega))) | ((with_reducible refine Below.trans ?_ (Below.mono hb ?_)); rotate_left; focus (first | omega | (simp; done) | (simp; omega) | (simp at *; omega))) | (with_reducible exact Below.refl _ _)))

theorem readF_frame (n v : Nat) (hn : n < 64) (hv : v < 4294967296) : readF (frameL (n + 64) v) 64 = (n, v, 0) := by
  have hs := sum7_lt (n + 64) v (by omega) hv
  have e0 : (n + 64) &&& 192 = 64 := by
    have h := Nat.two_pow_add_eq_or_of_lt (i := 6) (b := n) (by omega) 1
    have : n + 64 = 64 ||| n := by simp at h; omega
    rw [this, Nat.and_or_distrib_right]
    have : n &&& 192 = 0 := by
      have h1 : n &&& 192 = (n &&& 63) &&& 192 := by
        rw [show n &&& 63 = n % 64 from Nat.and_two_pow_sub_one_eq_mod n 6, Nat.mod_eq_of_lt hn]
      rw [h1, Nat.and_assoc]; simp
    rw [this]; decide
  have e1 : (sum7 (n + 64) v * 2 + 1) &&& 1 ≠ 0 := by rw [Nat.and_one_is_mod]; omega
  have e2 : C7 ((frameL (n + 64) v).take 5) = sum7 (n + 64) v := rfl
  have e3 : (n + 64) &&& 63 = n := by rw [show (n + 64) &&& 63 = (n + 64) % 64 from Nat.and_two_pow_sub_one_eq_mod (n + 64) 6]; omega
  unfold readF
  rw [if_neg (by simp [frameL]), if_neg (by simp only [frameL, List.getD, List.length_cons, List.length_nil]; simp [e0]), e2, if_neg (by simp [frameL]; omega)]
  simp only [frameL, arg4, List.getD]
  simp [e3]
  omega
end Go.Proofs.Yteocmpaabihoiaa
