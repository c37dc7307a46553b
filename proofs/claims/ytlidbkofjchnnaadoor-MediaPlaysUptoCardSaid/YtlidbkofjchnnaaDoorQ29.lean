/- What follows is laid together from several texts of mine, in their order. -/
import Derived.Test.YtlidbkofjchnnaaDoorQ27
import Derived.Test.YtlidbkofjchnnaaDoorQ28

namespace Go.Proofs.YtlidbkofjchnnaaDoor
open Go.RowKit
set_option linter.unusedVariables false
set_option linter.unusedSimpArgs false

set_option maxRecDepth 100000 in
set_option maxHeartbeats 2000000 in
theorem plays_out (nb p c n : Int) (a : Option Addr) (cap : Nat) (xs : List Ac) (hn : xs.length ≤ 1048576) (hs : sumA xs ≤ 1048576) (h : fewB xs = false ∨ nb < 1 ∨ 20 < nb ∨ p < 2 ∨ 20 < p ∨ p % 2 ≠ 0 ∨ c < 1 ∨ 8 < c ∨ n < 1 ∨ 64 * c < n) (w : World) (hT : Tab w) (hW : ActsP w a xs) :
    Calls Tryd.prog 6 #[.int .i64 nb, .int .i64 p, .int .i64 c, .int .i64 n, .slice a xs.length cap] w fun e w' => e = .returned (.bool true) ∧ Below w.heap.size w w' := by
  have HK := Lib.hid (known_any w hT)
  have HF : Hid (∀ w1, Below w.heap.size w w1 → Calls Tryd.prog 22 #[.slice a xs.length cap] w1 fun e w' => e = .returned (.bool (fewB xs)) ∧ w1 = w') := fun w1 hb => few_any a cap xs hn hs w1 (hW.keep (keep_below hb))
  clear hT hW hn hs
  generalize xs.length = ln at *
  cases h0 : fewB xs with
  | false =>
    rw [h0] at HF
    clear h h0
    go_enter Tryd.func6, Tryd.ntmps6
    go_wp2_with fail
    refine (HK.out).mono ?_
    rintro e w1 ⟨rfl, hb⟩
    have HB := Lib.hid hb
    have HF1 := Lib.hid (HF.out w1 hb)
    clear HK hb HF
    go_wp2_with fail
    refine (HF1.out).mono ?_
    rintro e w2 ⟨rfl, rfl⟩
    clear HF1
    go_wp2
    go_ret
    exact ⟨rfl, HB.out⟩
  | true =>
    rw [h0] at HF h
    have h : nb < 1 ∨ 20 < nb ∨ p < 2 ∨ 20 < p ∨ p % 2 ≠ 0 ∨ c < 1 ∨ 8 < c ∨ n < 1 ∨ 64 * c < n := by simpa using h
    clear h0
    by_cases h1 : nb < 1
    · clear h
      go_enter Tryd.func6, Tryd.ntmps6
      go_wp2_with fail
      refine (HK.out).mono ?_
      rintro e w1 ⟨rfl, hb⟩
      have HB := Lib.hid hb
      have HF1 := Lib.hid (HF.out w1 hb)
      clear HK hb HF
      go_wp2_with fail
      refine (HF1.out).mono ?_
      rintro e w2 ⟨rfl, rfl⟩
      clear HF1
      go_wp2
      go_ret
      exact ⟨rfl, HB.out⟩
    by_cases h2 : nb > 20
    · clear h
      go_enter Tryd.func6, Tryd.ntmps6
      go_wp2_with fail
      refine (HK.out).mono ?_
      rintro e w1 ⟨rfl, hb⟩
      have HB := Lib.hid hb
      have HF1 := Lib.hid (HF.out w1 hb)
      clear HK hb HF
      go_wp2_with fail
      refine (HF1.out).mono ?_
      rintro e w2 ⟨rfl, rfl⟩
      clear HF1
      go_wp2
      go_ret
      exact ⟨rfl, HB.out⟩
    by_cases h3 : p < 2
    · clear h
      go_enter Tryd.func6, Tryd.ntmps6
      go_wp2_with fail
      refine (HK.out).mono ?_
      rintro e w1 ⟨rfl, hb⟩
      have HB := Lib.hid hb
      have HF1 := Lib.hid (HF.out w1 hb)
      clear HK hb HF
      go_wp2_with fail
      refine (HF1.out).mono ?_
      rintro e w2 ⟨rfl, rfl⟩
      clear HF1
      go_wp2
      go_ret
      exact ⟨rfl, HB.out⟩
    by_cases h4 : p > 20
    · clear h
      go_enter Tryd.func6, Tryd.ntmps6
      go_wp2_with fail
      refine (HK.out).mono ?_
      rintro e w1 ⟨rfl, hb⟩
      have HB := Lib.hid hb
      have HF1 := Lib.hid (HF.out w1 hb)
      clear HK hb HF
      go_wp2_with fail
      refine (HF1.out).mono ?_
      rintro e w2 ⟨rfl, rfl⟩
      clear HF1
      go_wp2
      go_ret
      exact ⟨rfl, HB.out⟩
    by_cases h5 : ¬ p % 2 = 0
    · have h5t : ¬ p.tmod 2 = 0 := by rw [Int.tmod_eq_emod_of_nonneg (by omega)]; exact h5
      clear h
      go_enter Tryd.func6, Tryd.ntmps6
      go_wp2_with fail
      refine (HK.out).mono ?_
      rintro e w1 ⟨rfl, hb⟩
      have HB := Lib.hid hb
      have HF1 := Lib.hid (HF.out w1 hb)
      clear HK hb HF
      go_wp2_with fail
      refine (HF1.out).mono ?_
      rintro e w2 ⟨rfl, rfl⟩
      clear HF1
      go_wp2
      go_ret
      exact ⟨rfl, HB.out⟩
    have h5' : p % 2 = 0 := by omega
    have h5t : p.tmod 2 = 0 := by rw [Int.tmod_eq_emod_of_nonneg (by omega)]; exact h5'
    clear h5
    by_cases h6 : c < 1
    · clear h
      go_enter Tryd.func6, Tryd.ntmps6
      go_wp2_with fail
      refine (HK.out).mono ?_
      rintro e w1 ⟨rfl, hb⟩
      have HB := Lib.hid hb
      have HF1 := Lib.hid (HF.out w1 hb)
      clear HK hb HF
      go_wp2_with fail
      refine (HF1.out).mono ?_
      rintro e w2 ⟨rfl, rfl⟩
      clear HF1
      go_wp2
      go_ret
      exact ⟨rfl, HB.out⟩
    by_cases h7 : c > 8
    · clear h
      go_enter Tryd.func6, Tryd.ntmps6
      go_wp2_with fail
      refine (HK.out).mono ?_
      rintro e w1 ⟨rfl, hb⟩
      have HB := Lib.hid hb
      have HF1 := Lib.hid (HF.out w1 hb)
      clear HK hb HF
      go_wp2_with fail
      refine (HF1.out).mono ?_
      rintro e w2 ⟨rfl, rfl⟩
      clear HF1
      go_wp2
      go_ret
      exact ⟨rfl, HB.out⟩
    by_cases h8 : n < 1
    · clear h
      go_enter Tryd.func6, Tryd.ntmps6
      go_wp2_with fail
      refine (HK.out).mono ?_
      rintro e w1 ⟨rfl, hb⟩
      have HB := Lib.hid hb
      have HF1 := Lib.hid (HF.out w1 hb)
      clear HK hb HF
      go_wp2_with fail
      refine (HF1.out).mono ?_
      rintro e w2 ⟨rfl, rfl⟩
      clear HF1
      go_wp2
      go_ret
      exact ⟨rfl, HB.out⟩
    have hw : IntKind.i64.wrap (64 * c) = 64 * c := by rw [IntKind.wrap_i64]; omega
    by_cases h9 : n > 64 * c
    · clear h
      go_enter Tryd.func6, Tryd.ntmps6
      go_wp2_with fail
      refine (HK.out).mono ?_
      rintro e w1 ⟨rfl, hb⟩
      have HB := Lib.hid hb
      have HF1 := Lib.hid (HF.out w1 hb)
      clear HK hb HF
      go_wp2_with fail
      refine (HF1.out).mono ?_
      rintro e w2 ⟨rfl, rfl⟩
      clear HF1
      go_wp2
      go_ret
      exact ⟨rfl, HB.out⟩
    · exfalso; omega
end Go.Proofs.YtlidbkofjchnnaaDoor
