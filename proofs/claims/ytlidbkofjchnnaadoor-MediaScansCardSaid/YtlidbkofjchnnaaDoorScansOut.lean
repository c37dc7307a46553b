/- MediaScans at what it does not ask. -/
import Derived.Test.YtlidbkofjchnnaaDoorScans
namespace Go.Proofs.YtlidbkofjchnnaaDoor
open Go.RowKit
set_option linter.unusedVariables false
set_option linter.unusedSimpArgs false

set_option maxRecDepth 100000 in
set_option maxHeartbeats 2000000 in
theorem scans_out (p c m a : Int) (er : Bool) (h : p < 2 ∨ 20 < p ∨ p % 2 ≠ 0 ∨ c < 1 ∨ 8 < c ∨ m < 0 ∨ p < m ∨ a < 1 ∨ 200 < a) (w : World) (hT : Tab w) : Calls Tryd.prog 3 #[.int .i64 p, .int .i64 c, .int .i64 m, .int .i64 a, .bool er] w fun e w' => e = .returned (.bool true) ∧ Below w.heap.size w w' := by
  have HK := Lib.hid (known_any w hT)
  clear hT
  by_cases h1 : p < 2
  · clear h
    go_enter Tryd.func3, Tryd.ntmps3
    go_wp2_with fail
    refine (HK.out).mono ?_
    rintro e w1 ⟨rfl, hb⟩
    have HB := Lib.hid hb
    clear HK hb
    go_wp2
    go_ret
    exact ⟨rfl, HB.out⟩
  by_cases h2 : p > 20
  · clear h
    go_enter Tryd.func3, Tryd.ntmps3
    go_wp2_with fail
    refine (HK.out).mono ?_
    rintro e w1 ⟨rfl, hb⟩
    have HB := Lib.hid hb
    clear HK hb
    go_wp2
    go_ret
    exact ⟨rfl, HB.out⟩
  by_cases h3 : ¬ p % 2 = 0
  · have h3t : ¬ p.tmod 2 = 0 := by rw [Int.tmod_eq_emod_of_nonneg (by omega)]; exact h3
    clear h
    go_enter Tryd.func3, Tryd.ntmps3
    go_wp2_with fail
    refine (HK.out).mono ?_
    rintro e w1 ⟨rfl, hb⟩
    have HB := Lib.hid hb
    clear HK hb
    go_wp2
    go_ret
    exact ⟨rfl, HB.out⟩
  have h3' : p % 2 = 0 := by omega
  have h3t : p.tmod 2 = 0 := by rw [Int.tmod_eq_emod_of_nonneg (by omega)]; exact h3'
  clear h3
  by_cases h4 : c < 1
  · clear h
    go_enter Tryd.func3, Tryd.ntmps3
    go_wp2_with fail
    refine (HK.out).mono ?_
    rintro e w1 ⟨rfl, hb⟩
    have HB := Lib.hid hb
    clear HK hb
    go_wp2
    go_ret
    exact ⟨rfl, HB.out⟩
  by_cases h5 : c > 8
  · clear h
    go_enter Tryd.func3, Tryd.ntmps3
    go_wp2_with fail
    refine (HK.out).mono ?_
    rintro e w1 ⟨rfl, hb⟩
    have HB := Lib.hid hb
    clear HK hb
    go_wp2
    go_ret
    exact ⟨rfl, HB.out⟩
  by_cases h6 : m < 0
  · clear h
    go_enter Tryd.func3, Tryd.ntmps3
    go_wp2_with fail
    refine (HK.out).mono ?_
    rintro e w1 ⟨rfl, hb⟩
    have HB := Lib.hid hb
    clear HK hb
    go_wp2
    go_ret
    exact ⟨rfl, HB.out⟩
  by_cases h7 : m > p
  · clear h
    go_enter Tryd.func3, Tryd.ntmps3
    go_wp2_with fail
    refine (HK.out).mono ?_
    rintro e w1 ⟨rfl, hb⟩
    have HB := Lib.hid hb
    clear HK hb
    go_wp2
    go_ret
    exact ⟨rfl, HB.out⟩
  by_cases h8 : a < 1
  · clear h
    go_enter Tryd.func3, Tryd.ntmps3
    go_wp2_with fail
    refine (HK.out).mono ?_
    rintro e w1 ⟨rfl, hb⟩
    have HB := Lib.hid hb
    clear HK hb
    go_wp2
    go_ret
    exact ⟨rfl, HB.out⟩
  by_cases h9 : a > 200
  · clear h
    go_enter Tryd.func3, Tryd.ntmps3
    go_wp2_with fail
    refine (HK.out).mono ?_
    rintro e w1 ⟨rfl, hb⟩
    have HB := Lib.hid hb
    clear HK hb
    go_wp2
    go_ret
    exact ⟨rfl, HB.out⟩
  · exfalso; omega
end Go.Proofs.YtlidbkofjchnnaaDoor
