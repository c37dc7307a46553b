/- What follows is laid together from several texts of mine, in their order. -/
import Derived.Test.YtfipmpajdkgffaaQ8

namespace Go.Proofs.Ytfipmpajdkgffaa
open Go.RowKit Go.MapKept Go.ChangeMaps
attribute [local go_sem] Oper.semAt_some
attribute [local simp, local go_sem] wide_fn
set_option linter.unusedVariables false
set_option linter.unusedSimpArgs false
set_option maxRecDepth 100000 in
set_option maxHeartbeats 4000000 in
theorem orders_no (a tn hd : Int) (A : Option Addr) (n cap : Nat) (W : World) (hm : n ≤ 9223372036854775807) (h : ¬ (n ≤ 200 ∧ 0 < n ∧ 1 ≤ a ∧ a ≤ 500 ∧ 1 ≤ hd ∧ hd ≤ 20)) :
    Calls Try.prog 3 #[.int .i64 a, .slice A n cap, .int .i64 tn, .int .i64 hd] W fun e w' => e = .returned (.bool true) ∧ Below W.heap.size W w' := by
  have HK := Lib.hid (known_any W)
  by_cases h0 : n ≤ 200
  · by_cases h4 : 0 < n
    · have hnz : (((n : Nat) : Int) == 0) = false := by simp; omega
      by_cases h1 : 1 ≤ a
      · by_cases h2 : a ≤ 500
        · by_cases h3 : 1 ≤ hd
          · by_cases h5 : hd ≤ 20
            · exact absurd ⟨h0, h4, h1, h2, h3, h5⟩ h
            · clear h
              go_enter Try.func3, Try.ntmps3
              go_wp2_with fail
              refine HK.out.mono ?_
              rintro e w1 ⟨rfl, hb1'⟩
              have HB1 := Lib.hid hb1'
              clear hb1' HK
              go_wp2
              go_ret
              exact ⟨by first | (simp; done) | rfl, HB1.out⟩
          · clear h
            go_enter Try.func3, Try.ntmps3
            go_wp2_with fail
            refine HK.out.mono ?_
            rintro e w1 ⟨rfl, hb1'⟩
            have HB1 := Lib.hid hb1'
            clear hb1' HK
            go_wp2
            go_ret
            exact ⟨by first | (simp; done) | rfl, HB1.out⟩
        · clear h
          go_enter Try.func3, Try.ntmps3
          go_wp2_with fail
          refine HK.out.mono ?_
          rintro e w1 ⟨rfl, hb1'⟩
          have HB1 := Lib.hid hb1'
          clear hb1' HK
          go_wp2
          go_ret
          exact ⟨by first | (simp; done) | rfl, HB1.out⟩
      · clear h
        go_enter Try.func3, Try.ntmps3
        go_wp2_with fail
        refine HK.out.mono ?_
        rintro e w1 ⟨rfl, hb1'⟩
        have HB1 := Lib.hid hb1'
        clear hb1' HK
        go_wp2
        go_ret
        exact ⟨by first | (simp; done) | rfl, HB1.out⟩
    · obtain rfl : n = 0 := by omega
      clear h
      go_enter Try.func3, Try.ntmps3
      go_wp2_with fail
      refine HK.out.mono ?_
      rintro e w1 ⟨rfl, hb1'⟩
      have HB1 := Lib.hid hb1'
      clear hb1' HK
      go_wp2
      go_ret
      exact ⟨by first | (simp; done) | rfl, HB1.out⟩
  · clear h
    go_enter Try.func3, Try.ntmps3
    go_wp2_with fail
    refine HK.out.mono ?_
    rintro e w1 ⟨rfl, hb1'⟩
    have HB1 := Lib.hid hb1'
    clear hb1' HK
    go_wp2
    go_ret
    exact ⟨by first | (simp; done) | rfl, HB1.out⟩
theorem orders_walk (a tn hd : Int) (hbd : -9223372036854775808 ≤ tn ∧ tn ≤ 9223372036854775807) (A : Option Addr) (n cap : Nat) (f : Nat → Nat → Int) (W : World) (hA : Acts W A n 4 f) (hcap : n ≤ cap) (hm : cap ≤ maxLen) :
    Calls Try.prog 3 #[.int .i64 a, .slice A n cap, .int .i64 tn, .int .i64 hd] W fun e w' => e = .returned (.bool true) ∧ Below W.heap.size W w' := by
  unfold maxLen at hm
  by_cases h : n ≤ 200 ∧ 0 < n ∧ 1 ≤ a ∧ a ≤ 500 ∧ 1 ≤ hd ∧ hd ≤ 20
  · obtain ⟨h0, h1, h2, h3, h4, h5⟩ := h
    obtain ⟨a, rfl⟩ : ∃ x : Nat, a = x := ⟨a.toNat, by omega⟩
    obtain ⟨hd, rfl⟩ : ∃ x : Nat, hd = x := ⟨hd.toNat, by omega⟩
    exact orders_in a hd tn (by omega) (by omega) hbd A n cap f W hA h0 h1 hcap
  · exact orders_no a tn hd A n cap W (by omega) h
end Go.Proofs.Ytfipmpajdkgffaa
