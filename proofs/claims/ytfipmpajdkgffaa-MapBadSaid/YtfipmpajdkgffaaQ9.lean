/- What follows is laid together from several texts of mine, in their order. -/
import Derived.Test.YtfipmpajdkgffaaQ8

namespace Go.Proofs.Ytfipmpajdkgffaa
open Go.RowKit Go.MapKept Go.ChangeMaps
attribute [local go_sem] Oper.semAt_some
attribute [local simp, local go_sem] wide_fn
set_option linter.unusedVariables false
set_option linter.unusedSimpArgs false
set_option maxRecDepth 100000 in
set_option maxHeartbeats 4000000 in
theorem bad_no (a bad : Int) (A Ao : Option Addr) (n cap no co : Nat) (W : World) (hm : n ≤ 9223372036854775807 ∧ no ≤ 9223372036854775807) (h : ¬ (n ≤ 200 ∧ 1 ≤ a ∧ a ≤ 500 ∧ no ≤ 100)) :
    Calls Try.prog 7 #[.int .i64 a, .slice A n cap, .int .i64 bad, .slice Ao no co] W fun e w' => e = .returned (.bool true) ∧ Below W.heap.size W w' := by
  have HK := Lib.hid (known_any W)
  obtain ⟨hm1, hm2⟩ := hm
  by_cases h0 : n ≤ 200
  · by_cases h1 : 1 ≤ a
    · by_cases h2 : a ≤ 500
      · by_cases h3 : no ≤ 100
        · exact absurd ⟨h0, h1, h2, h3⟩ h
        · clear h
          go_enter Try.func7, Try.ntmps7
          go_wp2_with fail
          refine HK.out.mono ?_
          rintro e w1 ⟨rfl, hb1'⟩
          have HB1 := Lib.hid hb1'
          clear hb1' HK
          go_wp2
          go_ret
          exact ⟨by first | (simp; done) | rfl, HB1.out⟩
      · clear h
        go_enter Try.func7, Try.ntmps7
        go_wp2_with fail
        refine HK.out.mono ?_
        rintro e w1 ⟨rfl, hb1'⟩
        have HB1 := Lib.hid hb1'
        clear hb1' HK
        go_wp2
        go_ret
        exact ⟨by first | (simp; done) | rfl, HB1.out⟩
    · clear h
      go_enter Try.func7, Try.ntmps7
      go_wp2_with fail
      refine HK.out.mono ?_
      rintro e w1 ⟨rfl, hb1'⟩
      have HB1 := Lib.hid hb1'
      clear hb1' HK
      go_wp2
      go_ret
      exact ⟨by first | (simp; done) | rfl, HB1.out⟩
  · clear h
    go_enter Try.func7, Try.ntmps7
    go_wp2_with fail
    refine HK.out.mono ?_
    rintro e w1 ⟨rfl, hb1'⟩
    have HB1 := Lib.hid hb1'
    clear hb1' HK
    go_wp2
    go_ret
    exact ⟨by first | (simp; done) | rfl, HB1.out⟩
theorem bad_walk (a bad : Int) (hbd : -9223372036854775808 ≤ bad ∧ bad ≤ 9223372036854775807) (A : Option Addr) (n cap : Nat) (f : Nat → Nat → Int) (W : World) (hA : Acts W A n 4 f) (hcap : n ≤ cap) (hm : cap ≤ maxLen)
    (Ao : Option Addr) (d : List Nat) (co : Nat) (hAo : Cells8 W Ao d) (hdo : ∀ u ∈ d, u < 256) (hco : d.length ≤ co) (hmo : co ≤ maxLen) :
    Calls Try.prog 7 #[.int .i64 a, .slice A n cap, .int .i64 bad, .slice Ao d.length co] W fun e w' => e = .returned (.bool true) ∧ Below W.heap.size W w' := by
  unfold maxLen at hm hmo
  by_cases h : n ≤ 200 ∧ 1 ≤ a ∧ a ≤ 500 ∧ d.length ≤ 100
  · obtain ⟨h0, h1, h2, h3⟩ := h
    obtain ⟨a, rfl⟩ : ∃ x : Nat, a = x := ⟨a.toNat, by omega⟩
    exact bad_in a bad (by omega) hbd A n cap f W hA h0 hcap Ao d co hAo hdo h3 hco
  · exact bad_no a bad A Ao n cap d.length co W ⟨by omega, by omega⟩ h
end Go.Proofs.Ytfipmpajdkgffaa
