/- locketlaw14.known. -/
import Derived.Test.YtallanlajecmhaaGuardBits
namespace Go.Proofs.Ytallanlajecmhaa
open Go.RowKit
set_option linter.unusedVariables false
set_option linter.unusedSimpArgs false

theorem bits_known : bitsK 0 [0, 3, 0] = 2 := by decide +kernel
set_option maxHeartbeats 1000000 in
theorem known_any (w : World) : Calls Try.prog 7 #[] w fun e w' => e = .returned (.bool true) ∧ Below w.heap.size w w' := by
  have HN := Lib.hid (New_yes 3 (by omega) (by omega) w)
  go_enter Try.func7, Try.ntmps7
  go_wp2_with fail
  refine HN.out.mono ?_
  rintro e w1 ⟨G, L, c, rfl, hh, hb1⟩
  have HB1 := Lib.hid hb1
  have HH := Lib.hid hh
  clear hh hb1 HN
  have HS := Lib.hid (Set_any G L c [0, 0, 0] (by simp) 1 3 _ w1 HH.out (by simp))
  rw [show setR [0, 0, 0] 1 3 = 0 by decide, show setK [0, 0, 0] 1 3 = [0, 3, 0] by decide] at HS
  go_wp2_with fail
  refine HS.out.mono ?_
  rintro e w2 ⟨rfl, hh2, ht2⟩
  have HB2 : Hid (Below w.heap.size w w2) := ht2.below HB1.out HB1.out.size (by simpa using HH.out.hL.1)
  have HH2 := Lib.hid hh2
  clear hh2 ht2 HS HH HB1
  have HC := Lib.hid (Clear_any G L c [0, 3, 0] (by simp) 1 _ w2 HH2.out (by simp))
  rw [show clearR [0, 3, 0] 1 = 21 by decide, show clearK [0, 3, 0] 1 = [0, 3, 0] by decide] at HC
  go_wp2_with fail
  refine HC.out.mono ?_
  rintro e w3 ⟨rfl, hh3, ht3⟩
  have HB3 : Hid (Below w.heap.size w w3) := ht3.below HB2.out HB2.out.size (by simpa using HH2.out.hL.1)
  have HH3 := Lib.hid hh3
  clear hh3 ht3 HC HH2 HB2
  have HP := Lib.hid (PowerUp_any G L c [0, 3, 0] (by simp) (by simp) _ w3 HH3.out (by simp))
  rw [show lastK [0, 3, 0] = [0, 3, 0] by decide] at HP
  go_wp2_with fail
  refine HP.out.mono ?_
  rintro e w4 ⟨⟨v, rfl⟩, ⟨L4, c4, hh4⟩, ht4⟩
  have HB4 : Hid (Below w.heap.size w w4) := ht4.below HB3.out HB3.out.size (by simpa using HH3.out.hG)
  have HH4 := Lib.hid hh4
  clear hh4 ht4 HP HH3 HB3
  have HK := Lib.hid (Kind_any G L4 c4 [0, 3, 0] (by simp) 1 _ w4 HH4.out (by simp))
  have HM := Lib.hid (May_any G L4 c4 [0, 3, 0] (by simp) 1 _ w4 HH4.out (by simp))
  have HM0 := Lib.hid (May_any G L4 c4 [0, 3, 0] (by simp) 0 _ w4 HH4.out (by simp))
  have HB := Lib.hid (Bits_any G L4 c4 [0, 3, 0] (by simp) (by simp) 0 _ w4 HH4.out (by simp))
  rw [bits_known] at HB
  go_wp2_with fail
  refine HK.out.mono ?_
  rintro e w5 ⟨rfl, rfl⟩
  clear HK
  go_wp2_with fail
  refine HM.out.mono ?_
  rintro e w5 ⟨rfl, rfl⟩
  clear HM
  go_wp2_with fail
  refine HM0.out.mono ?_
  rintro e w5 ⟨rfl, rfl⟩
  clear HM0
  go_wp2_with fail
  refine HB.out.mono ?_
  rintro e w5 ⟨rfl, hb5⟩
  have HB5 : Hid (Below w.heap.size w w5) := HB4.out.trans (hb5.mono HB4.out.size)
  clear hb5 HB
  go_wp2_with fail
  refine (Level_any 2 _).mono ?_
  rintro e w5 ⟨rfl, rfl⟩
  go_wp2
  go_ret
  exact ⟨rfl, HB5.out⟩
end Go.Proofs.Ytallanlajecmhaa
