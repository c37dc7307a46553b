/- What follows is laid together from several texts of mine, in their order. -/
import Derived.Test.YtclhhdodebdmjaaGreatQ7

namespace Go.Proofs.YtclhhdodebdmjaaGreat
open Go.RowKit Go.MapKept Go.ChangeMaps
set_option linter.unusedVariables false
set_option linter.unusedSimpArgs false
set_option maxRecDepth 100000

def onceB (V : Rv) (n v : Nat) : Bool := (n == 6 || n == 13) && byteOp .andNot (V n) v == 0 || !(n == 6 || n == 13) && V 13 == 0
def writeE (V : Rv) (n v : Nat) : Nat := if writesB n = false then 2 else if mayV n v = false then 1 else if kindV n = 3 ∧ onceB V n v = false then 22 else 0
def writeV (V : Rv) (n v : Nat) : Rv := if writeE V n v = 0 ∧ kindV n ≠ 2 then updR V n v else V
section
variable {w : World} {R : Nat} {V : Rv}
theorem Write_no (h : RgIs w R V) (n v : Nat) (hv : v < 256) (hw : writesB n = false) : Calls Tryz.prog 214 #[.pointer (some ⟨R, 0, none⟩), .int .i64 n, .int .u8 v] w fun e w' => e = .returned (.int .i64 2) ∧ w' = w := by
  go_enter Tryz.func214, Tryz.ntmps214
  go_wp2_with fail
  refine (writes_any n _).mono ?_
  rintro e w' ⟨rfl, rfl⟩
  rw [hw]
  go_wp2
  go_ret
  exact ⟨rfl, rfl⟩
theorem Write_arg (h : RgIs w R V) (n v : Nat) (hv : v < 256) (hw : writesB n = true) (hm : mayV n v = false) : Calls Tryz.prog 214 #[.pointer (some ⟨R, 0, none⟩), .int .i64 n, .int .u8 v] w fun e w' => e = .returned (.int .i64 1) ∧ w' = w := by
  go_enter Tryz.func214, Tryz.ntmps214
  go_wp2_with fail
  refine (writes_any n _).mono ?_
  rintro e w' ⟨rfl, rfl⟩
  rw [hw]
  go_wp2_with fail
  refine (may_rg n v hv _).mono ?_
  rintro e w' ⟨rfl, rfl⟩
  rw [hm]
  go_wp2
  go_ret
  exact ⟨rfl, rfl⟩
theorem Write_1 (h : RgIs w R V) (n v : Nat) (hv : v < 256) (hw : writesB n = true) (hm : mayV n v = true) (hn : n < 64) (hk : kindV n = 1) : Calls Tryz.prog 214 #[.pointer (some ⟨R, 0, none⟩), .int .i64 n, .int .u8 v] w fun e w' => e = .returned (.int .i64 0) ∧ RgIs w' R (updR V n v) ∧ Turns w w' [R] := by
  have HA := Lib.hid (again_rg h n v hn)
  clear h
  go_enter Tryz.func214, Tryz.ntmps214
  go_wp2_with fail
  refine (writes_any n _).mono ?_
  rintro e w' ⟨rfl, rfl⟩
  rw [hw]
  go_wp2_with fail
  refine (may_rg n v hv _).mono ?_
  rintro e w' ⟨rfl, rfl⟩
  rw [hm]
  go_wp2_with fail
  refine (Kind_any n _).mono ?_
  rintro e w' ⟨rfl, rfl⟩
  rw [hk]
  go_wp2_with fail
  refine HA.out.mono ?_
  rintro e w'' ⟨rfl, h2⟩
  go_wp2
  go_ret
  exact ⟨rfl, h2⟩
theorem Write_2 (h : RgIs w R V) (n v : Nat) (hv : v < 256) (hw : writesB n = true) (hm : mayV n v = true) (hk : kindV n = 2) : Calls Tryz.prog 214 #[.pointer (some ⟨R, 0, none⟩), .int .i64 n, .int .u8 v] w fun e w' => e = .returned (.int .i64 0) ∧ w' = w := by
  clear h
  go_enter Tryz.func214, Tryz.ntmps214
  go_wp2_with fail
  refine (writes_any n _).mono ?_
  rintro e w' ⟨rfl, rfl⟩
  rw [hw]
  go_wp2_with fail
  refine (may_rg n v hv _).mono ?_
  rintro e w' ⟨rfl, rfl⟩
  rw [hm]
  go_wp2_with fail
  refine (Kind_any n _).mono ?_
  rintro e w' ⟨rfl, rfl⟩
  rw [hk]
  go_wp2_with fail
  refine (nothing_rg n v _).mono ?_
  rintro e w'' ⟨rfl, rfl⟩
  go_wp2
  go_ret
  exact ⟨rfl, rfl⟩
theorem Write_3 (h : RgIs w R V) (n v : Nat) (hv : v < 256) (hw : writesB n = true) (hm : mayV n v = true) (hn : n < 64) (hk : kindV n = 3) (ho : onceB V n v = true) : Calls Tryz.prog 214 #[.pointer (some ⟨R, 0, none⟩), .int .i64 n, .int .u8 v] w fun e w' => e = .returned (.int .i64 0) ∧ RgIs w' R (updR V n v) ∧ Turns w w' [R] := by
  have HA := Lib.hid (once_yes h n v hn ho)
  clear h ho
  go_enter Tryz.func214, Tryz.ntmps214
  go_wp2_with fail
  refine (writes_any n _).mono ?_
  rintro e w' ⟨rfl, rfl⟩
  rw [hw]
  go_wp2_with fail
  refine (may_rg n v hv _).mono ?_
  rintro e w' ⟨rfl, rfl⟩
  rw [hm]
  go_wp2_with fail
  refine (Kind_any n _).mono ?_
  rintro e w' ⟨rfl, rfl⟩
  rw [hk]
  go_wp2_with fail
  refine HA.out.mono ?_
  rintro e w'' ⟨rfl, h2⟩
  go_wp2
  go_ret
  exact ⟨rfl, h2⟩
theorem Write_4 (h : RgIs w R V) (n v : Nat) (hv : v < 256) (hw : writesB n = true) (hm : mayV n v = true) (hn : n < 64) (hk : kindV n = 3) (ho : onceB V n v = false) : Calls Tryz.prog 214 #[.pointer (some ⟨R, 0, none⟩), .int .i64 n, .int .u8 v] w fun e w' => e = .returned (.int .i64 22) ∧ w' = w := by
  have HA := Lib.hid (once_no h n v hn ho)
  clear h ho
  go_enter Tryz.func214, Tryz.ntmps214
  go_wp2_with fail
  refine (writes_any n _).mono ?_
  rintro e w' ⟨rfl, rfl⟩
  rw [hw]
  go_wp2_with fail
  refine (may_rg n v hv _).mono ?_
  rintro e w' ⟨rfl, rfl⟩
  rw [hm]
  go_wp2_with fail
  refine (Kind_any n _).mono ?_
  rintro e w' ⟨rfl, rfl⟩
  rw [hk]
  go_wp2_with fail
  refine HA.out.mono ?_
  rintro e w'' ⟨rfl, rfl⟩
  go_wp2
  go_ret
  exact ⟨rfl, rfl⟩
theorem kindV_cases (n : Int) : kindV n = 0 ∨ kindV n = 1 ∨ kindV n = 2 ∨ kindV n = 3 ∨ kindV n = 4 := by
  unfold kindV
  repeat' split
  all_goals simp
/-- A write of a register. -/
theorem Write_rg (h : RgIs w R V) (n v : Nat) (hv : v < 256) : Calls Tryz.prog 214 #[.pointer (some ⟨R, 0, none⟩), .int .i64 n, .int .u8 v] w fun e w' => e = .returned (.int .i64 (writeE V n v : Nat)) ∧ RgIs w' R (writeV V n v) ∧ Turns w w' [R] := by
  have base : ∀ {k : Nat}, writeE V n v = k → k ≠ 0 → Calls Tryz.prog 214 #[.pointer (some ⟨R, 0, none⟩), .int .i64 n, .int .u8 v] w (fun e w' => e = .returned (.int .i64 (k : Nat)) ∧ w' = w) → Calls Tryz.prog 214 #[.pointer (some ⟨R, 0, none⟩), .int .i64 n, .int .u8 v] w fun e w' => e = .returned (.int .i64 (writeE V n v : Nat)) ∧ RgIs w' R (writeV V n v) ∧ Turns w w' [R] := by
    intro k hk h0 hc
    refine hc.mono ?_
    rintro e w' ⟨rfl, rfl⟩
    refine ⟨by rw [hk], ?_, Turns.refl _ _⟩
    unfold writeV
    rw [if_neg (by rw [hk]; exact fun x => h0 x.1)]; exact h
  by_cases hw : writesB n = false
  · exact base (by unfold writeE; rw [if_pos hw]) (by decide) (Write_no h n v hv hw)
  · have hw' : writesB n = true := by simpa using hw
    by_cases hm : mayV n v = false
    · exact base (by unfold writeE; rw [if_neg hw, if_pos hm]) (by decide) (Write_arg h n v hv hw' hm)
    · have hm' : mayV n v = true := by simpa using hm
      have hk : kindV n ≠ 0 ∧ kindV n ≠ 4 := by simpa [writesB] using hw'
      have hn : n < 64 := by have := (kindV_lt hk.1).2; omega
      have e0 : writeE V n v = if kindV n = 3 ∧ onceB V n v = false then 22 else 0 := by unfold writeE; rw [if_neg hw, if_neg hm]
      by_cases h3 : kindV n = 3 ∧ onceB V n v = false
      · exact base (by rw [e0, if_pos h3]) (by decide) (Write_4 h n v hv hw' hm' hn h3.1 h3.2)
      · rw [if_neg h3] at e0
        rcases kindV_cases n with hk1 | hk1 | hk1 | hk1 | hk1
        · exact absurd hk1 hk.1
        · have ev : writeV V n v = updR V n v := by unfold writeV; rw [if_pos ⟨e0, by rw [hk1]; decide⟩]
          rw [e0, ev]; exact Write_1 h n v hv hw' hm' hn hk1
        · have ev : writeV V n v = V := by unfold writeV; rw [if_neg (fun x => x.2 hk1)]
          rw [e0, ev]
          refine (Write_2 h n v hv hw' hm' hk1).mono ?_
          rintro e w' ⟨rfl, rfl⟩
          exact ⟨rfl, h, Turns.refl _ _⟩
        · have ev : writeV V n v = updR V n v := by unfold writeV; rw [if_pos ⟨e0, by rw [hk1]; decide⟩]
          rw [e0, ev]; exact Write_3 h n v hv hw' hm' hn hk1 (by simpa [hk1] using h3)
        · exact absurd hk1 hk.2
end
end Go.Proofs.YtclhhdodebdmjaaGreat
