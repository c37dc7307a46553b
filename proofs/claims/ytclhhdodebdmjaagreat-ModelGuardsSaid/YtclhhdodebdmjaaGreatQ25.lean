/- What follows is laid together from several texts of mine, in their order. -/
import Derived.Test.YtclhhdodebdmjaaGreatQ24

namespace Go.Proofs.YtclhhdodebdmjaaGreat
open Go.RowKit Go.MapKept Go.ChangeMaps
set_option linter.unusedVariables false
set_option linter.unusedSimpArgs false
set_option maxRecDepth 100000
set_option maxHeartbeats 2000000 in
theorem rplain_10 (cb cp cs cu co cr cg ca cz : Int) (k1 : btw cb 1 1024 = true) (k2 : btw cp 4 256 = true) (k3 : (cp % 2 == 0) = true) (k4 : btw cs 128 448 = true) (k5 : (cs % 64 == 0) = true) (k6 : btw cu 1 16384 = true) (k7 : btw co 1 256 = true) (k8 : btw cr 1 256 = true) (k9 : btw cg 1 cu = true) (k10 : (cu % cg == 0) = false) (w : World) : Calls Tryz.prog 94 #[.agg #[.int .i64 cb, .int .i64 cp, .int .i64 cs, .int .i64 cu, .int .i64 co, .int .i64 cr, .int .i64 cg, .int .i64 ca, .int .i64 cz]] w fun e w' => e = .returned (.bool false) ∧ Below w.heap.size w w' := by
  have t2 := (btw_iff _ _ _).1 k2
  have t4 := (btw_iff _ _ _).1 k4
  have t6 := (btw_iff _ _ _).1 k6
  have t9 := (btw_iff _ _ _).1 k9
  have m3 : cp.tmod 2 = cp % 2 := Int.tmod_eq_emod_of_nonneg (by omega)
  have m5 : cs.tmod 64 = cs % 64 := Int.tmod_eq_emod_of_nonneg (by omega)
  have m10 : cu.tmod cg = cu % cg := Int.tmod_eq_emod_of_nonneg (by omega)
  have m11 : cu.tdiv cg = cu / cg := Int.tdiv_eq_ediv_of_nonneg (by omega)
  have g0 : ¬ cg = 0 := by omega
  have HD : 0 ≤ cu / cg ∧ cu / cg ≤ cu := ⟨Int.ediv_nonneg (by omega) (by omega), Int.ediv_le_self _ (by omega)⟩
  have w11 : wrap64 (cu / cg) = cu / cg := by unfold wrap64; omega
  clear HD
  clear t2
  clear t4
  clear t6
  clear t9
  have HB : Hid (Below w.heap.size w (w.alloc (.cells #[.int .i64 cb, .int .i64 cp, .int .i64 cs, .int .i64 cu, .int .i64 co, .int .i64 cr, .int .i64 cg, .int .i64 ca, .int .i64 cz] 23))) := by unfold Hid; (repeat (first | (with_reducible refine Below.drew ?_) | (with_reducible refine below_drewN0 ?_ _) | ((with_reducible refine Below.setCell ?_ ?_ _); rotate_left; focus (first | omega | (simp; done) | (simp; omega) | (simp at *; omega))) | ((with_reducible refine Below.alloc ?_ ?_ _); rotate_left; focus (first | omega | (simp; done) | (simp; omega) | (simp at *; omega))) | (with_reducible exact Below.refl _ _)))
  go_enter Tryz.func94, Tryz.ntmps94
  iterate 7 (go_wp2_with fail; with_reducible refine (rin_any _ _ _ _).mono ?_; rintro e w' ⟨rfl, rfl⟩)
  go_wp2
  go_ret
  exact ⟨rfl, HB.out⟩
set_option maxHeartbeats 2000000 in
theorem rplain_11 (cb cp cs cu co cr cg ca cz : Int) (k1 : btw cb 1 1024 = true) (k2 : btw cp 4 256 = true) (k3 : (cp % 2 == 0) = true) (k4 : btw cs 128 448 = true) (k5 : (cs % 64 == 0) = true) (k6 : btw cu 1 16384 = true) (k7 : btw co 1 256 = true) (k8 : btw cr 1 256 = true) (k9 : btw cg 1 cu = true) (k10 : (cu % cg == 0) = true) (k11 : ¬ cu / cg ≤ 32) (w : World) : Calls Tryz.prog 94 #[.agg #[.int .i64 cb, .int .i64 cp, .int .i64 cs, .int .i64 cu, .int .i64 co, .int .i64 cr, .int .i64 cg, .int .i64 ca, .int .i64 cz]] w fun e w' => e = .returned (.bool false) ∧ Below w.heap.size w w' := by
  have t2 := (btw_iff _ _ _).1 k2
  have t4 := (btw_iff _ _ _).1 k4
  have t6 := (btw_iff _ _ _).1 k6
  have t9 := (btw_iff _ _ _).1 k9
  have m3 : cp.tmod 2 = cp % 2 := Int.tmod_eq_emod_of_nonneg (by omega)
  have m5 : cs.tmod 64 = cs % 64 := Int.tmod_eq_emod_of_nonneg (by omega)
  have m10 : cu.tmod cg = cu % cg := Int.tmod_eq_emod_of_nonneg (by omega)
  have m11 : cu.tdiv cg = cu / cg := Int.tdiv_eq_ediv_of_nonneg (by omega)
  have g0 : ¬ cg = 0 := by omega
  have HD : 0 ≤ cu / cg ∧ cu / cg ≤ cu := ⟨Int.ediv_nonneg (by omega) (by omega), Int.ediv_le_self _ (by omega)⟩
  have w11 : wrap64 (cu / cg) = cu / cg := by unfold wrap64; omega
  clear HD
  clear t2
  clear t4
  clear t6
  clear t9
  have HB : Hid (Below w.heap.size w (w.alloc (.cells #[.int .i64 cb, .int .i64 cp, .int .i64 cs, .int .i64 cu, .int .i64 co, .int .i64 cr, .int .i64 cg, .int .i64 ca, .int .i64 cz] 23))) := by unfold Hid; (repeat (first | (with_reducible refine Below.drew ?_) | (with_reducible refine below_drewN0 ?_ _) | ((with_reducible refine Below.setCell ?_ ?_ _); rotate_left; focus (first | omega | (simp; done) | (simp; omega) | (simp at *; omega))) | ((with_reducible refine Below.alloc ?_ ?_ _); rotate_left; focus (first | omega | (simp; done) | (simp; omega) | (simp at *; omega))) | (with_reducible exact Below.refl _ _)))
  go_enter Tryz.func94, Tryz.ntmps94
  iterate 7 (go_wp2_with fail; with_reducible refine (rin_any _ _ _ _).mono ?_; rintro e w' ⟨rfl, rfl⟩)
  go_wp2
  go_ret
  exact ⟨rfl, HB.out⟩
set_option maxHeartbeats 2000000 in
theorem rplain_12 (cb cp cs cu co cr cg ca cz : Int) (k1 : btw cb 1 1024 = true) (k2 : btw cp 4 256 = true) (k3 : (cp % 2 == 0) = true) (k4 : btw cs 128 448 = true) (k5 : (cs % 64 == 0) = true) (k6 : btw cu 1 16384 = true) (k7 : btw co 1 256 = true) (k8 : btw cr 1 256 = true) (k9 : btw cg 1 cu = true) (k10 : (cu % cg == 0) = true) (k11 : cu / cg ≤ 32) (k12 : btw ca 0 64 = false) (w : World) : Calls Tryz.prog 94 #[.agg #[.int .i64 cb, .int .i64 cp, .int .i64 cs, .int .i64 cu, .int .i64 co, .int .i64 cr, .int .i64 cg, .int .i64 ca, .int .i64 cz]] w fun e w' => e = .returned (.bool false) ∧ Below w.heap.size w w' := by
  have t2 := (btw_iff _ _ _).1 k2
  have t4 := (btw_iff _ _ _).1 k4
  have t6 := (btw_iff _ _ _).1 k6
  have t9 := (btw_iff _ _ _).1 k9
  have m3 : cp.tmod 2 = cp % 2 := Int.tmod_eq_emod_of_nonneg (by omega)
  have m5 : cs.tmod 64 = cs % 64 := Int.tmod_eq_emod_of_nonneg (by omega)
  have m10 : cu.tmod cg = cu % cg := Int.tmod_eq_emod_of_nonneg (by omega)
  have m11 : cu.tdiv cg = cu / cg := Int.tdiv_eq_ediv_of_nonneg (by omega)
  have g0 : ¬ cg = 0 := by omega
  have HD : 0 ≤ cu / cg ∧ cu / cg ≤ cu := ⟨Int.ediv_nonneg (by omega) (by omega), Int.ediv_le_self _ (by omega)⟩
  have w11 : wrap64 (cu / cg) = cu / cg := by unfold wrap64; omega
  clear HD
  clear t2
  clear t4
  clear t6
  clear t9
  have HB : Hid (Below w.heap.size w (w.alloc (.cells #[.int .i64 cb, .int .i64 cp, .int .i64 cs, .int .i64 cu, .int .i64 co, .int .i64 cr, .int .i64 cg, .int .i64 ca, .int .i64 cz] 23))) := by unfold Hid; (repeat (first | (with_reducible refine Below.drew ?_) | (with_reducible refine below_drewN0 ?_ _) | ((with_reducible refine Below.setCell ?_ ?_ _); rotate_left; focus (first | omega | (simp; done) | (simp; omega) | (simp at *; omega))) | ((with_reducible refine Below.alloc ?_ ?_ _); rotate_left; focus (first | omega | (simp; done) | (simp; omega) | (simp at *; omega))) | (with_reducible exact Below.refl _ _)))
  go_enter Tryz.func94, Tryz.ntmps94
  iterate 8 (go_wp2_with fail; with_reducible refine (rin_any _ _ _ _).mono ?_; rintro e w' ⟨rfl, rfl⟩)
  go_wp2
  go_ret
  exact ⟨rfl, HB.out⟩
end Go.Proofs.YtclhhdodebdmjaaGreat
