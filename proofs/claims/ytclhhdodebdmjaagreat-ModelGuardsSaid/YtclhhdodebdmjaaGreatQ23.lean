/- What follows is laid together from several texts of mine, in their order. -/
import Derived.Test.YtclhhdodebdmjaaGreatQ9

namespace Go.Proofs.YtclhhdodebdmjaaGreat
open Go.RowKit Go.MapKept Go.ChangeMaps
set_option linter.unusedVariables false
set_option linter.unusedSimpArgs false
set_option maxRecDepth 100000
theorem rplain_1 (cb cp cs cu co cr cg ca cz : Int) (k1 : btw cb 1 1024 = false) (w : World) : Calls Tryz.prog 94 #[.agg #[.int .i64 cb, .int .i64 cp, .int .i64 cs, .int .i64 cu, .int .i64 co, .int .i64 cr, .int .i64 cg, .int .i64 ca, .int .i64 cz]] w fun e w' => e = .returned (.bool false) ∧ Below w.heap.size w w' := by
  have HB : Hid (Below w.heap.size w (w.alloc (.cells #[.int .i64 cb, .int .i64 cp, .int .i64 cs, .int .i64 cu, .int .i64 co, .int .i64 cr, .int .i64 cg, .int .i64 ca, .int .i64 cz] 23))) := by unfold Hid; (repeat (first | (with_reducible refine Below.drew ?_) | (with_reducible refine below_drewN0 ?_ _) | ((with_reducible refine Below.setCell ?_ ?_ _); rotate_left; focus (first | omega | (simp; done) | (simp; omega) | (simp at *; omega))) | ((with_reducible refine Below.alloc ?_ ?_ _); rotate_left; focus (first | omega | (simp; done) | (simp; omega) | (simp at *; omega))) | (with_reducible exact Below.refl _ _)))
  go_enter Tryz.func94, Tryz.ntmps94
  iterate 1 (go_wp2_with fail; with_reducible refine (rin_any _ _ _ _).mono ?_; rintro e w' ⟨rfl, rfl⟩)
  go_wp2
  go_ret
  exact ⟨rfl, HB.out⟩

theorem rplain_2 (cb cp cs cu co cr cg ca cz : Int) (k1 : btw cb 1 1024 = true) (k2 : btw cp 4 256 = false) (w : World) : Calls Tryz.prog 94 #[.agg #[.int .i64 cb, .int .i64 cp, .int .i64 cs, .int .i64 cu, .int .i64 co, .int .i64 cr, .int .i64 cg, .int .i64 ca, .int .i64 cz]] w fun e w' => e = .returned (.bool false) ∧ Below w.heap.size w w' := by
  have HB : Hid (Below w.heap.size w (w.alloc (.cells #[.int .i64 cb, .int .i64 cp, .int .i64 cs, .int .i64 cu, .int .i64 co, .int .i64 cr, .int .i64 cg, .int .i64 ca, .int .i64 cz] 23))) := by unfold Hid; (repeat (first | (with_reducible refine Below.drew ?_) | (with_reducible refine below_drewN0 ?_ _) | ((with_reducible refine Below.setCell ?_ ?_ _); rotate_left; focus (first | omega | (simp; done) | (simp; omega) | (simp at *; omega))) | ((with_reducible refine Below.alloc ?_ ?_ _); rotate_left; focus (first | omega | (simp; done) | (simp; omega) | (simp at *; omega))) | (with_reducible exact Below.refl _ _)))
  go_enter Tryz.func94, Tryz.ntmps94
  iterate 2 (go_wp2_with fail; with_reducible refine (rin_any _ _ _ _).mono ?_; rintro e w' ⟨rfl, rfl⟩)
  go_wp2
  go_ret
  exact ⟨rfl, HB.out⟩

theorem rplain_3 (cb cp cs cu co cr cg ca cz : Int) (k1 : btw cb 1 1024 = true) (k2 : btw cp 4 256 = true) (k3 : (cp % 2 == 0) = false) (w : World) : Calls Tryz.prog 94 #[.agg #[.int .i64 cb, .int .i64 cp, .int .i64 cs, .int .i64 cu, .int .i64 co, .int .i64 cr, .int .i64 cg, .int .i64 ca, .int .i64 cz]] w fun e w' => e = .returned (.bool false) ∧ Below w.heap.size w w' := by
  have t2 := (btw_iff _ _ _).1 k2
  have m3 : cp.tmod 2 = cp % 2 := Int.tmod_eq_emod_of_nonneg (by omega)
  clear t2
  have HB : Hid (Below w.heap.size w (w.alloc (.cells #[.int .i64 cb, .int .i64 cp, .int .i64 cs, .int .i64 cu, .int .i64 co, .int .i64 cr, .int .i64 cg, .int .i64 ca, .int .i64 cz] 23))) := by unfold Hid; (repeat (first | (with_reducible refine Below.drew ?_) | (with_reducible refine below_drewN0 ?_ _) | ((with_reducible refine Below.setCell ?_ ?_ _); rotate_left; focus (first | omega | (simp; done) | (simp; omega) | (simp at *; omega))) | ((with_reducible refine Below.alloc ?_ ?_ _); rotate_left; focus (first | omega | (simp; done) | (simp; omega) | (simp at *; omega))) | (with_reducible exact Below.refl _ _)))
  go_enter Tryz.func94, Tryz.ntmps94
  iterate 2 (go_wp2_with fail; with_reducible refine (rin_any _ _ _ _).mono ?_; rintro e w' ⟨rfl, rfl⟩)
  go_wp2
  go_ret
  exact ⟨rfl, HB.out⟩

theorem rplain_4 (cb cp cs cu co cr cg ca cz : Int) (k1 : btw cb 1 1024 = true) (k2 : btw cp 4 256 = true) (k3 : (cp % 2 == 0) = true) (k4 : btw cs 128 448 = false) (w : World) : Calls Tryz.prog 94 #[.agg #[.int .i64 cb, .int .i64 cp, .int .i64 cs, .int .i64 cu, .int .i64 co, .int .i64 cr, .int .i64 cg, .int .i64 ca, .int .i64 cz]] w fun e w' => e = .returned (.bool false) ∧ Below w.heap.size w w' := by
  have t2 := (btw_iff _ _ _).1 k2
  have m3 : cp.tmod 2 = cp % 2 := Int.tmod_eq_emod_of_nonneg (by omega)
  clear t2
  have HB : Hid (Below w.heap.size w (w.alloc (.cells #[.int .i64 cb, .int .i64 cp, .int .i64 cs, .int .i64 cu, .int .i64 co, .int .i64 cr, .int .i64 cg, .int .i64 ca, .int .i64 cz] 23))) := by unfold Hid; (repeat (first | (with_reducible refine Below.drew ?_) | (with_reducible refine below_drewN0 ?_ _) | ((with_reducible refine Below.setCell ?_ ?_ _); rotate_left; focus (first | omega | (simp; done) | (simp; omega) | (simp at *; omega))) | ((with_reducible refine Below.alloc ?_ ?_ _); rotate_left; focus (first | omega | (simp; done) | (simp; omega) | (simp at *; omega))) | (with_reducible exact Below.refl _ _)))
  go_enter Tryz.func94, Tryz.ntmps94
  iterate 3 (go_wp2_with fail; with_reducible refine (rin_any _ _ _ _).mono ?_; rintro e w' ⟨rfl, rfl⟩)
  go_wp2
  go_ret
  exact ⟨rfl, HB.out⟩

theorem rplain_5 (cb cp cs cu co cr cg ca cz : Int) (k1 : btw cb 1 1024 = true) (k2 : btw cp 4 256 = true) (k3 : (cp % 2 == 0) = true) (k4 : btw cs 128 448 = true) (k5 : (cs % 64 == 0) = false) (w : World) : Calls Tryz.prog 94 #[.agg #[.int .i64 cb, .int .i64 cp, .int .i64 cs, .int .i64 cu, .int .i64 co, .int .i64 cr, .int .i64 cg, .int .i64 ca, .int .i64 cz]] w fun e w' => e = .returned (.bool false) ∧ Below w.heap.size w w' := by
  have t2 := (btw_iff _ _ _).1 k2
  have t4 := (btw_iff _ _ _).1 k4
  have m3 : cp.tmod 2 = cp % 2 := Int.tmod_eq_emod_of_nonneg (by omega)
  have m5 : cs.tmod 64 = cs % 64 := Int.tmod_eq_emod_of_nonneg (by omega)
  clear t2
  clear t4
  have HB : Hid (Below w.heap.size w (w.alloc (.cells #[.int .i64 cb, .int .i64 cp, .int .i64 cs, .int .i64 cu, .int .i64 co, .int .i64 cr, .int .i64 cg, .int .i64 ca, .int .i64 cz] 23))) := by unfold Hid; (repeat (first | (with_reducible refine Below.drew ?_) | (with_reducible refine below_drewN0 ?_ _) | ((with_reducible refine Below.setCell ?_ ?_ _); rotate_left; focus (first | omega | (simp; done) | (simp; omega) | (simp at *; omega))) | ((with_reducible refine Below.alloc ?_ ?_ _); rotate_left; focus (first | omega | (simp; done) | (simp; omega) | (simp at *; omega))) | (with_reducible exact Below.refl _ _)))
  go_enter Tryz.func94, Tryz.ntmps94
  iterate 3 (go_wp2_with fail; with_reducible refine (rin_any _ _ _ _).mono ?_; rintro e w' ⟨rfl, rfl⟩)
  go_wp2
  go_ret
  exact ⟨rfl, HB.out⟩
end Go.Proofs.YtclhhdodebdmjaaGreat
