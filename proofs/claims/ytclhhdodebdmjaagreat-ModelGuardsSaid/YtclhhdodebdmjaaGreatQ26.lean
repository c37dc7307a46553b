/- What follows is laid together from several texts of mine, in their order. -/
import Derived.Test.YtclhhdodebdmjaaGreatQ25
import Derived.Test.YtclhhdodebdmjaaGreatQ9

namespace Go.Proofs.YtclhhdodebdmjaaGreat
open Go.RowKit Go.MapKept Go.ChangeMaps
set_option linter.unusedVariables false
set_option linter.unusedSimpArgs false
set_option maxRecDepth 100000
open Classical in
theorem plB_true {c : Cf} (h : Plain c) : plB c = true := by unfold plB; exact decide_eq_true h
open Classical in
theorem plB_false {c : Cf} (h : ¬ Plain c) : plB c = false := by unfold plB; exact decide_eq_false h
set_option maxHeartbeats 2000000 in
theorem rplain_13 (cb cp cs cu co cr cg ca cz : Int) (k1 : btw cb 1 1024 = true) (k2 : btw cp 4 256 = true) (k3 : (cp % 2 == 0) = true) (k4 : btw cs 128 448 = true) (k5 : (cs % 64 == 0) = true) (k6 : btw cu 1 16384 = true) (k7 : btw co 1 256 = true) (k8 : btw cr 1 256 = true) (k9 : btw cg 1 cu = true) (k10 : (cu % cg == 0) = true) (k11 : cu / cg ≤ 32) (k12 : btw ca 0 64 = true) (k13 : btw cz 0 cb = false) (w : World) : Calls Tryz.prog 94 #[.agg #[.int .i64 cb, .int .i64 cp, .int .i64 cs, .int .i64 cu, .int .i64 co, .int .i64 cr, .int .i64 cg, .int .i64 ca, .int .i64 cz]] w fun e w' => e = .returned (.bool false) ∧ Below w.heap.size w w' := by
  have t2 := (btw_iff _ _ _).1 k2
  have t4 := (btw_iff _ _ _).1 k4
  have t6 := (btw_iff _ _ _).1 k6
  have t9 := (btw_iff _ _ _).1 k9
  have m3 : cp.tmod 2 = cp % 2 := Int.tmod_eq_emod_of_nonneg (by omega)
  have m5 : cs.tmod 64 = cs % 64 := Int.tmod_eq_emod_of_nonneg (by omega)
  have m10 : cu.tmod cg = cu % cg := Int.tmod_eq_emod_of_nonneg (by omega)
  have m11 : cu.tdiv cg = cu / cg := Int.tdiv_eq_ediv_of_nonneg (by omega)
  have g0 : ¬ cg = 0 := by omega
  have HD : 0 ≤ cu / cg ∧ cu / cg ≤ cu := ⟨Int.ediv_nonneg (by omega) (by omega), Int.ediv_le_self _ (by omega)⟩
  have w11 : wrap64 (cu / cg) = cu / cg := by unfold wrap64; omega
  clear HD
  clear t2
  clear t4
  clear t6
  clear t9
  have HB : Hid (Below w.heap.size w (w.alloc (.cells #[.int .i64 cb, .int .i64 cp, .int .i64 cs, .int .i64 cu, .int .i64 co, .int .i64 cr, .int .i64 cg, .int .i64 ca, .int .i64 cz] 23))) := by unfold Hid; (repeat (first | (with_reducible refine Below.drew ?_) | (with_reducible refine below_drewN0 ?_ _) | ((with_reducible refine Below.setCell ?_ ?_ _); rotate_left; focus (first | omega | (simp; done) | (simp; omega) | (simp at *; omega))) | ((with_reducible refine Below.alloc ?_ ?_ _); rotate_left; focus (first | omega | (simp; done) | (simp; omega) | (simp at *; omega))) | (with_reducible exact Below.refl _ _)))
  go_enter Tryz.func94, Tryz.ntmps94
  iterate 9 (go_wp2_with fail; with_reducible refine (rin_any _ _ _ _).mono ?_; rintro e w' ⟨rfl, rfl⟩)
  go_wp2
  go_ret
  exact ⟨rfl, HB.out⟩
set_option maxHeartbeats 2000000 in
theorem rplain_14 (cb cp cs cu co cr cg ca cz : Int) (k1 : btw cb 1 1024 = true) (k2 : btw cp 4 256 = true) (k3 : (cp % 2 == 0) = true) (k4 : btw cs 128 448 = true) (k5 : (cs % 64 == 0) = true) (k6 : btw cu 1 16384 = true) (k7 : btw co 1 256 = true) (k8 : btw cr 1 256 = true) (k9 : btw cg 1 cu = true) (k10 : (cu % cg == 0) = true) (k11 : cu / cg ≤ 32) (k12 : btw ca 0 64 = true) (k13 : btw cz 0 cb = true) (w : World) : Calls Tryz.prog 94 #[.agg #[.int .i64 cb, .int .i64 cp, .int .i64 cs, .int .i64 cu, .int .i64 co, .int .i64 cr, .int .i64 cg, .int .i64 ca, .int .i64 cz]] w fun e w' => e = .returned (.bool true) ∧ Below w.heap.size w w' := by
  have t2 := (btw_iff _ _ _).1 k2
  have t4 := (btw_iff _ _ _).1 k4
  have t6 := (btw_iff _ _ _).1 k6
  have t9 := (btw_iff _ _ _).1 k9
  have m3 : cp.tmod 2 = cp % 2 := Int.tmod_eq_emod_of_nonneg (by omega)
  have m5 : cs.tmod 64 = cs % 64 := Int.tmod_eq_emod_of_nonneg (by omega)
  have m10 : cu.tmod cg = cu % cg := Int.tmod_eq_emod_of_nonneg (by omega)
  have m11 : cu.tdiv cg = cu / cg := Int.tdiv_eq_ediv_of_nonneg (by omega)
  have g0 : ¬ cg = 0 := by omega
  have HD : 0 ≤ cu / cg ∧ cu / cg ≤ cu := ⟨Int.ediv_nonneg (by omega) (by omega), Int.ediv_le_self _ (by omega)⟩
  have w11 : wrap64 (cu / cg) = cu / cg := by unfold wrap64; omega
  clear HD
  clear t2
  clear t4
  clear t6
  clear t9
  have HB : Hid (Below w.heap.size w (w.alloc (.cells #[.int .i64 cb, .int .i64 cp, .int .i64 cs, .int .i64 cu, .int .i64 co, .int .i64 cr, .int .i64 cg, .int .i64 ca, .int .i64 cz] 23))) := by unfold Hid; (repeat (first | (with_reducible refine Below.drew ?_) | (with_reducible refine below_drewN0 ?_ _) | ((with_reducible refine Below.setCell ?_ ?_ _); rotate_left; focus (first | omega | (simp; done) | (simp; omega) | (simp at *; omega))) | ((with_reducible refine Below.alloc ?_ ?_ _); rotate_left; focus (first | omega | (simp; done) | (simp; omega) | (simp at *; omega))) | (with_reducible exact Below.refl _ _)))
  go_enter Tryz.func94, Tryz.ntmps94
  iterate 9 (go_wp2_with fail; with_reducible refine (rin_any _ _ _ _).mono ?_; rintro e w' ⟨rfl, rfl⟩)
  go_wp2
  go_ret
  exact ⟨rfl, HB.out⟩
theorem rplain_any (c : Cf) (w : World) : Calls Tryz.prog 94 #[.agg c.l.toArray] w fun e w' => e = .returned (.bool (plB c)) ∧ Below w.heap.size w w' := by
  obtain ⟨cb, cp, cs, cu, co, cr, cg, ca, cz⟩ := c
  have no : ¬ Plain ⟨cb, cp, cs, cu, co, cr, cg, ca, cz⟩ → plB ⟨cb, cp, cs, cu, co, cr, cg, ca, cz⟩ = false := fun h => by exact plB_false h
  by_cases h1 : btw cb 1 1024 = true
  case neg => exact (by rw [no (fun hp => h1 hp.k1)]; exact rplain_1 cb cp cs cu co cr cg ca cz  (by simpa using h1) w)
  by_cases h2 : btw cp 4 256 = true
  case neg => exact (by rw [no (fun hp => h2 hp.k2)]; exact rplain_2 cb cp cs cu co cr cg ca cz h1 (by simpa using h2) w)
  by_cases h3 : (cp % 2 == 0) = true
  case neg => exact (by rw [no (fun hp => h3 hp.k3)]; exact rplain_3 cb cp cs cu co cr cg ca cz h1 h2 (by simpa using h3) w)
  by_cases h4 : btw cs 128 448 = true
  case neg => exact (by rw [no (fun hp => h4 hp.k4)]; exact rplain_4 cb cp cs cu co cr cg ca cz h1 h2 h3 (by simpa using h4) w)
  by_cases h5 : (cs % 64 == 0) = true
  case neg => exact (by rw [no (fun hp => h5 hp.k5)]; exact rplain_5 cb cp cs cu co cr cg ca cz h1 h2 h3 h4 (by simpa using h5) w)
  by_cases h6 : btw cu 1 16384 = true
  case neg => exact (by rw [no (fun hp => h6 hp.k6)]; exact rplain_6 cb cp cs cu co cr cg ca cz h1 h2 h3 h4 h5 (by simpa using h6) w)
  by_cases h7 : btw co 1 256 = true
  case neg => exact (by rw [no (fun hp => h7 hp.k7)]; exact rplain_7 cb cp cs cu co cr cg ca cz h1 h2 h3 h4 h5 h6 (by simpa using h7) w)
  by_cases h8 : btw cr 1 256 = true
  case neg => exact (by rw [no (fun hp => h8 hp.k8)]; exact rplain_8 cb cp cs cu co cr cg ca cz h1 h2 h3 h4 h5 h6 h7 (by simpa using h8) w)
  by_cases h9 : btw cg 1 cu = true
  case neg => exact (by rw [no (fun hp => h9 hp.k9)]; exact rplain_9 cb cp cs cu co cr cg ca cz h1 h2 h3 h4 h5 h6 h7 h8 (by simpa using h9) w)
  by_cases h10 : (cu % cg == 0) = true
  case neg => exact (by rw [no (fun hp => h10 hp.k10)]; exact rplain_10 cb cp cs cu co cr cg ca cz h1 h2 h3 h4 h5 h6 h7 h8 h9 (by simpa using h10) w)
  by_cases h11 : cu / cg ≤ 32
  case neg => exact (by rw [no (fun hp => h11 hp.k11)]; exact rplain_11 cb cp cs cu co cr cg ca cz h1 h2 h3 h4 h5 h6 h7 h8 h9 h10 h11 w)
  by_cases h12 : btw ca 0 64 = true
  case neg => exact (by rw [no (fun hp => h12 hp.k12)]; exact rplain_12 cb cp cs cu co cr cg ca cz h1 h2 h3 h4 h5 h6 h7 h8 h9 h10 h11 (by simpa using h12) w)
  by_cases h13 : btw cz 0 cb = true
  case neg => exact (by rw [no (fun hp => h13 hp.k13)]; exact rplain_13 cb cp cs cu co cr cg ca cz h1 h2 h3 h4 h5 h6 h7 h8 h9 h10 h11 h12 (by simpa using h13) w)
  have hp : Plain ⟨cb, cp, cs, cu, co, cr, cg, ca, cz⟩ := ⟨h1, h2, h3, h4, h5, h6, h7, h8, h9, h10, h11, h12, h13⟩
  rw [show plB ⟨cb, cp, cs, cu, co, cr, cg, ca, cz⟩ = true from plB_true hp]; exact rplain_14 cb cp cs cu co cr cg ca cz h1 h2 h3 h4 h5 h6 h7 h8 h9 h10 h11 h12 h13 w
end Go.Proofs.YtclhhdodebdmjaaGreat

namespace Go.Proofs.YtclhhdodebdmjaaGreat
open Go.RowKit Go.MapKept Go.ChangeMaps
set_option linter.unusedVariables false
set_option linter.unusedSimpArgs false
set_option maxRecDepth 100000
set_option maxHeartbeats 1000000 in
theorem rNeed_any (c : Cf) (e : Int) (he : 0 ≤ e ∧ e ≤ c.user) (hu : 1 ≤ c.user ∧ c.user ≤ 16384) (hp : 4 ≤ c.pages ∧ c.pages ≤ 256) (ho : 1 ≤ c.boot ∧ c.boot ≤ 256) (hr : 1 ≤ c.rpa ∧ c.rpa ≤ 256) (hz : 0 ≤ c.spare ∧ c.spare ≤ 1024) (w : World) : Calls Tryz.prog 95 #[.agg c.l.toArray, .int .i64 e] w fun e' w' => e' = .returned (.int .i64 (needV c e)) ∧ Below w.heap.size w w' := by
  obtain ⟨cb, cp, cs, cu, co, cr, cg, ca, cz⟩ := c
  simp only [Cf.l] at *
  have u1 := upV_le (cu - e) cp (by omega) (by omega)
  have u2 := upV_le (upV (cu - e) cp) 2 u1.1 (by omega)
  have u3 := upV_le (e + 2 * co + cr) (cp / 2) (by omega) (by omega)
  have u4 := upV_le (upV (e + 2 * co + cr) (cp / 2)) 2 u3.1 (by omega)
  have HN : Hid (needV ⟨cb, cp, cs, cu, co, cr, cg, ca, cz⟩ e = upV (cu - e) cp + upV (upV (cu - e) cp) 2 + upV (e + 2 * co + cr) (cp / 2) + upV (upV (e + 2 * co + cr) (cp / 2)) 2 + 24 + cz) := by
    unfold Hid needV blocksV
    simp only
    rw [show 2 * co + cr + e = e + 2 * co + cr by omega]
    omega
  have B1 : ∀ w', Hid _ := fun w' => Lib.hid (rup_any (cu - e) cp (by omega) (by omega) w')
  have B2 : ∀ w', Hid _ := fun w' => Lib.hid (rup_any (upV (cu - e) cp) 2 (by omega) (by omega) w')
  have B3 : ∀ w', Hid _ := fun w' => Lib.hid (rup_any (e + 2 * co + cr) (cp / 2) (by omega) (by omega) w')
  have B4 : ∀ w', Hid _ := fun w' => Lib.hid (rup_any (upV (e + 2 * co + cr) (cp / 2)) 2 (by omega) (by omega) w')
  generalize upV (upV (cu - e) cp) 2 = v2 at *
  generalize upV (upV (e + 2 * co + cr) (cp / 2)) 2 = v4 at *
  generalize upV (cu - e) cp = v1 at *
  generalize upV (e + 2 * co + cr) (cp / 2) = v3 at *
  have hp2 : cp.tdiv 2 = cp / 2 := Int.tdiv_eq_ediv_of_nonneg (by omega)
  have he0 : ¬ e < 0 := by omega
  have he1 : ¬ cu < e := by omega
  have HB : Hid (Below w.heap.size w (w.alloc (.cells #[.int .i64 cb, .int .i64 cp, .int .i64 cs, .int .i64 cu, .int .i64 co, .int .i64 cr, .int .i64 cg, .int .i64 ca, .int .i64 cz] 23))) := by unfold Hid; (repeat (first | (with_reducible refine Below.drew ?_) | (with_reducible refine below_drewN0 ?_ _) | ((with_reducible refine Below.setCell ?_ ?_ _); rotate_left; focus (first | omega | (simp; done) | (simp; omega) | (simp at *; omega))) | ((with_reducible refine Below.alloc ?_ ?_ _); rotate_left; focus (first | omega | (simp; done) | (simp; omega) | (simp at *; omega))) | (with_reducible exact Below.refl _ _)))
  have s1 : wrap64 (cu - e) = cu - e := by unfold wrap64; omega
  have s2 : wrap64 (2 * co) = 2 * co := by unfold wrap64; omega
  have s3 : wrap64 (e + 2 * co) = e + 2 * co := by unfold wrap64; omega
  have s4 : wrap64 (e + 2 * co + cr) = e + 2 * co + cr := by unfold wrap64; omega
  have s5 : wrap64 (v1 + v2) = v1 + v2 := by unfold wrap64; omega
  have s6 : wrap64 (v1 + v2 + v3) = v1 + v2 + v3 := by unfold wrap64; omega
  have s7 : wrap64 (v1 + v2 + v3 + v4) = v1 + v2 + v3 + v4 := by unfold wrap64; omega
  have s8 : wrap64 (v1 + v2 + v3 + v4 + 24) = v1 + v2 + v3 + v4 + 24 := by unfold wrap64; omega
  have s9 : wrap64 (v1 + v2 + v3 + v4 + 24 + cz) = v1 + v2 + v3 + v4 + 24 + cz := by unfold wrap64; omega
  clear u1 u2 u3 u4
  go_enter Tryz.func95, Tryz.ntmps95
  go_wp2_with fail
  with_reducible refine (B1 _).out.mono ?_
  rintro e' w' ⟨rfl, rfl⟩
  go_wp2_with fail
  with_reducible refine (B3 _).out.mono ?_
  rintro e' w' ⟨rfl, rfl⟩
  go_wp2_with fail
  go_quiet ((go_at_call 162; (first | (with_reducible exact Calls.quiet_of_same (B2 _).out) | (with_reducible exact Calls.quiet_of_same (B4 _).out))))
  go_wp2
  go_ret
  exact ⟨Eq.trans (b := .returned (.int .i64 (wrap64 (v1 + v2 + v3 + v4 + 24 + cz)))) rfl (by rw [HN.out, s9]), below_drewN0 HB.out _⟩

theorem rCheck_a (c : Cf) (hp : ¬ Plain c) (w : World) : Calls Tryz.prog 34 #[.agg c.l.toArray] w fun e w' => e = .returned (.int .i64 1) ∧ Below w.heap.size w w' := by
  have HPl : ∀ wr, Hid _ := fun wr => Lib.hid (rplain_any c wr)
  rw [show plB c = false from plB_false hp] at HPl
  clear hp
  obtain ⟨cb, cp, cs, cu, co, cr, cg, ca, cz⟩ := c
  simp only [Cf.l] at *
  obtain ⟨wA, hwA⟩ : ∃ wA, wA = (w.alloc (.cells #[.int .i64 cb, .int .i64 cp, .int .i64 cs, .int .i64 cu, .int .i64 co, .int .i64 cr, .int .i64 cg, .int .i64 ca, .int .i64 cz] 23)) := ⟨_, rfl⟩
  have HB : Hid (Below w.heap.size w wA) := by unfold Hid; rw [hwA]; (repeat (first | (with_reducible refine Below.drew ?_) | (with_reducible refine below_drewN0 ?_ _) | ((with_reducible refine Below.setCell ?_ ?_ _); rotate_left; focus (first | omega | (simp; done) | (simp; omega) | (simp at *; omega))) | ((with_reducible refine Below.alloc ?_ ?_ _); rotate_left; focus (first | omega | (simp; done) | (simp; omega) | (simp at *; omega))) | (with_reducible exact Below.refl _ _)))
  have HR : Hid (Row wA w.heap.size 23 #[.int .i64 cb, .int .i64 cp, .int .i64 cs, .int .i64 cu, .int .i64 co, .int .i64 cr, .int .i64 cg, .int .i64 ca, .int .i64 cz]) := by unfold Hid; rw [hwA]; exact Row.fresh w _ _
  have r0 : ∀ t : Later wA, t.u.cell? ⟨w.heap.size, 0, none⟩ = some (.int .i64 cb) := fun t => by rw [(HR.out.below t.h HR.out.lt).cell]; rfl
  have r1 : ∀ t : Later wA, t.u.cell? ⟨w.heap.size, 1, none⟩ = some (.int .i64 cp) := fun t => by rw [(HR.out.below t.h HR.out.lt).cell]; rfl
  have r2 : ∀ t : Later wA, t.u.cell? ⟨w.heap.size, 2, none⟩ = some (.int .i64 cs) := fun t => by rw [(HR.out.below t.h HR.out.lt).cell]; rfl
  have r3 : ∀ t : Later wA, t.u.cell? ⟨w.heap.size, 3, none⟩ = some (.int .i64 cu) := fun t => by rw [(HR.out.below t.h HR.out.lt).cell]; rfl
  have r4 : ∀ t : Later wA, t.u.cell? ⟨w.heap.size, 4, none⟩ = some (.int .i64 co) := fun t => by rw [(HR.out.below t.h HR.out.lt).cell]; rfl
  have r5 : ∀ t : Later wA, t.u.cell? ⟨w.heap.size, 5, none⟩ = some (.int .i64 cr) := fun t => by rw [(HR.out.below t.h HR.out.lt).cell]; rfl
  have r6 : ∀ t : Later wA, t.u.cell? ⟨w.heap.size, 6, none⟩ = some (.int .i64 cg) := fun t => by rw [(HR.out.below t.h HR.out.lt).cell]; rfl
  have r7 : ∀ t : Later wA, t.u.cell? ⟨w.heap.size, 7, none⟩ = some (.int .i64 ca) := fun t => by rw [(HR.out.below t.h HR.out.lt).cell]; rfl
  have r8 : ∀ t : Later wA, t.u.cell? ⟨w.heap.size, 8, none⟩ = some (.int .i64 cz) := fun t => by rw [(HR.out.below t.h HR.out.lt).cell]; rfl
  go_enter Tryz.func34, Tryz.ntmps34
  go_wp2_with fail
  rw [← hwA]
  clear hwA
  refine region_later (by kernel_rfl) (by kernel_rfl) ?_
  repeat (go_big_quiet_step ((go_at_call 94; exact Later.call (HPl _).out)))
  refine wpQuiet_nil ?_
  intro t
  clear r0 r1 r2 r3 r4 r5 r6 r7 r8
  go_wp2
  go_ret
  exact ⟨rfl, HB.out.trans (t.h.mono HB.out.size)⟩
theorem rCheck_b (c : Cf) (hp : Plain c) (hn : needV c 0 > c.blocks) (w : World) : Calls Tryz.prog 34 #[.agg c.l.toArray] w fun e w' => e = .returned (.int .i64 1) ∧ Below w.heap.size w w' := by
  have HPl : ∀ wr, Hid _ := fun wr => Lib.hid (rplain_any c wr)
  rw [show plB c = true from plB_true hp] at HPl
  have t1 := (btw_iff _ _ _).1 hp.k1
  have t2 := (btw_iff _ _ _).1 hp.k2
  have t6 := (btw_iff _ _ _).1 hp.k6
  have t7 := (btw_iff _ _ _).1 hp.k7
  have t8 := (btw_iff _ _ _).1 hp.k8
  have t13 := (btw_iff _ _ _).1 hp.k13
  have HNd : ∀ wr, Hid _ := fun wr => Lib.hid (rNeed_any c 0 (by omega) (by omega) (by omega) (by omega) (by omega) (by omega) wr)
  clear t1
  clear t2
  clear t6
  clear t7
  clear t8
  clear t13
  generalize needV c 0 = nd at *
  clear hp
  obtain ⟨cb, cp, cs, cu, co, cr, cg, ca, cz⟩ := c
  simp only [Cf.l] at *
  obtain ⟨wA, hwA⟩ : ∃ wA, wA = (w.alloc (.cells #[.int .i64 cb, .int .i64 cp, .int .i64 cs, .int .i64 cu, .int .i64 co, .int .i64 cr, .int .i64 cg, .int .i64 ca, .int .i64 cz] 23)) := ⟨_, rfl⟩
  have HB : Hid (Below w.heap.size w wA) := by unfold Hid; rw [hwA]; (repeat (first | (with_reducible refine Below.drew ?_) | (with_reducible refine below_drewN0 ?_ _) | ((with_reducible refine Below.setCell ?_ ?_ _); rotate_left; focus (first | omega | (simp; done) | (simp; omega) | (simp at *; omega))) | ((with_reducible refine Below.alloc ?_ ?_ _); rotate_left; focus (first | omega | (simp; done) | (simp; omega) | (simp at *; omega))) | (with_reducible exact Below.refl _ _)))
  have HR : Hid (Row wA w.heap.size 23 #[.int .i64 cb, .int .i64 cp, .int .i64 cs, .int .i64 cu, .int .i64 co, .int .i64 cr, .int .i64 cg, .int .i64 ca, .int .i64 cz]) := by unfold Hid; rw [hwA]; exact Row.fresh w _ _
  have r0 : ∀ t : Later wA, t.u.cell? ⟨w.heap.size, 0, none⟩ = some (.int .i64 cb) := fun t => by rw [(HR.out.below t.h HR.out.lt).cell]; rfl
  have r1 : ∀ t : Later wA, t.u.cell? ⟨w.heap.size, 1, none⟩ = some (.int .i64 cp) := fun t => by rw [(HR.out.below t.h HR.out.lt).cell]; rfl
  have r2 : ∀ t : Later wA, t.u.cell? ⟨w.heap.size, 2, none⟩ = some (.int .i64 cs) := fun t => by rw [(HR.out.below t.h HR.out.lt).cell]; rfl
  have r3 : ∀ t : Later wA, t.u.cell? ⟨w.heap.size, 3, none⟩ = some (.int .i64 cu) := fun t => by rw [(HR.out.below t.h HR.out.lt).cell]; rfl
  have r4 : ∀ t : Later wA, t.u.cell? ⟨w.heap.size, 4, none⟩ = some (.int .i64 co) := fun t => by rw [(HR.out.below t.h HR.out.lt).cell]; rfl
  have r5 : ∀ t : Later wA, t.u.cell? ⟨w.heap.size, 5, none⟩ = some (.int .i64 cr) := fun t => by rw [(HR.out.below t.h HR.out.lt).cell]; rfl
  have r6 : ∀ t : Later wA, t.u.cell? ⟨w.heap.size, 6, none⟩ = some (.int .i64 cg) := fun t => by rw [(HR.out.below t.h HR.out.lt).cell]; rfl
  have r7 : ∀ t : Later wA, t.u.cell? ⟨w.heap.size, 7, none⟩ = some (.int .i64 ca) := fun t => by rw [(HR.out.below t.h HR.out.lt).cell]; rfl
  have r8 : ∀ t : Later wA, t.u.cell? ⟨w.heap.size, 8, none⟩ = some (.int .i64 cz) := fun t => by rw [(HR.out.below t.h HR.out.lt).cell]; rfl
  go_enter Tryz.func34, Tryz.ntmps34
  go_wp2_with fail
  rw [← hwA]
  clear hwA
  refine region_later (by kernel_rfl) (by kernel_rfl) ?_
  repeat (go_big_quiet_step ((first | (go_at_call 94; exact Later.call (HPl _).out) | (go_at_call 95; exact Later.call (HNd _).out))))
  refine wpQuiet_nil ?_
  intro t
  clear r0 r1 r2 r3 r4 r5 r6 r7 r8
  go_wp2
  go_ret
  exact ⟨rfl, HB.out.trans (t.h.mono HB.out.size)⟩
theorem rCheck_c (c : Cf) (hp : Plain c) (hn : ¬ needV c 0 > c.blocks) (w : World) : Calls Tryz.prog 34 #[.agg c.l.toArray] w fun e w' => e = .returned (.int .i64 0) ∧ Below w.heap.size w w' := by
  have HPl : ∀ wr, Hid _ := fun wr => Lib.hid (rplain_any c wr)
  rw [show plB c = true from plB_true hp] at HPl
  have t1 := (btw_iff _ _ _).1 hp.k1
  have t2 := (btw_iff _ _ _).1 hp.k2
  have t6 := (btw_iff _ _ _).1 hp.k6
  have t7 := (btw_iff _ _ _).1 hp.k7
  have t8 := (btw_iff _ _ _).1 hp.k8
  have t13 := (btw_iff _ _ _).1 hp.k13
  have HNd : ∀ wr, Hid _ := fun wr => Lib.hid (rNeed_any c 0 (by omega) (by omega) (by omega) (by omega) (by omega) (by omega) wr)
  clear t1
  clear t2
  clear t6
  clear t7
  clear t8
  clear t13
  generalize needV c 0 = nd at *
  clear hp
  obtain ⟨cb, cp, cs, cu, co, cr, cg, ca, cz⟩ := c
  simp only [Cf.l] at *
  obtain ⟨wA, hwA⟩ : ∃ wA, wA = (w.alloc (.cells #[.int .i64 cb, .int .i64 cp, .int .i64 cs, .int .i64 cu, .int .i64 co, .int .i64 cr, .int .i64 cg, .int .i64 ca, .int .i64 cz] 23)) := ⟨_, rfl⟩
  have HB : Hid (Below w.heap.size w wA) := by unfold Hid; rw [hwA]; (repeat (first | (with_reducible refine Below.drew ?_) | (with_reducible refine below_drewN0 ?_ _) | ((with_reducible refine Below.setCell ?_ ?_ _); rotate_left; focus (first | omega | (simp; done) | (simp; omega) | (simp at *; omega))) | ((with_reducible refine Below.alloc ?_ ?_ _); rotate_left; focus (first | omega | (simp; done) | (simp; omega) | (simp at *; omega))) | (with_reducible exact Below.refl _ _)))
  have HR : Hid (Row wA w.heap.size 23 #[.int .i64 cb, .int .i64 cp, .int .i64 cs, .int .i64 cu, .int .i64 co, .int .i64 cr, .int .i64 cg, .int .i64 ca, .int .i64 cz]) := by unfold Hid; rw [hwA]; exact Row.fresh w _ _
  have r0 : ∀ t : Later wA, t.u.cell? ⟨w.heap.size, 0, none⟩ = some (.int .i64 cb) := fun t => by rw [(HR.out.below t.h HR.out.lt).cell]; rfl
  have r1 : ∀ t : Later wA, t.u.cell? ⟨w.heap.size, 1, none⟩ = some (.int .i64 cp) := fun t => by rw [(HR.out.below t.h HR.out.lt).cell]; rfl
  have r2 : ∀ t : Later wA, t.u.cell? ⟨w.heap.size, 2, none⟩ = some (.int .i64 cs) := fun t => by rw [(HR.out.below t.h HR.out.lt).cell]; rfl
  have r3 : ∀ t : Later wA, t.u.cell? ⟨w.heap.size, 3, none⟩ = some (.int .i64 cu) := fun t => by rw [(HR.out.below t.h HR.out.lt).cell]; rfl
  have r4 : ∀ t : Later wA, t.u.cell? ⟨w.heap.size, 4, none⟩ = some (.int .i64 co) := fun t => by rw [(HR.out.below t.h HR.out.lt).cell]; rfl
  have r5 : ∀ t : Later wA, t.u.cell? ⟨w.heap.size, 5, none⟩ = some (.int .i64 cr) := fun t => by rw [(HR.out.below t.h HR.out.lt).cell]; rfl
  have r6 : ∀ t : Later wA, t.u.cell? ⟨w.heap.size, 6, none⟩ = some (.int .i64 cg) := fun t => by rw [(HR.out.below t.h HR.out.lt).cell]; rfl
  have r7 : ∀ t : Later wA, t.u.cell? ⟨w.heap.size, 7, none⟩ = some (.int .i64 ca) := fun t => by rw [(HR.out.below t.h HR.out.lt).cell]; rfl
  have r8 : ∀ t : Later wA, t.u.cell? ⟨w.heap.size, 8, none⟩ = some (.int .i64 cz) := fun t => by rw [(HR.out.below t.h HR.out.lt).cell]; rfl
  go_enter Tryz.func34, Tryz.ntmps34
  go_wp2_with fail
  rw [← hwA]
  clear hwA
  refine region_later (by kernel_rfl) (by kernel_rfl) ?_
  repeat (go_big_quiet_step ((first | (go_at_call 94; exact Later.call (HPl _).out) | (go_at_call 95; exact Later.call (HNd _).out))))
  refine wpQuiet_nil ?_
  intro t
  clear r0 r1 r2 r3 r4 r5 r6 r7 r8
  go_wp2
  go_ret
  exact ⟨rfl, HB.out.trans (t.h.mono HB.out.size)⟩
theorem rCheck_any (c : Cf) (w : World) : Calls Tryz.prog 34 #[.agg c.l.toArray] w fun e w' => e = .returned (.int .i64 (checkV c)) ∧ Below w.heap.size w w' := by
  unfold checkV
  by_cases hp : Plain c
  · by_cases hn : needV c 0 > c.blocks
    · rw [if_neg (fun x => x.2 hn)]; exact rCheck_b c hp hn w
    · rw [if_pos ⟨hp, hn⟩]; exact rCheck_c c hp hn w
  · rw [if_neg (fun x => hp x.1)]; exact rCheck_a c hp w
end Go.Proofs.YtclhhdodebdmjaaGreat

namespace Go.Proofs.YtclhhdodebdmjaaGreat
open Go.RowKit Go.MapKept Go.ChangeMaps
set_option linter.unusedVariables false
set_option linter.unusedSimpArgs false
set_option maxRecDepth 100000

def rtabV (c : Cf) (s now : St) : Array Value := (c.l ++ (s.l ++ now.l)).toArray
def RtIs (w : World) (g : Nat) (c : Cf) (s now : St) : Prop := Row w g 114 (rtabV c s now)
theorem rANew_ok (c : Cf) (h : OkC c) (z0 z1 z2 z3 : Int) (en : Nat) (w : World) : Calls Tryz.prog 57 #[.agg c.l.toArray, .agg #[.int .i64 z0, .int .i64 z1, .int .i64 z2, .int .i64 z3, .int .u8 en, .bool false]] w fun e w' => ∃ g, e = .returned (.tuple #[.pointer (some ⟨g, 0, none⟩), .int .i64 0]) ∧ Row w' g 114 (rtabV c ⟨z0, z1, z2, z3, en, false⟩ ⟨0, 0, 0, 0, 0, false⟩) ∧ w.heap.size ≤ g ∧ Below w.heap.size w w' := by
  have HC : ∀ wr, Hid _ := fun wr => Lib.hid (rCheck_any c wr)
  rw [checkV_ok h] at HC
  obtain ⟨cb, cp, cs, cu, co, cr, cg, ca, cz⟩ := c
  simp only [Cf.l] at *
  clear h
  obtain ⟨W, hW⟩ : ∃ W, W = (w.alloc (.cells #[.int .i64 cb, .int .i64 cp, .int .i64 cs, .int .i64 cu, .int .i64 co, .int .i64 cr, .int .i64 cg, .int .i64 ca, .int .i64 cz] 23)).alloc (.cells #[.int .i64 z0, .int .i64 z1, .int .i64 z2, .int .i64 z3, .int .u8 en, .bool false] 112) := ⟨_, rfl⟩
  have HB : Hid (Below w.heap.size w W) := by unfold Hid; rw [hW]; (repeat (first | (with_reducible refine Below.drew ?_) | (with_reducible refine below_drewN0 ?_ _) | ((with_reducible refine Below.setCell ?_ ?_ _); rotate_left; focus (first | omega | (simp; done) | (simp; omega) | (simp at *; omega))) | ((with_reducible refine Below.alloc ?_ ?_ _); rotate_left; focus (first | omega | (simp; done) | (simp; omega) | (simp at *; omega))) | (with_reducible exact Below.refl _ _)))
  have HR1 : Hid (Row W w.heap.size 23 #[.int .i64 cb, .int .i64 cp, .int .i64 cs, .int .i64 cu, .int .i64 co, .int .i64 cr, .int .i64 cg, .int .i64 ca, .int .i64 cz]) := by
    unfold Hid; rw [hW]
    exact (Row.fresh w _ _).below ((Below.refl _ _).alloc (Nat.le_refl _) _) (by simp)
  have HR2 : Hid (Row W (w.heap.size + 1) 112 #[.int .i64 z0, .int .i64 z1, .int .i64 z2, .int .i64 z3, .int .u8 en, .bool false]) := by
    unfold Hid; rw [hW]
    have := Row.fresh (w.alloc (.cells #[.int .i64 cb, .int .i64 cp, .int .i64 cs, .int .i64 cu, .int .i64 co, .int .i64 cr, .int .i64 cg, .int .i64 ca, .int .i64 cz] 23)) 112 #[.int .i64 z0, .int .i64 z1, .int .i64 z2, .int .i64 z3, .int .u8 en, .bool false]
    simpa using this
  go_enter Tryz.func57, Tryz.ntmps57
  go_wp2_with fail
  rw [← hW]
  clear hW
  refine (HC _).out.mono ?_
  rintro e w1 ⟨rfl, hb⟩
  have R1 := HR1.out.below hb HR1.out.lt
  have R2 := HR2.out.below hb HR2.out.lt
  have HBb : Hid (Below w.heap.size w w1) := HB.out.trans (hb.mono HB.out.size)
  have q0 : w1.cell? ⟨w.heap.size, 0, none⟩ = some (.int .i64 cb) := by rw [R1.cell]; rfl
  have q1 : w1.cell? ⟨w.heap.size, 1, none⟩ = some (.int .i64 cp) := by rw [R1.cell]; rfl
  have q2 : w1.cell? ⟨w.heap.size, 2, none⟩ = some (.int .i64 cs) := by rw [R1.cell]; rfl
  have q3 : w1.cell? ⟨w.heap.size, 3, none⟩ = some (.int .i64 cu) := by rw [R1.cell]; rfl
  have q4 : w1.cell? ⟨w.heap.size, 4, none⟩ = some (.int .i64 co) := by rw [R1.cell]; rfl
  have q5 : w1.cell? ⟨w.heap.size, 5, none⟩ = some (.int .i64 cr) := by rw [R1.cell]; rfl
  have q6 : w1.cell? ⟨w.heap.size, 6, none⟩ = some (.int .i64 cg) := by rw [R1.cell]; rfl
  have q7 : w1.cell? ⟨w.heap.size, 7, none⟩ = some (.int .i64 ca) := by rw [R1.cell]; rfl
  have q8 : w1.cell? ⟨w.heap.size, 8, none⟩ = some (.int .i64 cz) := by rw [R1.cell]; rfl
  have s0 : w1.cell? ⟨w.heap.size + 1, 0, none⟩ = some (.int .i64 z0) := by rw [R2.cell]; rfl
  have s1 : w1.cell? ⟨w.heap.size + 1, 1, none⟩ = some (.int .i64 z1) := by rw [R2.cell]; rfl
  have s2 : w1.cell? ⟨w.heap.size + 1, 2, none⟩ = some (.int .i64 z2) := by rw [R2.cell]; rfl
  have s3 : w1.cell? ⟨w.heap.size + 1, 3, none⟩ = some (.int .i64 z3) := by rw [R2.cell]; rfl
  have s4 : w1.cell? ⟨w.heap.size + 1, 4, none⟩ = some (.int .u8 en) := by rw [R2.cell]; rfl
  have s5 : w1.cell? ⟨w.heap.size + 1, 5, none⟩ = some (.bool false) := by rw [R2.cell]; rfl
  have hlt : w.heap.size + 1 < w1.heap.size := R2.lt
  have HBf : ∀ o, Hid (Below w.heap.size w (w1.alloc o)) := fun o => HBb.out.alloc HBb.out.size o
  have HRf : Hid (Row (w1.alloc (.cells (rtabV ⟨cb, cp, cs, cu, co, cr, cg, ca, cz⟩ ⟨z0, z1, z2, z3, en, false⟩ ⟨0, 0, 0, 0, 0, false⟩) 114)) w1.heap.size 114 (rtabV ⟨cb, cp, cs, cu, co, cr, cg, ca, cz⟩ ⟨z0, z1, z2, z3, en, false⟩ ⟨0, 0, 0, 0, 0, false⟩)) := Row.fresh w1 _ _
  have hle := HBb.out.size
  clear R1 R2 hb HR1 HR2 HB HC
  go_wp2
  refine bodyPost_ret (v := .tuple #[.pointer (some ⟨w1.heap.size, 0, none⟩), .int .i64 0]) ?_ ?_ ?_
  · simp [results]
  · rfl
  · exact ⟨w1.heap.size, rfl, HRf.out, hle, (HBf _).out⟩
end Go.Proofs.YtclhhdodebdmjaaGreat
