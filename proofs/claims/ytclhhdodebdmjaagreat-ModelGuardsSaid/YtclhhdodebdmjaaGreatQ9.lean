/- What follows is laid together from several texts of mine, in their order. -/
import Derived.Test.YtclhhdodebdmjaaGreatQ8
import Derived.Test.YtclhhdodebdmjaaGreatQ7

namespace Go.Proofs.YtclhhdodebdmjaaGreat
open Go.RowKit Go.MapKept Go.ChangeMaps
set_option linter.unusedVariables false
set_option linter.unusedSimpArgs false
set_option maxRecDepth 100000

/-- A card's shape. -/
structure Cf where
  blocks : Int
  pages : Int
  sector : Int
  user : Int
  boot : Int
  rpa : Int
  group : Int
  cache : Int
  spare : Int
def Cf.l (c : Cf) : List Value := [.int .i64 c.blocks, .int .i64 c.pages, .int .i64 c.sector, .int .i64 c.user, .int .i64 c.boot, .int .i64 c.rpa, .int .i64 c.group, .int .i64 c.cache, .int .i64 c.spare]
def btw (v lo hi : Int) : Bool := decide (lo ≤ v ∧ v ≤ hi)
theorem btw_iff (v lo hi : Int) : btw v lo hi = true ↔ lo ≤ v ∧ v ≤ hi := by unfold btw; simp
theorem between_any (v lo hi : Int) (w : World) : Calls Tryz.prog 112 #[.int .i64 v, .int .i64 lo, .int .i64 hi] w fun e w' => e = .returned (.bool (btw v lo hi)) ∧ w' = w := by
  by_cases h1 : lo ≤ v
  · by_cases h2 : v ≤ hi
    · have HE : Hid (btw v lo hi = true) := by unfold Hid btw; simp [h1, h2]
      go_enter Tryz.func112, Tryz.ntmps112
      go_wp2
      go_ret
      exact ⟨by rw [HE.out]; rfl, rfl⟩
    · have HE : Hid (btw v lo hi = false) := by unfold Hid btw; simp [h2]
      go_enter Tryz.func112, Tryz.ntmps112
      go_wp2
      go_ret
      exact ⟨by rw [HE.out]; rfl, rfl⟩
  · have HE : Hid (btw v lo hi = false) := by unfold Hid btw; simp [h1]
    go_enter Tryz.func112, Tryz.ntmps112
    go_wp2
    go_ret
    exact ⟨by rw [HE.out]; rfl, rfl⟩
def upV (n b : Int) : Int := (n + b - 1) / b
theorem up_any (n b : Int) (hn : 0 ≤ n ∧ n ≤ 1048576) (hb : 1 ≤ b ∧ b ≤ 65536) (w : World) : Calls Tryz.prog 228 #[.int .i64 n, .int .i64 b] w fun e w' => e = .returned (.int .i64 (upV n b)) ∧ w' = w := by
  have hb0 : ¬ b = 0 := by omega
  go_enter Tryz.func228, Tryz.ntmps228
  go_wp2
  go_ret
  exact ⟨rfl, rfl⟩
def blocksV (n p : Int) : Int := upV n p + upV (upV n p) 2
theorem upV_le (n b : Int) (hn : 0 ≤ n) (hb : 1 ≤ b) : 0 ≤ upV n b ∧ upV n b ≤ n := by
  unfold upV
  refine ⟨Int.ediv_nonneg (by omega) (by omega), ?_⟩
  by_cases h0 : n = 0
  · subst h0
    have : (0 + b - 1) / b < 1 := Int.ediv_lt_of_lt_mul (by omega) (by omega)
    omega
  · have h1 : (n + b - 1) / b < n + 1 := Int.ediv_lt_of_lt_mul (by omega) (by
      have : n * 1 ≤ n * b := Int.mul_le_mul_of_nonneg_left (by omega) (by omega)
      rw [Int.add_mul]
      omega)
    omega
theorem blocks_any (n p : Int) (hn : 0 ≤ n ∧ n ≤ 1048576) (hp : 1 ≤ p ∧ p ≤ 1024) (w : World) : Calls Tryz.prog 173 #[.int .i64 n, .int .i64 p] w fun e w' => e = .returned (.int .i64 (blocksV n p)) ∧ w' = w := by
  have h1 : ¬ p < 1 := by omega
  have h0 : (p == 0) = false := by simp; omega
  have H1 := Lib.hid (up_any n p hn (by omega) w)
  have HU := upV_le n p hn.1 (by omega)
  have H2 := Lib.hid (up_any (upV n p) 2 (by omega) (by omega) w)
  have HV := upV_le (upV n p) 2 HU.1 (by omega)
  have HE : Hid (wrap64 (upV n p + upV (upV n p) 2) = blocksV n p) := by unfold Hid blocksV wrap64; omega
  clear HU HV hn hp
  generalize upV (upV n p) 2 = q at *
  generalize upV n p = m at *
  go_enter Tryz.func173, Tryz.ntmps173
  go_wp2_with fail
  refine H1.out.mono ?_
  rintro e w' ⟨rfl, rfl⟩
  go_wp2_with fail
  refine H2.out.mono ?_
  rintro e w' ⟨rfl, rfl⟩
  go_wp2
  go_ret
  exact ⟨by rw [← HE.out]; rfl, rfl⟩
def needV (c : Cf) (e : Int) : Int := blocksV (c.user - e) c.pages + blocksV (2 * c.boot + c.rpa + e) (c.pages / 2) + 24 + c.spare
theorem blocksV_le (n p : Int) (hn : 0 ≤ n) (hp : 1 ≤ p) : 0 ≤ blocksV n p ∧ blocksV n p ≤ 2 * n := by
  have h1 := upV_le n p hn hp
  have h2 := upV_le (upV n p) 2 h1.1 (by omega)
  unfold blocksV; omega
set_option maxHeartbeats 1000000 in
theorem Need_any (c : Cf) (e : Int) (he : 0 ≤ e ∧ e ≤ c.user) (hu : 1 ≤ c.user ∧ c.user ≤ 16384) (hp : 4 ≤ c.pages ∧ c.pages ≤ 256) (ho : 1 ≤ c.boot ∧ c.boot ≤ 256) (hr : 1 ≤ c.rpa ∧ c.rpa ≤ 256) (hz : 0 ≤ c.spare ∧ c.spare ≤ 1024) (w : World) : Calls Tryz.prog 113 #[.agg c.l.toArray, .int .i64 e] w fun e' w' => e' = .returned (.int .i64 (needV c e)) ∧ Below w.heap.size w w' := by
  obtain ⟨cb, cp, cs, cu, co, cr, cg, ca, cz⟩ := c
  simp only [Cf.l] at *
  have b1 := blocksV_le (cu - e) cp (by omega) (by omega)
  have b2 := blocksV_le (2 * co + cr + e) (cp / 2) (by omega) (by omega)
  have HN : Hid (needV ⟨cb, cp, cs, cu, co, cr, cg, ca, cz⟩ e = blocksV (cu - e) cp + blocksV (2 * co + cr + e) (cp / 2) + 24 + cz) := rfl
  have B1 : ∀ w', Hid _ := fun w' => Lib.hid (blocks_any (cu - e) cp (by omega) (by omega) w')
  have B2 : ∀ w', Hid _ := fun w' => Lib.hid (blocks_any (2 * co + cr + e) (cp / 2) (by omega) (by omega) w')
  have hp2 : cp.tdiv 2 = cp / 2 := Int.tdiv_eq_ediv_of_nonneg (by omega)
  have he0 : ¬ e < 0 := by omega
  have he1 : e ≤ cu := he.2
  have HB : Hid (Below w.heap.size w (w.alloc (.cells #[.int .i64 cb, .int .i64 cp, .int .i64 cs, .int .i64 cu, .int .i64 co, .int .i64 cr, .int .i64 cg, .int .i64 ca, .int .i64 cz] 23))) := by unfold Hid; (repeat (first | (with_reducible refine Below.drew ?_) | (with_reducible refine below_drewN0 ?_ _) | ((with_reducible refine Below.setCell ?_ ?_ _); rotate_left; focus (first | omega | (simp; done) | (simp; omega) | (simp at *; omega))) | ((with_reducible refine Below.alloc ?_ ?_ _); rotate_left; focus (first | omega | (simp; done) | (simp; omega) | (simp at *; omega))) | (with_reducible exact Below.refl _ _)))
  have s1 : wrap64 (cu - e) = cu - e := by unfold wrap64; omega
  have s2 : wrap64 (2 * co) = 2 * co := by unfold wrap64; omega
  have s3 : wrap64 (2 * co + cr) = 2 * co + cr := by unfold wrap64; omega
  have s4 : wrap64 (2 * co + cr + e) = 2 * co + cr + e := by unfold wrap64; omega
  go_enter Tryz.func113, Tryz.ntmps113
  go_wp2_with fail
  go_quiet ((go_at_call 173; (first | (with_reducible exact Calls.quiet_of_same (B1 _).out) | (with_reducible exact Calls.quiet_of_same (B2 _).out))))
  go_wp2
  go_ret
  exact ⟨by rw [HN.out]; rfl, below_drewN0 HB.out _⟩
def plainB (c : Cf) : Bool := btw c.blocks 1 1024 && (btw c.pages 4 256 && (c.pages % 2 == 0)) && (btw c.sector 128 448 && (c.sector % 64 == 0) && btw c.user 1 16384) && (btw c.boot 1 256 && btw c.rpa 1 256 && btw c.group 1 c.user && (c.user % c.group == 0) && decide (c.user / c.group ≤ 32)) && (btw c.cache 0 64 && btw c.spare 0 c.blocks)
theorem Check_1 (cb cp cs cu co cr cg ca cz : Int) (k1 : btw cb 1 1024 = false) (w : World) : Calls Tryz.prog 48 #[.agg #[.int .i64 cb, .int .i64 cp, .int .i64 cs, .int .i64 cu, .int .i64 co, .int .i64 cr, .int .i64 cg, .int .i64 ca, .int .i64 cz]] w fun e w' => e = .returned (.int .i64 1) ∧ Below w.heap.size w w' := by
  have HB : Hid (Below w.heap.size w (w.alloc (.cells #[.int .i64 cb, .int .i64 cp, .int .i64 cs, .int .i64 cu, .int .i64 co, .int .i64 cr, .int .i64 cg, .int .i64 ca, .int .i64 cz] 23))) := by unfold Hid; (repeat (first | (with_reducible refine Below.drew ?_) | (with_reducible refine below_drewN0 ?_ _) | ((with_reducible refine Below.setCell ?_ ?_ _); rotate_left; focus (first | omega | (simp; done) | (simp; omega) | (simp at *; omega))) | ((with_reducible refine Below.alloc ?_ ?_ _); rotate_left; focus (first | omega | (simp; done) | (simp; omega) | (simp at *; omega))) | (with_reducible exact Below.refl _ _)))
  go_enter Tryz.func48, Tryz.ntmps48
  repeat (go_wp2_with fail; refine (between_any _ _ _ _).mono ?_; rintro e w' ⟨rfl, rfl⟩)
  go_wp2_with fail
  go_quiet (fail)
  go_wp2
  go_ret
  exact ⟨rfl, below_drewN0 HB.out _⟩
theorem Check_2 (cb cp cs cu co cr cg ca cz : Int) (k1 : btw cb 1 1024 = true) (k2 : btw cp 4 256 = false) (w : World) : Calls Tryz.prog 48 #[.agg #[.int .i64 cb, .int .i64 cp, .int .i64 cs, .int .i64 cu, .int .i64 co, .int .i64 cr, .int .i64 cg, .int .i64 ca, .int .i64 cz]] w fun e w' => e = .returned (.int .i64 1) ∧ Below w.heap.size w w' := by
  have HB : Hid (Below w.heap.size w (w.alloc (.cells #[.int .i64 cb, .int .i64 cp, .int .i64 cs, .int .i64 cu, .int .i64 co, .int .i64 cr, .int .i64 cg, .int .i64 ca, .int .i64 cz] 23))) := by unfold Hid; (repeat (first | (with_reducible refine Below.drew ?_) | (with_reducible refine below_drewN0 ?_ _) | ((with_reducible refine Below.setCell ?_ ?_ _); rotate_left; focus (first | omega | (simp; done) | (simp; omega) | (simp at *; omega))) | ((with_reducible refine Below.alloc ?_ ?_ _); rotate_left; focus (first | omega | (simp; done) | (simp; omega) | (simp at *; omega))) | (with_reducible exact Below.refl _ _)))
  go_enter Tryz.func48, Tryz.ntmps48
  repeat (go_wp2_with fail; refine (between_any _ _ _ _).mono ?_; rintro e w' ⟨rfl, rfl⟩)
  go_wp2_with fail
  go_quiet (fail)
  go_wp2
  go_ret
  exact ⟨rfl, below_drewN0 HB.out _⟩
theorem Check_3 (cb cp cs cu co cr cg ca cz : Int) (k1 : btw cb 1 1024 = true) (k2 : btw cp 4 256 = true) (k3 : (cp % 2 == 0) = false) (w : World) : Calls Tryz.prog 48 #[.agg #[.int .i64 cb, .int .i64 cp, .int .i64 cs, .int .i64 cu, .int .i64 co, .int .i64 cr, .int .i64 cg, .int .i64 ca, .int .i64 cz]] w fun e w' => e = .returned (.int .i64 1) ∧ Below w.heap.size w w' := by
  have t2 := (btw_iff _ _ _).1 k2
  have m3 : cp.tmod 2 = cp % 2 := Int.tmod_eq_emod_of_nonneg (by omega)
  clear t2
  have HB : Hid (Below w.heap.size w (w.alloc (.cells #[.int .i64 cb, .int .i64 cp, .int .i64 cs, .int .i64 cu, .int .i64 co, .int .i64 cr, .int .i64 cg, .int .i64 ca, .int .i64 cz] 23))) := by unfold Hid; (repeat (first | (with_reducible refine Below.drew ?_) | (with_reducible refine below_drewN0 ?_ _) | ((with_reducible refine Below.setCell ?_ ?_ _); rotate_left; focus (first | omega | (simp; done) | (simp; omega) | (simp at *; omega))) | ((with_reducible refine Below.alloc ?_ ?_ _); rotate_left; focus (first | omega | (simp; done) | (simp; omega) | (simp at *; omega))) | (with_reducible exact Below.refl _ _)))
  go_enter Tryz.func48, Tryz.ntmps48
  repeat (go_wp2_with fail; refine (between_any _ _ _ _).mono ?_; rintro e w' ⟨rfl, rfl⟩)
  go_wp2_with fail
  go_quiet (fail)
  go_wp2
  go_ret
  exact ⟨rfl, below_drewN0 HB.out _⟩
theorem Check_4 (cb cp cs cu co cr cg ca cz : Int) (k1 : btw cb 1 1024 = true) (k2 : btw cp 4 256 = true) (k3 : (cp % 2 == 0) = true) (k4 : btw cs 128 448 = false) (w : World) : Calls Tryz.prog 48 #[.agg #[.int .i64 cb, .int .i64 cp, .int .i64 cs, .int .i64 cu, .int .i64 co, .int .i64 cr, .int .i64 cg, .int .i64 ca, .int .i64 cz]] w fun e w' => e = .returned (.int .i64 1) ∧ Below w.heap.size w w' := by
  have t2 := (btw_iff _ _ _).1 k2
  have m3 : cp.tmod 2 = cp % 2 := Int.tmod_eq_emod_of_nonneg (by omega)
  clear t2
  have HB : Hid (Below w.heap.size w (w.alloc (.cells #[.int .i64 cb, .int .i64 cp, .int .i64 cs, .int .i64 cu, .int .i64 co, .int .i64 cr, .int .i64 cg, .int .i64 ca, .int .i64 cz] 23))) := by unfold Hid; (repeat (first | (with_reducible refine Below.drew ?_) | (with_reducible refine below_drewN0 ?_ _) | ((with_reducible refine Below.setCell ?_ ?_ _); rotate_left; focus (first | omega | (simp; done) | (simp; omega) | (simp at *; omega))) | ((with_reducible refine Below.alloc ?_ ?_ _); rotate_left; focus (first | omega | (simp; done) | (simp; omega) | (simp at *; omega))) | (with_reducible exact Below.refl _ _)))
  go_enter Tryz.func48, Tryz.ntmps48
  repeat (go_wp2_with fail; refine (between_any _ _ _ _).mono ?_; rintro e w' ⟨rfl, rfl⟩)
  go_wp2_with fail
  go_quiet (fail)
  go_wp2
  go_ret
  exact ⟨rfl, below_drewN0 HB.out _⟩
theorem Check_5 (cb cp cs cu co cr cg ca cz : Int) (k1 : btw cb 1 1024 = true) (k2 : btw cp 4 256 = true) (k3 : (cp % 2 == 0) = true) (k4 : btw cs 128 448 = true) (k5 : (cs % 64 == 0) = false) (w : World) : Calls Tryz.prog 48 #[.agg #[.int .i64 cb, .int .i64 cp, .int .i64 cs, .int .i64 cu, .int .i64 co, .int .i64 cr, .int .i64 cg, .int .i64 ca, .int .i64 cz]] w fun e w' => e = .returned (.int .i64 1) ∧ Below w.heap.size w w' := by
  have t2 := (btw_iff _ _ _).1 k2
  have t4 := (btw_iff _ _ _).1 k4
  have m3 : cp.tmod 2 = cp % 2 := Int.tmod_eq_emod_of_nonneg (by omega)
  have m5 : cs.tmod 64 = cs % 64 := Int.tmod_eq_emod_of_nonneg (by omega)
  clear t2
  clear t4
  have HB : Hid (Below w.heap.size w (w.alloc (.cells #[.int .i64 cb, .int .i64 cp, .int .i64 cs, .int .i64 cu, .int .i64 co, .int .i64 cr, .int .i64 cg, .int .i64 ca, .int .i64 cz] 23))) := by unfold Hid; (repeat (first | (with_reducible refine Below.drew ?_) | (with_reducible refine below_drewN0 ?_ _) | ((with_reducible refine Below.setCell ?_ ?_ _); rotate_left; focus (first | omega | (simp; done) | (simp; omega) | (simp at *; omega))) | ((with_reducible refine Below.alloc ?_ ?_ _); rotate_left; focus (first | omega | (simp; done) | (simp; omega) | (simp at *; omega))) | (with_reducible exact Below.refl _ _)))
  go_enter Tryz.func48, Tryz.ntmps48
  repeat (go_wp2_with fail; refine (between_any _ _ _ _).mono ?_; rintro e w' ⟨rfl, rfl⟩)
  go_wp2_with fail
  go_quiet (fail)
  go_wp2
  go_ret
  exact ⟨rfl, below_drewN0 HB.out _⟩
theorem Check_6 (cb cp cs cu co cr cg ca cz : Int) (k1 : btw cb 1 1024 = true) (k2 : btw cp 4 256 = true) (k3 : (cp % 2 == 0) = true) (k4 : btw cs 128 448 = true) (k5 : (cs % 64 == 0) = true) (k6 : btw cu 1 16384 = false) (w : World) : Calls Tryz.prog 48 #[.agg #[.int .i64 cb, .int .i64 cp, .int .i64 cs, .int .i64 cu, .int .i64 co, .int .i64 cr, .int .i64 cg, .int .i64 ca, .int .i64 cz]] w fun e w' => e = .returned (.int .i64 1) ∧ Below w.heap.size w w' := by
  have t2 := (btw_iff _ _ _).1 k2
  have t4 := (btw_iff _ _ _).1 k4
  have m3 : cp.tmod 2 = cp % 2 := Int.tmod_eq_emod_of_nonneg (by omega)
  have m5 : cs.tmod 64 = cs % 64 := Int.tmod_eq_emod_of_nonneg (by omega)
  clear t2
  clear t4
  have HB : Hid (Below w.heap.size w (w.alloc (.cells #[.int .i64 cb, .int .i64 cp, .int .i64 cs, .int .i64 cu, .int .i64 co, .int .i64 cr, .int .i64 cg, .int .i64 ca, .int .i64 cz] 23))) := by unfold Hid; (repeat (first | (with_reducible refine Below.drew ?_) | (with_reducible refine below_drewN0 ?_ _) | ((with_reducible refine Below.setCell ?_ ?_ _); rotate_left; focus (first | omega | (simp; done) | (simp; omega) | (simp at *; omega))) | ((with_reducible refine Below.alloc ?_ ?_ _); rotate_left; focus (first | omega | (simp; done) | (simp; omega) | (simp at *; omega))) | (with_reducible exact Below.refl _ _)))
  go_enter Tryz.func48, Tryz.ntmps48
  repeat (go_wp2_with fail; refine (between_any _ _ _ _).mono ?_; rintro e w' ⟨rfl, rfl⟩)
  go_wp2_with fail
  go_quiet (fail)
  go_wp2
  go_ret
  exact ⟨rfl, below_drewN0 HB.out _⟩
theorem Check_7 (cb cp cs cu co cr cg ca cz : Int) (k1 : btw cb 1 1024 = true) (k2 : btw cp 4 256 = true) (k3 : (cp % 2 == 0) = true) (k4 : btw cs 128 448 = true) (k5 : (cs % 64 == 0) = true) (k6 : btw cu 1 16384 = true) (k7 : btw co 1 256 = false) (w : World) : Calls Tryz.prog 48 #[.agg #[.int .i64 cb, .int .i64 cp, .int .i64 cs, .int .i64 cu, .int .i64 co, .int .i64 cr, .int .i64 cg, .int .i64 ca, .int .i64 cz]] w fun e w' => e = .returned (.int .i64 1) ∧ Below w.heap.size w w' := by
  have t2 := (btw_iff _ _ _).1 k2
  have t4 := (btw_iff _ _ _).1 k4
  have t6 := (btw_iff _ _ _).1 k6
  have m3 : cp.tmod 2 = cp % 2 := Int.tmod_eq_emod_of_nonneg (by omega)
  have m5 : cs.tmod 64 = cs % 64 := Int.tmod_eq_emod_of_nonneg (by omega)
  clear t2
  clear t4
  clear t6
  have HB : Hid (Below w.heap.size w (w.alloc (.cells #[.int .i64 cb, .int .i64 cp, .int .i64 cs, .int .i64 cu, .int .i64 co, .int .i64 cr, .int .i64 cg, .int .i64 ca, .int .i64 cz] 23))) := by unfold Hid; (repeat (first | (with_reducible refine Below.drew ?_) | (with_reducible refine below_drewN0 ?_ _) | ((with_reducible refine Below.setCell ?_ ?_ _); rotate_left; focus (first | omega | (simp; done) | (simp; omega) | (simp at *; omega))) | ((with_reducible refine Below.alloc ?_ ?_ _); rotate_left; focus (first | omega | (simp; done) | (simp; omega) | (simp at *; omega))) | (with_reducible exact Below.refl _ _)))
  go_enter Tryz.func48, Tryz.ntmps48
  repeat (go_wp2_with fail; refine (between_any _ _ _ _).mono ?_; rintro e w' ⟨rfl, rfl⟩)
  go_wp2_with fail
  go_quiet (fail)
  go_wp2
  go_ret
  exact ⟨rfl, below_drewN0 HB.out _⟩
theorem Check_8 (cb cp cs cu co cr cg ca cz : Int) (k1 : btw cb 1 1024 = true) (k2 : btw cp 4 256 = true) (k3 : (cp % 2 == 0) = true) (k4 : btw cs 128 448 = true) (k5 : (cs % 64 == 0) = true) (k6 : btw cu 1 16384 = true) (k7 : btw co 1 256 = true) (k8 : btw cr 1 256 = false) (w : World) : Calls Tryz.prog 48 #[.agg #[.int .i64 cb, .int .i64 cp, .int .i64 cs, .int .i64 cu, .int .i64 co, .int .i64 cr, .int .i64 cg, .int .i64 ca, .int .i64 cz]] w fun e w' => e = .returned (.int .i64 1) ∧ Below w.heap.size w w' := by
  have t2 := (btw_iff _ _ _).1 k2
  have t4 := (btw_iff _ _ _).1 k4
  have t6 := (btw_iff _ _ _).1 k6
  have m3 : cp.tmod 2 = cp % 2 := Int.tmod_eq_emod_of_nonneg (by omega)
  have m5 : cs.tmod 64 = cs % 64 := Int.tmod_eq_emod_of_nonneg (by omega)
  clear t2
  clear t4
  clear t6
  have HB : Hid (Below w.heap.size w (w.alloc (.cells #[.int .i64 cb, .int .i64 cp, .int .i64 cs, .int .i64 cu, .int .i64 co, .int .i64 cr, .int .i64 cg, .int .i64 ca, .int .i64 cz] 23))) := by unfold Hid; (repeat (first | (with_reducible refine Below.drew ?_) | (with_reducible refine below_drewN0 ?_ _) | ((with_reducible refine Below.setCell ?_ ?_ _); rotate_left; focus (first | omega | (simp; done) | (simp; omega) | (simp at *; omega))) | ((with_reducible refine Below.alloc ?_ ?_ _); rotate_left; focus (first | omega | (simp; done) | (simp; omega) | (simp at *; omega))) | (with_reducible exact Below.refl _ _)))
  go_enter Tryz.func48, Tryz.ntmps48
  repeat (go_wp2_with fail; refine (between_any _ _ _ _).mono ?_; rintro e w' ⟨rfl, rfl⟩)
  go_wp2_with fail
  go_quiet (fail)
  go_wp2
  go_ret
  exact ⟨rfl, below_drewN0 HB.out _⟩
theorem Check_9 (cb cp cs cu co cr cg ca cz : Int) (k1 : btw cb 1 1024 = true) (k2 : btw cp 4 256 = true) (k3 : (cp % 2 == 0) = true) (k4 : btw cs 128 448 = true) (k5 : (cs % 64 == 0) = true) (k6 : btw cu 1 16384 = true) (k7 : btw co 1 256 = true) (k8 : btw cr 1 256 = true) (k9 : btw cg 1 cu = false) (w : World) : Calls Tryz.prog 48 #[.agg #[.int .i64 cb, .int .i64 cp, .int .i64 cs, .int .i64 cu, .int .i64 co, .int .i64 cr, .int .i64 cg, .int .i64 ca, .int .i64 cz]] w fun e w' => e = .returned (.int .i64 1) ∧ Below w.heap.size w w' := by
  have t2 := (btw_iff _ _ _).1 k2
  have t4 := (btw_iff _ _ _).1 k4
  have t6 := (btw_iff _ _ _).1 k6
  have m3 : cp.tmod 2 = cp % 2 := Int.tmod_eq_emod_of_nonneg (by omega)
  have m5 : cs.tmod 64 = cs % 64 := Int.tmod_eq_emod_of_nonneg (by omega)
  clear t2
  clear t4
  clear t6
  have HB : Hid (Below w.heap.size w (w.alloc (.cells #[.int .i64 cb, .int .i64 cp, .int .i64 cs, .int .i64 cu, .int .i64 co, .int .i64 cr, .int .i64 cg, .int .i64 ca, .int .i64 cz] 23))) := by unfold Hid; (repeat (first | (with_reducible refine Below.drew ?_) | (with_reducible refine below_drewN0 ?_ _) | ((with_reducible refine Below.setCell ?_ ?_ _); rotate_left; focus (first | omega | (simp; done) | (simp; omega) | (simp at *; omega))) | ((with_reducible refine Below.alloc ?_ ?_ _); rotate_left; focus (first | omega | (simp; done) | (simp; omega) | (simp at *; omega))) | (with_reducible exact Below.refl _ _)))
  go_enter Tryz.func48, Tryz.ntmps48
  repeat (go_wp2_with fail; refine (between_any _ _ _ _).mono ?_; rintro e w' ⟨rfl, rfl⟩)
  go_wp2_with fail
  go_quiet (fail)
  go_wp2
  go_ret
  exact ⟨rfl, below_drewN0 HB.out _⟩
theorem Check_10 (cb cp cs cu co cr cg ca cz : Int) (k1 : btw cb 1 1024 = true) (k2 : btw cp 4 256 = true) (k3 : (cp % 2 == 0) = true) (k4 : btw cs 128 448 = true) (k5 : (cs % 64 == 0) = true) (k6 : btw cu 1 16384 = true) (k7 : btw co 1 256 = true) (k8 : btw cr 1 256 = true) (k9 : btw cg 1 cu = true) (k10 : (cu % cg == 0) = false) (w : World) : Calls Tryz.prog 48 #[.agg #[.int .i64 cb, .int .i64 cp, .int .i64 cs, .int .i64 cu, .int .i64 co, .int .i64 cr, .int .i64 cg, .int .i64 ca, .int .i64 cz]] w fun e w' => e = .returned (.int .i64 1) ∧ Below w.heap.size w w' := by
  have t2 := (btw_iff _ _ _).1 k2
  have t4 := (btw_iff _ _ _).1 k4
  have t6 := (btw_iff _ _ _).1 k6
  have t9 := (btw_iff _ _ _).1 k9
  have m3 : cp.tmod 2 = cp % 2 := Int.tmod_eq_emod_of_nonneg (by omega)
  have m5 : cs.tmod 64 = cs % 64 := Int.tmod_eq_emod_of_nonneg (by omega)
  have m10 : cu.tmod cg = cu % cg := Int.tmod_eq_emod_of_nonneg (by omega)
  have m11 : cu.tdiv cg = cu / cg := Int.tdiv_eq_ediv_of_nonneg (by omega)
  have g0 : ¬ cg = 0 := by omega
  have HD : 0 ≤ cu / cg ∧ cu / cg ≤ cu := ⟨Int.ediv_nonneg (by omega) (by omega), Int.ediv_le_self _ (by omega)⟩
  have w11 : wrap64 (cu / cg) = cu / cg := by unfold wrap64; omega
  clear HD
  clear t2
  clear t4
  clear t6
  clear t9
  have HB : Hid (Below w.heap.size w (w.alloc (.cells #[.int .i64 cb, .int .i64 cp, .int .i64 cs, .int .i64 cu, .int .i64 co, .int .i64 cr, .int .i64 cg, .int .i64 ca, .int .i64 cz] 23))) := by unfold Hid; (repeat (first | (with_reducible refine Below.drew ?_) | (with_reducible refine below_drewN0 ?_ _) | ((with_reducible refine Below.setCell ?_ ?_ _); rotate_left; focus (first | omega | (simp; done) | (simp; omega) | (simp at *; omega))) | ((with_reducible refine Below.alloc ?_ ?_ _); rotate_left; focus (first | omega | (simp; done) | (simp; omega) | (simp at *; omega))) | (with_reducible exact Below.refl _ _)))
  go_enter Tryz.func48, Tryz.ntmps48
  repeat (go_wp2_with fail; refine (between_any _ _ _ _).mono ?_; rintro e w' ⟨rfl, rfl⟩)
  go_wp2_with fail
  go_quiet (fail)
  go_wp2
  go_ret
  exact ⟨rfl, below_drewN0 HB.out _⟩
theorem Check_11 (cb cp cs cu co cr cg ca cz : Int) (k1 : btw cb 1 1024 = true) (k2 : btw cp 4 256 = true) (k3 : (cp % 2 == 0) = true) (k4 : btw cs 128 448 = true) (k5 : (cs % 64 == 0) = true) (k6 : btw cu 1 16384 = true) (k7 : btw co 1 256 = true) (k8 : btw cr 1 256 = true) (k9 : btw cg 1 cu = true) (k10 : (cu % cg == 0) = true) (k11 : ¬ cu / cg ≤ 32) (w : World) : Calls Tryz.prog 48 #[.agg #[.int .i64 cb, .int .i64 cp, .int .i64 cs, .int .i64 cu, .int .i64 co, .int .i64 cr, .int .i64 cg, .int .i64 ca, .int .i64 cz]] w fun e w' => e = .returned (.int .i64 1) ∧ Below w.heap.size w w' := by
  have t2 := (btw_iff _ _ _).1 k2
  have t4 := (btw_iff _ _ _).1 k4
  have t6 := (btw_iff _ _ _).1 k6
  have t9 := (btw_iff _ _ _).1 k9
  have m3 : cp.tmod 2 = cp % 2 := Int.tmod_eq_emod_of_nonneg (by omega)
  have m5 : cs.tmod 64 = cs % 64 := Int.tmod_eq_emod_of_nonneg (by omega)
  have m10 : cu.tmod cg = cu % cg := Int.tmod_eq_emod_of_nonneg (by omega)
  have m11 : cu.tdiv cg = cu / cg := Int.tdiv_eq_ediv_of_nonneg (by omega)
  have g0 : ¬ cg = 0 := by omega
  have HD : 0 ≤ cu / cg ∧ cu / cg ≤ cu := ⟨Int.ediv_nonneg (by omega) (by omega), Int.ediv_le_self _ (by omega)⟩
  have w11 : wrap64 (cu / cg) = cu / cg := by unfold wrap64; omega
  clear HD
  clear t2
  clear t4
  clear t6
  clear t9
  have HB : Hid (Below w.heap.size w (w.alloc (.cells #[.int .i64 cb, .int .i64 cp, .int .i64 cs, .int .i64 cu, .int .i64 co, .int .i64 cr, .int .i64 cg, .int .i64 ca, .int .i64 cz] 23))) := by unfold Hid; (repeat (first | (with_reducible refine Below.drew ?_) | (with_reducible refine below_drewN0 ?_ _) | ((with_reducible refine Below.setCell ?_ ?_ _); rotate_left; focus (first | omega | (simp; done) | (simp; omega) | (simp at *; omega))) | ((with_reducible refine Below.alloc ?_ ?_ _); rotate_left; focus (first | omega | (simp; done) | (simp; omega) | (simp at *; omega))) | (with_reducible exact Below.refl _ _)))
  go_enter Tryz.func48, Tryz.ntmps48
  repeat (go_wp2_with fail; refine (between_any _ _ _ _).mono ?_; rintro e w' ⟨rfl, rfl⟩)
  go_wp2_with fail
  go_quiet (fail)
  go_wp2
  go_ret
  exact ⟨rfl, below_drewN0 HB.out _⟩
theorem Check_12 (cb cp cs cu co cr cg ca cz : Int) (k1 : btw cb 1 1024 = true) (k2 : btw cp 4 256 = true) (k3 : (cp % 2 == 0) = true) (k4 : btw cs 128 448 = true) (k5 : (cs % 64 == 0) = true) (k6 : btw cu 1 16384 = true) (k7 : btw co 1 256 = true) (k8 : btw cr 1 256 = true) (k9 : btw cg 1 cu = true) (k10 : (cu % cg == 0) = true) (k11 : cu / cg ≤ 32) (k12 : btw ca 0 64 = false) (w : World) : Calls Tryz.prog 48 #[.agg #[.int .i64 cb, .int .i64 cp, .int .i64 cs, .int .i64 cu, .int .i64 co, .int .i64 cr, .int .i64 cg, .int .i64 ca, .int .i64 cz]] w fun e w' => e = .returned (.int .i64 1) ∧ Below w.heap.size w w' := by
  have t2 := (btw_iff _ _ _).1 k2
  have t4 := (btw_iff _ _ _).1 k4
  have t6 := (btw_iff _ _ _).1 k6
  have t9 := (btw_iff _ _ _).1 k9
  have m3 : cp.tmod 2 = cp % 2 := Int.tmod_eq_emod_of_nonneg (by omega)
  have m5 : cs.tmod 64 = cs % 64 := Int.tmod_eq_emod_of_nonneg (by omega)
  have m10 : cu.tmod cg = cu % cg := Int.tmod_eq_emod_of_nonneg (by omega)
  have m11 : cu.tdiv cg = cu / cg := Int.tdiv_eq_ediv_of_nonneg (by omega)
  have g0 : ¬ cg = 0 := by omega
  have HD : 0 ≤ cu / cg ∧ cu / cg ≤ cu := ⟨Int.ediv_nonneg (by omega) (by omega), Int.ediv_le_self _ (by omega)⟩
  have w11 : wrap64 (cu / cg) = cu / cg := by unfold wrap64; omega
  clear HD
  clear t2
  clear t4
  clear t6
  clear t9
  have HB : Hid (Below w.heap.size w (w.alloc (.cells #[.int .i64 cb, .int .i64 cp, .int .i64 cs, .int .i64 cu, .int .i64 co, .int .i64 cr, .int .i64 cg, .int .i64 ca, .int .i64 cz] 23))) := by unfold Hid; (repeat (first | (with_reducible refine Below.drew ?_) | (with_reducible refine below_drewN0 ?_ _) | ((with_reducible refine Below.setCell ?_ ?_ _); rotate_left; focus (first | omega | (simp; done) | (simp; omega) | (simp at *; omega))) | ((with_reducible refine Below.alloc ?_ ?_ _); rotate_left; focus (first | omega | (simp; done) | (simp; omega) | (simp at *; omega))) | (with_reducible exact Below.refl _ _)))
  go_enter Tryz.func48, Tryz.ntmps48
  repeat (go_wp2_with fail; refine (between_any _ _ _ _).mono ?_; rintro e w' ⟨rfl, rfl⟩)
  go_wp2_with fail
  go_quiet (fail)
  go_wp2
  go_ret
  exact ⟨rfl, below_drewN0 HB.out _⟩
theorem Check_13 (cb cp cs cu co cr cg ca cz : Int) (k1 : btw cb 1 1024 = true) (k2 : btw cp 4 256 = true) (k3 : (cp % 2 == 0) = true) (k4 : btw cs 128 448 = true) (k5 : (cs % 64 == 0) = true) (k6 : btw cu 1 16384 = true) (k7 : btw co 1 256 = true) (k8 : btw cr 1 256 = true) (k9 : btw cg 1 cu = true) (k10 : (cu % cg == 0) = true) (k11 : cu / cg ≤ 32) (k12 : btw ca 0 64 = true) (k13 : btw cz 0 cb = false) (w : World) : Calls Tryz.prog 48 #[.agg #[.int .i64 cb, .int .i64 cp, .int .i64 cs, .int .i64 cu, .int .i64 co, .int .i64 cr, .int .i64 cg, .int .i64 ca, .int .i64 cz]] w fun e w' => e = .returned (.int .i64 1) ∧ Below w.heap.size w w' := by
  have t2 := (btw_iff _ _ _).1 k2
  have t4 := (btw_iff _ _ _).1 k4
  have t6 := (btw_iff _ _ _).1 k6
  have t9 := (btw_iff _ _ _).1 k9
  have m3 : cp.tmod 2 = cp % 2 := Int.tmod_eq_emod_of_nonneg (by omega)
  have m5 : cs.tmod 64 = cs % 64 := Int.tmod_eq_emod_of_nonneg (by omega)
  have m10 : cu.tmod cg = cu % cg := Int.tmod_eq_emod_of_nonneg (by omega)
  have m11 : cu.tdiv cg = cu / cg := Int.tdiv_eq_ediv_of_nonneg (by omega)
  have g0 : ¬ cg = 0 := by omega
  have HD : 0 ≤ cu / cg ∧ cu / cg ≤ cu := ⟨Int.ediv_nonneg (by omega) (by omega), Int.ediv_le_self _ (by omega)⟩
  have w11 : wrap64 (cu / cg) = cu / cg := by unfold wrap64; omega
  clear HD
  clear t2
  clear t4
  clear t6
  clear t9
  have HB : Hid (Below w.heap.size w (w.alloc (.cells #[.int .i64 cb, .int .i64 cp, .int .i64 cs, .int .i64 cu, .int .i64 co, .int .i64 cr, .int .i64 cg, .int .i64 ca, .int .i64 cz] 23))) := by unfold Hid; (repeat (first | (with_reducible refine Below.drew ?_) | (with_reducible refine below_drewN0 ?_ _) | ((with_reducible refine Below.setCell ?_ ?_ _); rotate_left; focus (first | omega | (simp; done) | (simp; omega) | (simp at *; omega))) | ((with_reducible refine Below.alloc ?_ ?_ _); rotate_left; focus (first | omega | (simp; done) | (simp; omega) | (simp at *; omega))) | (with_reducible exact Below.refl _ _)))
  go_enter Tryz.func48, Tryz.ntmps48
  repeat (go_wp2_with fail; refine (between_any _ _ _ _).mono ?_; rintro e w' ⟨rfl, rfl⟩)
  go_wp2_with fail
  go_quiet (fail)
  go_wp2
  go_ret
  exact ⟨rfl, below_drewN0 HB.out _⟩
theorem Check_ok (cb cp cs cu co cr cg ca cz : Int) (k1 : btw cb 1 1024 = true) (k2 : btw cp 4 256 = true) (k3 : (cp % 2 == 0) = true) (k4 : btw cs 128 448 = true) (k5 : (cs % 64 == 0) = true) (k6 : btw cu 1 16384 = true) (k7 : btw co 1 256 = true) (k8 : btw cr 1 256 = true) (k9 : btw cg 1 cu = true) (k10 : (cu % cg == 0) = true) (k11 : cu / cg ≤ 32) (k12 : btw ca 0 64 = true) (k13 : btw cz 0 cb = true) (kn : ¬ needV ⟨cb, cp, cs, cu, co, cr, cg, ca, cz⟩ 0 > cb) (w : World) : Calls Tryz.prog 48 #[.agg #[.int .i64 cb, .int .i64 cp, .int .i64 cs, .int .i64 cu, .int .i64 co, .int .i64 cr, .int .i64 cg, .int .i64 ca, .int .i64 cz]] w fun e w' => e = .returned (.int .i64 0) ∧ Below w.heap.size w w' := by
  have t7 := (btw_iff _ _ _).1 k7
  have t8 := (btw_iff _ _ _).1 k8
  have t13 := (btw_iff _ _ _).1 k13
  have t1 := (btw_iff _ _ _).1 k1
  have t2 := (btw_iff _ _ _).1 k2
  have t6 := (btw_iff _ _ _).1 k6
  have HNd : ∀ wr, Hid _ := fun wr => Lib.hid (Need_any ⟨cb, cp, cs, cu, co, cr, cg, ca, cz⟩ 0 (by simp only; omega) (by simp only; omega) (by simp only; omega) (by simp only; omega) (by simp only; omega) (by simp only; omega) wr)
  simp only [Cf.l] at HNd
  generalize needV ⟨cb, cp, cs, cu, co, cr, cg, ca, cz⟩ 0 = nd at *
  clear t7 t8 t13 t1 t2 t6
  have t2 := (btw_iff _ _ _).1 k2
  have t4 := (btw_iff _ _ _).1 k4
  have t6 := (btw_iff _ _ _).1 k6
  have t9 := (btw_iff _ _ _).1 k9
  have m3 : cp.tmod 2 = cp % 2 := Int.tmod_eq_emod_of_nonneg (by omega)
  have m5 : cs.tmod 64 = cs % 64 := Int.tmod_eq_emod_of_nonneg (by omega)
  have m10 : cu.tmod cg = cu % cg := Int.tmod_eq_emod_of_nonneg (by omega)
  have m11 : cu.tdiv cg = cu / cg := Int.tdiv_eq_ediv_of_nonneg (by omega)
  have g0 : ¬ cg = 0 := by omega
  have HD : 0 ≤ cu / cg ∧ cu / cg ≤ cu := ⟨Int.ediv_nonneg (by omega) (by omega), Int.ediv_le_self _ (by omega)⟩
  have w11 : wrap64 (cu / cg) = cu / cg := by unfold wrap64; omega
  clear HD
  clear t2
  clear t4
  clear t6
  clear t9
  obtain ⟨wA, hwA⟩ : ∃ wA, wA = (w.alloc (.cells #[.int .i64 cb, .int .i64 cp, .int .i64 cs, .int .i64 cu, .int .i64 co, .int .i64 cr, .int .i64 cg, .int .i64 ca, .int .i64 cz] 23)) := ⟨_, rfl⟩
  have HB : Hid (Below w.heap.size w wA) := by unfold Hid; rw [hwA]; (repeat (first | (with_reducible refine Below.drew ?_) | (with_reducible refine below_drewN0 ?_ _) | ((with_reducible refine Below.setCell ?_ ?_ _); rotate_left; focus (first | omega | (simp; done) | (simp; omega) | (simp at *; omega))) | ((with_reducible refine Below.alloc ?_ ?_ _); rotate_left; focus (first | omega | (simp; done) | (simp; omega) | (simp at *; omega))) | (with_reducible exact Below.refl _ _)))
  have HR : Hid (Row wA w.heap.size 23 #[.int .i64 cb, .int .i64 cp, .int .i64 cs, .int .i64 cu, .int .i64 co, .int .i64 cr, .int .i64 cg, .int .i64 ca, .int .i64 cz]) := by unfold Hid; rw [hwA]; exact Row.fresh w _ _
  have r0 : ∀ t : Later wA, t.u.cell? ⟨w.heap.size, 0, none⟩ = some (.int .i64 cb) := fun t => by rw [(HR.out.below t.h HR.out.lt).cell]; rfl
  have r1 : ∀ t : Later wA, t.u.cell? ⟨w.heap.size, 1, none⟩ = some (.int .i64 cp) := fun t => by rw [(HR.out.below t.h HR.out.lt).cell]; rfl
  have r2 : ∀ t : Later wA, t.u.cell? ⟨w.heap.size, 2, none⟩ = some (.int .i64 cs) := fun t => by rw [(HR.out.below t.h HR.out.lt).cell]; rfl
  have r3 : ∀ t : Later wA, t.u.cell? ⟨w.heap.size, 3, none⟩ = some (.int .i64 cu) := fun t => by rw [(HR.out.below t.h HR.out.lt).cell]; rfl
  have r4 : ∀ t : Later wA, t.u.cell? ⟨w.heap.size, 4, none⟩ = some (.int .i64 co) := fun t => by rw [(HR.out.below t.h HR.out.lt).cell]; rfl
  have r5 : ∀ t : Later wA, t.u.cell? ⟨w.heap.size, 5, none⟩ = some (.int .i64 cr) := fun t => by rw [(HR.out.below t.h HR.out.lt).cell]; rfl
  have r6 : ∀ t : Later wA, t.u.cell? ⟨w.heap.size, 6, none⟩ = some (.int .i64 cg) := fun t => by rw [(HR.out.below t.h HR.out.lt).cell]; rfl
  have r7 : ∀ t : Later wA, t.u.cell? ⟨w.heap.size, 7, none⟩ = some (.int .i64 ca) := fun t => by rw [(HR.out.below t.h HR.out.lt).cell]; rfl
  have r8 : ∀ t : Later wA, t.u.cell? ⟨w.heap.size, 8, none⟩ = some (.int .i64 cz) := fun t => by rw [(HR.out.below t.h HR.out.lt).cell]; rfl
  go_enter Tryz.func48, Tryz.ntmps48
  repeat (go_wp2_with fail; refine (between_any _ _ _ _).mono ?_; rintro e w' ⟨rfl, rfl⟩)
  go_wp2_with fail
  rw [← hwA]
  clear hwA
  refine region_later (by kernel_rfl) (by kernel_rfl) ?_
  repeat (go_big_quiet_step ((go_at_call 113; exact Later.call (HNd _).out)))
  refine wpQuiet_nil ?_
  intro t
  clear r0 r1 r2 r3 r4 r5 r6 r7 r8
  go_wp2
  go_ret
  exact ⟨rfl, HB.out.trans (t.h.mono HB.out.size)⟩
theorem Check_no (cb cp cs cu co cr cg ca cz : Int) (k1 : btw cb 1 1024 = true) (k2 : btw cp 4 256 = true) (k3 : (cp % 2 == 0) = true) (k4 : btw cs 128 448 = true) (k5 : (cs % 64 == 0) = true) (k6 : btw cu 1 16384 = true) (k7 : btw co 1 256 = true) (k8 : btw cr 1 256 = true) (k9 : btw cg 1 cu = true) (k10 : (cu % cg == 0) = true) (k11 : cu / cg ≤ 32) (k12 : btw ca 0 64 = true) (k13 : btw cz 0 cb = true) (kn : needV ⟨cb, cp, cs, cu, co, cr, cg, ca, cz⟩ 0 > cb) (w : World) : Calls Tryz.prog 48 #[.agg #[.int .i64 cb, .int .i64 cp, .int .i64 cs, .int .i64 cu, .int .i64 co, .int .i64 cr, .int .i64 cg, .int .i64 ca, .int .i64 cz]] w fun e w' => e = .returned (.int .i64 1) ∧ Below w.heap.size w w' := by
  have t7 := (btw_iff _ _ _).1 k7
  have t8 := (btw_iff _ _ _).1 k8
  have t13 := (btw_iff _ _ _).1 k13
  have t1 := (btw_iff _ _ _).1 k1
  have t2 := (btw_iff _ _ _).1 k2
  have t6 := (btw_iff _ _ _).1 k6
  have HNd : ∀ wr, Hid _ := fun wr => Lib.hid (Need_any ⟨cb, cp, cs, cu, co, cr, cg, ca, cz⟩ 0 (by simp only; omega) (by simp only; omega) (by simp only; omega) (by simp only; omega) (by simp only; omega) (by simp only; omega) wr)
  simp only [Cf.l] at HNd
  generalize needV ⟨cb, cp, cs, cu, co, cr, cg, ca, cz⟩ 0 = nd at *
  clear t7 t8 t13 t1 t2 t6
  have t2 := (btw_iff _ _ _).1 k2
  have t4 := (btw_iff _ _ _).1 k4
  have t6 := (btw_iff _ _ _).1 k6
  have t9 := (btw_iff _ _ _).1 k9
  have m3 : cp.tmod 2 = cp % 2 := Int.tmod_eq_emod_of_nonneg (by omega)
  have m5 : cs.tmod 64 = cs % 64 := Int.tmod_eq_emod_of_nonneg (by omega)
  have m10 : cu.tmod cg = cu % cg := Int.tmod_eq_emod_of_nonneg (by omega)
  have m11 : cu.tdiv cg = cu / cg := Int.tdiv_eq_ediv_of_nonneg (by omega)
  have g0 : ¬ cg = 0 := by omega
  have HD : 0 ≤ cu / cg ∧ cu / cg ≤ cu := ⟨Int.ediv_nonneg (by omega) (by omega), Int.ediv_le_self _ (by omega)⟩
  have w11 : wrap64 (cu / cg) = cu / cg := by unfold wrap64; omega
  clear HD
  clear t2
  clear t4
  clear t6
  clear t9
  obtain ⟨wA, hwA⟩ : ∃ wA, wA = (w.alloc (.cells #[.int .i64 cb, .int .i64 cp, .int .i64 cs, .int .i64 cu, .int .i64 co, .int .i64 cr, .int .i64 cg, .int .i64 ca, .int .i64 cz] 23)) := ⟨_, rfl⟩
  have HB : Hid (Below w.heap.size w wA) := by unfold Hid; rw [hwA]; (repeat (first | (with_reducible refine Below.drew ?_) | (with_reducible refine below_drewN0 ?_ _) | ((with_reducible refine Below.setCell ?_ ?_ _); rotate_left; focus (first | omega | (simp; done) | (simp; omega) | (simp at *; omega))) | ((with_reducible refine Below.alloc ?_ ?_ _); rotate_left; focus (first | omega | (simp; done) | (simp; omega) | (simp at *; omega))) | (with_reducible exact Below.refl _ _)))
  have HR : Hid (Row wA w.heap.size 23 #[.int .i64 cb, .int .i64 cp, .int .i64 cs, .int .i64 cu, .int .i64 co, .int .i64 cr, .int .i64 cg, .int .i64 ca, .int .i64 cz]) := by unfold Hid; rw [hwA]; exact Row.fresh w _ _
  have r0 : ∀ t : Later wA, t.u.cell? ⟨w.heap.size, 0, none⟩ = some (.int .i64 cb) := fun t => by rw [(HR.out.below t.h HR.out.lt).cell]; rfl
  have r1 : ∀ t : Later wA, t.u.cell? ⟨w.heap.size, 1, none⟩ = some (.int .i64 cp) := fun t => by rw [(HR.out.below t.h HR.out.lt).cell]; rfl
  have r2 : ∀ t : Later wA, t.u.cell? ⟨w.heap.size, 2, none⟩ = some (.int .i64 cs) := fun t => by rw [(HR.out.below t.h HR.out.lt).cell]; rfl
  have r3 : ∀ t : Later wA, t.u.cell? ⟨w.heap.size, 3, none⟩ = some (.int .i64 cu) := fun t => by rw [(HR.out.below t.h HR.out.lt).cell]; rfl
  have r4 : ∀ t : Later wA, t.u.cell? ⟨w.heap.size, 4, none⟩ = some (.int .i64 co) := fun t => by rw [(HR.out.below t.h HR.out.lt).cell]; rfl
  have r5 : ∀ t : Later wA, t.u.cell? ⟨w.heap.size, 5, none⟩ = some (.int .i64 cr) := fun t => by rw [(HR.out.below t.h HR.out.lt).cell]; rfl
  have r6 : ∀ t : Later wA, t.u.cell? ⟨w.heap.size, 6, none⟩ = some (.int .i64 cg) := fun t => by rw [(HR.out.below t.h HR.out.lt).cell]; rfl
  have r7 : ∀ t : Later wA, t.u.cell? ⟨w.heap.size, 7, none⟩ = some (.int .i64 ca) := fun t => by rw [(HR.out.below t.h HR.out.lt).cell]; rfl
  have r8 : ∀ t : Later wA, t.u.cell? ⟨w.heap.size, 8, none⟩ = some (.int .i64 cz) := fun t => by rw [(HR.out.below t.h HR.out.lt).cell]; rfl
  go_enter Tryz.func48, Tryz.ntmps48
  repeat (go_wp2_with fail; refine (between_any _ _ _ _).mono ?_; rintro e w' ⟨rfl, rfl⟩)
  go_wp2_with fail
  rw [← hwA]
  clear hwA
  refine region_later (by kernel_rfl) (by kernel_rfl) ?_
  repeat (go_big_quiet_step ((go_at_call 113; exact Later.call (HNd _).out)))
  refine wpQuiet_nil ?_
  intro t
  clear r0 r1 r2 r3 r4 r5 r6 r7 r8
  go_wp2
  go_ret
  exact ⟨rfl, HB.out.trans (t.h.mono HB.out.size)⟩
end Go.Proofs.YtclhhdodebdmjaaGreat

namespace Go.Proofs.YtclhhdodebdmjaaGreat
open Go.RowKit Go.MapKept Go.ChangeMaps
set_option linter.unusedVariables false
set_option linter.unusedSimpArgs false
set_option maxRecDepth 100000

structure Plain (c : Cf) : Prop where
  k1 : btw c.blocks 1 1024 = true
  k2 : btw c.pages 4 256 = true
  k3 : (c.pages % 2 == 0) = true
  k4 : btw c.sector 128 448 = true
  k5 : (c.sector % 64 == 0) = true
  k6 : btw c.user 1 16384 = true
  k7 : btw c.boot 1 256 = true
  k8 : btw c.rpa 1 256 = true
  k9 : btw c.group 1 c.user = true
  k10 : (c.user % c.group == 0) = true
  k11 : c.user / c.group ≤ 32
  k12 : btw c.cache 0 64 = true
  k13 : btw c.spare 0 c.blocks = true
/-- A shape that may be. -/
def OkC (c : Cf) : Prop := Plain c ∧ ¬ needV c 0 > c.blocks
open Classical in
noncomputable def okB (c : Cf) : Bool := decide (OkC c)
open Classical in
noncomputable def plB (c : Cf) : Bool := decide (Plain c)
open Classical in
noncomputable def checkV (c : Cf) : Int := if OkC c then 0 else 1

theorem Check_any (c : Cf) (w : World) : Calls Tryz.prog 48 #[.agg c.l.toArray] w fun e w' => e = .returned (.int .i64 (checkV c)) ∧ Below w.heap.size w w' := by
  obtain ⟨cb, cp, cs, cu, co, cr, cg, ca, cz⟩ := c
  have no : ¬ OkC ⟨cb, cp, cs, cu, co, cr, cg, ca, cz⟩ → checkV ⟨cb, cp, cs, cu, co, cr, cg, ca, cz⟩ = 1 := fun h => by unfold checkV; rw [if_neg h]
  by_cases h1 : btw cb 1 1024 = true
  case neg => exact (by rw [no (fun hp => h1 hp.1.k1)]; exact Check_1 cb cp cs cu co cr cg ca cz  (by simpa using h1) w)
  by_cases h2 : btw cp 4 256 = true
  case neg => exact (by rw [no (fun hp => h2 hp.1.k2)]; exact Check_2 cb cp cs cu co cr cg ca cz h1 (by simpa using h2) w)
  by_cases h3 : (cp % 2 == 0) = true
  case neg => exact (by rw [no (fun hp => h3 hp.1.k3)]; exact Check_3 cb cp cs cu co cr cg ca cz h1 h2 (by simpa using h3) w)
  by_cases h4 : btw cs 128 448 = true
  case neg => exact (by rw [no (fun hp => h4 hp.1.k4)]; exact Check_4 cb cp cs cu co cr cg ca cz h1 h2 h3 (by simpa using h4) w)
  by_cases h5 : (cs % 64 == 0) = true
  case neg => exact (by rw [no (fun hp => h5 hp.1.k5)]; exact Check_5 cb cp cs cu co cr cg ca cz h1 h2 h3 h4 (by simpa using h5) w)
  by_cases h6 : btw cu 1 16384 = true
  case neg => exact (by rw [no (fun hp => h6 hp.1.k6)]; exact Check_6 cb cp cs cu co cr cg ca cz h1 h2 h3 h4 h5 (by simpa using h6) w)
  by_cases h7 : btw co 1 256 = true
  case neg => exact (by rw [no (fun hp => h7 hp.1.k7)]; exact Check_7 cb cp cs cu co cr cg ca cz h1 h2 h3 h4 h5 h6 (by simpa using h7) w)
  by_cases h8 : btw cr 1 256 = true
  case neg => exact (by rw [no (fun hp => h8 hp.1.k8)]; exact Check_8 cb cp cs cu co cr cg ca cz h1 h2 h3 h4 h5 h6 h7 (by simpa using h8) w)
  by_cases h9 : btw cg 1 cu = true
  case neg => exact (by rw [no (fun hp => h9 hp.1.k9)]; exact Check_9 cb cp cs cu co cr cg ca cz h1 h2 h3 h4 h5 h6 h7 h8 (by simpa using h9) w)
  by_cases h10 : (cu % cg == 0) = true
  case neg => exact (by rw [no (fun hp => h10 hp.1.k10)]; exact Check_10 cb cp cs cu co cr cg ca cz h1 h2 h3 h4 h5 h6 h7 h8 h9 (by simpa using h10) w)
  by_cases h11 : cu / cg ≤ 32
  case neg => exact (by rw [no (fun hp => h11 hp.1.k11)]; exact Check_11 cb cp cs cu co cr cg ca cz h1 h2 h3 h4 h5 h6 h7 h8 h9 h10 h11 w)
  by_cases h12 : btw ca 0 64 = true
  case neg => exact (by rw [no (fun hp => h12 hp.1.k12)]; exact Check_12 cb cp cs cu co cr cg ca cz h1 h2 h3 h4 h5 h6 h7 h8 h9 h10 h11 (by simpa using h12) w)
  by_cases h13 : btw cz 0 cb = true
  case neg => exact (by rw [no (fun hp => h13 hp.1.k13)]; exact Check_13 cb cp cs cu co cr cg ca cz h1 h2 h3 h4 h5 h6 h7 h8 h9 h10 h11 h12 (by simpa using h13) w)
  have hp : Plain ⟨cb, cp, cs, cu, co, cr, cg, ca, cz⟩ := ⟨h1, h2, h3, h4, h5, h6, h7, h8, h9, h10, h11, h12, h13⟩
  by_cases hn : needV ⟨cb, cp, cs, cu, co, cr, cg, ca, cz⟩ 0 > cb
  · rw [no (fun x => x.2 hn)]; exact Check_no cb cp cs cu co cr cg ca cz h1 h2 h3 h4 h5 h6 h7 h8 h9 h10 h11 h12 h13 hn w
  · rw [show checkV ⟨cb, cp, cs, cu, co, cr, cg, ca, cz⟩ = 0 by unfold checkV; rw [if_pos ⟨hp, hn⟩]]; exact Check_ok cb cp cs cu co cr cg ca cz h1 h2 h3 h4 h5 h6 h7 h8 h9 h10 h11 h12 h13 hn w
theorem Groups_any (c : Cf) (hg : 1 ≤ c.group) (hu : 0 ≤ c.user ∧ c.user ≤ 16384) (w : World) : Calls Tryz.prog 50 #[.agg c.l.toArray] w fun e w' => e = .returned (.int .i64 (c.user / c.group)) ∧ Below w.heap.size w w' := by
  obtain ⟨cb, cp, cs, cu, co, cr, cg, ca, cz⟩ := c
  simp only [Cf.l] at *
  have m11 : cu.tdiv cg = cu / cg := Int.tdiv_eq_ediv_of_nonneg (by omega)
  have g0 : ¬ cg = 0 := by omega
  have g1 : ¬ cg < 1 := by omega
  have HD : 0 ≤ cu / cg ∧ cu / cg ≤ cu := ⟨Int.ediv_nonneg (by omega) (by omega), Int.ediv_le_self _ (by omega)⟩
  have w11 : wrap64 (cu / cg) = cu / cg := by unfold wrap64; omega
  clear HD
  have HB : Hid (Below w.heap.size w (w.alloc (.cells #[.int .i64 cb, .int .i64 cp, .int .i64 cs, .int .i64 cu, .int .i64 co, .int .i64 cr, .int .i64 cg, .int .i64 ca, .int .i64 cz] 23))) := by unfold Hid; (repeat (first | (with_reducible refine Below.drew ?_) | (with_reducible refine below_drewN0 ?_ _) | ((with_reducible refine Below.setCell ?_ ?_ _); rotate_left; focus (first | omega | (simp; done) | (simp; omega) | (simp at *; omega))) | ((with_reducible refine Below.alloc ?_ ?_ _); rotate_left; focus (first | omega | (simp; done) | (simp; omega) | (simp at *; omega))) | (with_reducible exact Below.refl _ _)))
  go_enter Tryz.func50, Tryz.ntmps50
  go_wp2
  go_ret
  exact ⟨rfl, HB.out⟩
theorem Total_any (c : Cf) (hu : 1 ≤ c.user ∧ c.user ≤ 16384) (ho : 1 ≤ c.boot ∧ c.boot ≤ 256) (hr : 1 ≤ c.rpa ∧ c.rpa ≤ 256) (w : World) : Calls Tryz.prog 51 #[.agg c.l.toArray] w fun e w' => e = .returned (.int .i64 (c.user + 2 * c.boot + c.rpa)) ∧ Below w.heap.size w w' := by
  obtain ⟨cb, cp, cs, cu, co, cr, cg, ca, cz⟩ := c
  simp only [Cf.l] at *
  have s1 : wrap64 (2 * co) = 2 * co := by unfold wrap64; omega
  have s2 : wrap64 (cu + 2 * co) = cu + 2 * co := by unfold wrap64; omega
  have s3 : wrap64 (cu + 2 * co + cr) = cu + 2 * co + cr := by unfold wrap64; omega
  have HB : Hid (Below w.heap.size w (w.alloc (.cells #[.int .i64 cb, .int .i64 cp, .int .i64 cs, .int .i64 cu, .int .i64 co, .int .i64 cr, .int .i64 cg, .int .i64 ca, .int .i64 cz] 23))) := by unfold Hid; (repeat (first | (with_reducible refine Below.drew ?_) | (with_reducible refine below_drewN0 ?_ _) | ((with_reducible refine Below.setCell ?_ ?_ _); rotate_left; focus (first | omega | (simp; done) | (simp; omega) | (simp at *; omega))) | ((with_reducible refine Below.alloc ?_ ?_ _); rotate_left; focus (first | omega | (simp; done) | (simp; omega) | (simp at *; omega))) | (with_reducible exact Below.refl _ _)))
  go_enter Tryz.func51, Tryz.ntmps51
  go_wp2
  go_ret
  exact ⟨rfl, HB.out⟩

theorem rin_any (v lo hi : Int) (w : World) : Calls Tryz.prog 161 #[.int .i64 v, .int .i64 lo, .int .i64 hi] w fun e w' => e = .returned (.bool (btw v lo hi)) ∧ w' = w := by
  by_cases h1 : lo ≤ v
  · by_cases h2 : v ≤ hi
    · have HE : Hid (btw v lo hi = true) := by unfold Hid btw; simp [h1, h2]
      go_enter Tryz.func161, Tryz.ntmps161
      go_wp2
      go_ret
      exact ⟨by rw [HE.out]; rfl, rfl⟩
    · have HE : Hid (btw v lo hi = false) := by unfold Hid btw; simp [h2]
      go_enter Tryz.func161, Tryz.ntmps161
      go_wp2
      go_ret
      exact ⟨by rw [HE.out]; rfl, rfl⟩
  · have HE : Hid (btw v lo hi = false) := by unfold Hid btw; simp [h1]
    go_enter Tryz.func161, Tryz.ntmps161
    go_wp2
    go_ret
    exact ⟨by rw [HE.out]; rfl, rfl⟩
theorem rup_any (n b : Int) (hn : 0 ≤ n ∧ n ≤ 1048576) (hb : 1 ≤ b ∧ b ≤ 65536) (w : World) : Calls Tryz.prog 162 #[.int .i64 n, .int .i64 b] w fun e w' => e = .returned (.int .i64 (upV n b)) ∧ w' = w := by
  have hb0 : ¬ b = 0 := by omega
  go_enter Tryz.func162, Tryz.ntmps162
  go_wp2
  go_ret
  exact ⟨rfl, rfl⟩

end Go.Proofs.YtclhhdodebdmjaaGreat

namespace Go.Proofs.YtclhhdodebdmjaaGreat
open Go.RowKit Go.MapKept Go.ChangeMaps
set_option linter.unusedVariables false
set_option linter.unusedSimpArgs false
set_option maxRecDepth 100000

/-- A setting. -/
structure St where
  z0 : Int
  z1 : Int
  z2 : Int
  z3 : Int
  en : Nat
  done : Bool
def St.l (s : St) : List Value := [.int .i64 s.z0, .int .i64 s.z1, .int .i64 s.z2, .int .i64 s.z3, .int .u8 s.en, .bool s.done]
/-- An area's size, by its number. -/
def sizeV (c : Cf) (s : St) (a : Nat) : Int := if a = 0 then c.user - (s.z0 + s.z1 + s.z2 + s.z3) * c.group else if a = 1 then c.boot else if a = 2 then c.boot else if a = 3 then c.rpa else if a = 4 then s.z0 * c.group else if a = 5 then s.z1 * c.group else if a = 6 then s.z2 * c.group else if a = 7 then s.z3 * c.group else 0
/-- Where an area begins. -/
def firstV (c : Cf) (s : St) (a : Nat) : Int := if a = 0 then 0 else if a = 4 then sizeV c s 0 else if a = 5 then sizeV c s 0 + sizeV c s 4 else if a = 6 then sizeV c s 0 + sizeV c s 4 + sizeV c s 5 else if a = 7 then sizeV c s 0 + sizeV c s 4 + sizeV c s 5 + sizeV c s 6 else if a = 1 then c.user else if a = 2 then c.user + c.boot else if a = 3 then c.user + 2 * c.boot else 0
/-- A table's cells: the shape, what is set, what is so, and whether all was reckoned. -/
def tabV (c : Cf) (s now : St) (r : Bool) : Array Value :=
  (c.l ++ (s.l ++ (now.l ++ ([Value.int .u32 (if r then 1 else 0), Value.int .i32 0, Value.int .u32 0] ++ ((List.range 8).map (fun a => Value.int .i64 (if r then sizeV c now a else 0)) ++ (List.range 8).map (fun a => Value.int .i64 (if r then firstV c now a else 0))))))).toArray
theorem checkV_ok {c : Cf} (h : OkC c) : checkV c = 0 := by unfold checkV; rw [if_pos h]
theorem ANew_ok (c : Cf) (h : OkC c) (z0 z1 z2 z3 : Int) (en : Nat) (w : World) : Calls Tryz.prog 114 #[.agg c.l.toArray, .agg #[.int .i64 z0, .int .i64 z1, .int .i64 z2, .int .i64 z3, .int .u8 en, .bool false]] w fun e w' => ∃ g, e = .returned (.tuple #[.pointer (some ⟨g, 0, none⟩), .int .i64 0]) ∧ Row w' g 197 (tabV c ⟨z0, z1, z2, z3, en, false⟩ ⟨0, 0, 0, 0, 0, false⟩ false) ∧ w.heap.size ≤ g ∧ Below w.heap.size w w' := by
  have HC : ∀ wr, Hid _ := fun wr => Lib.hid (Check_any c wr)
  rw [checkV_ok h] at HC
  obtain ⟨cb, cp, cs, cu, co, cr, cg, ca, cz⟩ := c
  simp only [Cf.l] at *
  clear h
  obtain ⟨W, hW⟩ : ∃ W, W = (w.alloc (.cells #[.int .i64 cb, .int .i64 cp, .int .i64 cs, .int .i64 cu, .int .i64 co, .int .i64 cr, .int .i64 cg, .int .i64 ca, .int .i64 cz] 23)).alloc (.cells #[.int .i64 z0, .int .i64 z1, .int .i64 z2, .int .i64 z3, .int .u8 en, .bool false] 184) := ⟨_, rfl⟩
  have HB : Hid (Below w.heap.size w W) := by unfold Hid; rw [hW]; (repeat (first | (with_reducible refine Below.drew ?_) | (with_reducible refine below_drewN0 ?_ _) | ((with_reducible refine Below.setCell ?_ ?_ _); rotate_left; focus (first | omega | (simp; done) | (simp; omega) | (simp at *; omega))) | ((with_reducible refine Below.alloc ?_ ?_ _); rotate_left; focus (first | omega | (simp; done) | (simp; omega) | (simp at *; omega))) | (with_reducible exact Below.refl _ _)))
  have HR1 : Hid (Row W w.heap.size 23 #[.int .i64 cb, .int .i64 cp, .int .i64 cs, .int .i64 cu, .int .i64 co, .int .i64 cr, .int .i64 cg, .int .i64 ca, .int .i64 cz]) := by
    unfold Hid; rw [hW]
    exact (Row.fresh w _ _).below ((Below.refl _ _).alloc (Nat.le_refl _) _) (by simp)
  have HR2 : Hid (Row W (w.heap.size + 1) 184 #[.int .i64 z0, .int .i64 z1, .int .i64 z2, .int .i64 z3, .int .u8 en, .bool false]) := by
    unfold Hid; rw [hW]
    have := Row.fresh (w.alloc (.cells #[.int .i64 cb, .int .i64 cp, .int .i64 cs, .int .i64 cu, .int .i64 co, .int .i64 cr, .int .i64 cg, .int .i64 ca, .int .i64 cz] 23)) 184 #[.int .i64 z0, .int .i64 z1, .int .i64 z2, .int .i64 z3, .int .u8 en, .bool false]
    simpa using this
  go_enter Tryz.func114, Tryz.ntmps114
  go_wp2_with fail
  rw [← hW]
  clear hW
  refine (HC _).out.mono ?_
  rintro e w1 ⟨rfl, hb⟩
  have R1 := HR1.out.below hb HR1.out.lt
  have R2 := HR2.out.below hb HR2.out.lt
  have HBb : Hid (Below w.heap.size w w1) := HB.out.trans (hb.mono HB.out.size)
  have q0 : w1.cell? ⟨w.heap.size, 0, none⟩ = some (.int .i64 cb) := by rw [R1.cell]; rfl
  have q1 : w1.cell? ⟨w.heap.size, 1, none⟩ = some (.int .i64 cp) := by rw [R1.cell]; rfl
  have q2 : w1.cell? ⟨w.heap.size, 2, none⟩ = some (.int .i64 cs) := by rw [R1.cell]; rfl
  have q3 : w1.cell? ⟨w.heap.size, 3, none⟩ = some (.int .i64 cu) := by rw [R1.cell]; rfl
  have q4 : w1.cell? ⟨w.heap.size, 4, none⟩ = some (.int .i64 co) := by rw [R1.cell]; rfl
  have q5 : w1.cell? ⟨w.heap.size, 5, none⟩ = some (.int .i64 cr) := by rw [R1.cell]; rfl
  have q6 : w1.cell? ⟨w.heap.size, 6, none⟩ = some (.int .i64 cg) := by rw [R1.cell]; rfl
  have q7 : w1.cell? ⟨w.heap.size, 7, none⟩ = some (.int .i64 ca) := by rw [R1.cell]; rfl
  have q8 : w1.cell? ⟨w.heap.size, 8, none⟩ = some (.int .i64 cz) := by rw [R1.cell]; rfl
  have s0 : w1.cell? ⟨w.heap.size + 1, 0, none⟩ = some (.int .i64 z0) := by rw [R2.cell]; rfl
  have s1 : w1.cell? ⟨w.heap.size + 1, 1, none⟩ = some (.int .i64 z1) := by rw [R2.cell]; rfl
  have s2 : w1.cell? ⟨w.heap.size + 1, 2, none⟩ = some (.int .i64 z2) := by rw [R2.cell]; rfl
  have s3 : w1.cell? ⟨w.heap.size + 1, 3, none⟩ = some (.int .i64 z3) := by rw [R2.cell]; rfl
  have s4 : w1.cell? ⟨w.heap.size + 1, 4, none⟩ = some (.int .u8 en) := by rw [R2.cell]; rfl
  have s5 : w1.cell? ⟨w.heap.size + 1, 5, none⟩ = some (.bool false) := by rw [R2.cell]; rfl
  have hlt : w.heap.size + 1 < w1.heap.size := R2.lt
  have HBf : ∀ o, Hid (Below w.heap.size w (w1.alloc o)) := fun o => HBb.out.alloc HBb.out.size o
  have HRf : Hid (Row (w1.alloc (.cells (tabV ⟨cb, cp, cs, cu, co, cr, cg, ca, cz⟩ ⟨z0, z1, z2, z3, en, false⟩ ⟨0, 0, 0, 0, 0, false⟩ false) 197)) w1.heap.size 197 (tabV ⟨cb, cp, cs, cu, co, cr, cg, ca, cz⟩ ⟨z0, z1, z2, z3, en, false⟩ ⟨0, 0, 0, 0, 0, false⟩ false)) := Row.fresh w1 _ _
  have hle := HBb.out.size
  clear R1 R2 hb HR1 HR2 HB HC
  go_wp2
  refine bodyPost_ret (v := .tuple #[.pointer (some ⟨w1.heap.size, 0, none⟩), .int .i64 0]) ?_ ?_ ?_
  · simp [results]
  · rfl
  · exact ⟨w1.heap.size, rfl, HRf.out, hle, (HBf _).out⟩
end Go.Proofs.YtclhhdodebdmjaaGreat

namespace Go.Proofs.YtclhhdodebdmjaaGreat
set_option linter.unusedVariables false
set_option linter.unusedSimpArgs false

/-- What was asked of the keyed area last. -/
inductive Ask where
  | no
  | key (r : Nat)
  | wr (r a : Nat)
  | cnt (n : List Nat)
  | rd (n : List Nat) (a : Nat)
  | oth (k : Nat)
/-- The keyed area. -/
structure Rk where
  key : List Nat
  has : Bool
  ctr : Nat
  now : Ask
  last : Ask
def Rk.new : Rk := ⟨List.replicate 32 0, false, 0, .no, .no⟩
/-- A write in the cache: area, sector, bytes, group. -/
structure Kx where
  a : Int
  s : Int
  l : List Nat
  g : Int
/-- What an engine holds itself. -/
structure Es where
  up : Nat
  count : Nat
  rel : Bool
  pack : Bool
  frm : Option Nat
  til : Option Nat
  area : Int
  head : Nat
  sure : Bool
/-- The card. -/
structure Ab where
  s : Int
  addr : Nat
  left : Int
  V : Rv
  G : List Nat
  now : St
  set : St
  K : Rk
  q : List Kx
  qg : Int
  has : Nat → Option (List Nat)
  was : Nat → Option (List Nat)
  e : Es
  next : List Nat
def St.none : St := ⟨0, 0, 0, 0, 0, false⟩
def Ab.new (c : Cf) : Ab := ⟨0, 0, 0, fun _ => 0, List.replicate (c.user / c.group).toNat 0, .none, .none, .new, [], 0, fun _ => Option.none, fun _ => Option.none, ⟨0, 0, false, false, Option.none, Option.none, 0, 0, false⟩, []⟩
/-- An answer. -/
structure An where
  none : Bool
  long : List Nat
  st : Nat
  bl : List (List Nat)
def An.no : An := ⟨true, [], 0, []⟩
/-- A setting that fits a shape. -/
structure StOk (c : Cf) (s : St) : Prop where
  h0 : 0 ≤ s.z0
  h1 : 0 ≤ s.z1
  h2 : 0 ≤ s.z2
  h3 : 0 ≤ s.z3
  sum : (s.z0 + s.z1 + s.z2 + s.z3) * c.group ≤ c.user
  en : s.en < 256
/-- How many sectors an area has, whatever its number. -/
def sizeI (c : Cf) (t : St) (a : Int) : Int := if 0 ≤ a ∧ a < 8 then sizeV c t a.toNat else 0
/-- Where a sector lies. -/
def placeI (c : Cf) (t : St) (a s : Int) : Option Int := if 0 ≤ s ∧ s < sizeI c t a then some (firstV c t a.toNat + s) else Option.none
/-- The areas in the order in which they lie. -/
def orderL : List Nat := [0, 4, 5, 6, 7, 1, 2, 3]
/-- Which sector lies at a place. -/
def ofI (c : Cf) (t : St) (p : Int) : Option (Nat × Int) := (orderL.find? fun a => decide (firstV c t a ≤ p ∧ p - firstV c t a < sizeV c t a)).map fun a => (a, p - firstV c t a)
def totalI (c : Cf) : Int := c.user + 2 * c.boot + c.rpa
end Go.Proofs.YtclhhdodebdmjaaGreat
