/- CrashHonest: out of its bounds. -/
import Derived.Test.YtomigaldomiefaaCrHonest
import Derived.Test.YtomigaldomiefaaCrArgG
import Derived.Test.YtomigaldomiefaaCrKnown
namespace Go.Proofs.Ytomigaldomiefaa
open Go.RowKit Go.Shelf Go.MapKept Go.ChangeMaps
attribute [local go_sem] Oper.semAt_some
attribute [local simp, local go_sem] wide_fn
set_option linter.unusedVariables false
set_option linter.unusedSimpArgs false

set_option maxRecDepth 100000 in
set_option maxHeartbeats 4000000 in
theorem honest_out (n level : Int) (A1 A2 A3 A4 A5 : Option Addr) (n1 n2 n3 n4 n5 c1 c2 c3 c4 c5 : Nat) (w : World) (hout : n < 1 ∨ 40 < n ∨ 100 < n1 ∨ 8 < n2 ∨ 30 < n4) :
    Calls Try.prog 4 #[.int .i64 n, .slice A1 n1 c1, .slice A2 n2 c2, .int .i64 level, .slice A3 n3 c3, .slice A4 n4 c4, .slice A5 n5 c5] w fun e w' => e = .returned (.bool true) ∧ Below w.heap.size w w' := by
  obtain ⟨w1, hw1⟩ : ∃ w1, w1 = w.alloc (.cells #[.int .i64 n] 3) := ⟨_, rfl⟩
  have HB1 : Hid (Below w.heap.size w w1) := by unfold Hid; rw [hw1]; (repeat (first | (with_reducible refine Below.drew ?_) | (with_reducible refine below_drewN0 ?_ _) | ((with_reducible refine Below.setCell ?_ ?_ _); rotate_left; focus (first | omega | (simp; done) | (simp; omega) | (simp at *; omega))) | ((with_reducible refine Below.alloc ?_ ?_ _); rotate_left; focus (first | omega | (simp; done) | (simp; omega) | (simp at *; omega))) | (with_reducible exact Below.refl _ _)))
  have HR1 : Hid (Row w1 w.heap.size 3 #[.int .i64 n]) := by unfold Hid; rw [hw1]; exact Row.fresh _ _ _
  have HW1 := Lib.hid hw1
  clear hw1
  by_cases q0 : n < 1
  · clear hout
    go_enter Try.func4, Try.ntmps4
    go_wp2_with fail
    rw [← HW1.out]
    refine (known_any w1).mono ?_
    rintro e w2 ⟨rfl, hb⟩
    have HB2 : Hid (Below w.heap.size w w2) := HB1.out.trans (hb.mono HB1.out.size)
    have d1 := (HR1.out.below hb HR1.out.lt).cell 0
    simp only [List.getElem?_toArray, List.getElem?_cons_zero, List.getElem?_cons_succ] at d1
    clear hb
    go_wp2
    go_ret
    exact ⟨rfl, HB2.out⟩
  by_cases q5 : 40 < n
  · clear hout
    go_enter Try.func4, Try.ntmps4
    go_wp2_with fail
    rw [← HW1.out]
    refine (known_any w1).mono ?_
    rintro e w2 ⟨rfl, hb⟩
    have HB2 : Hid (Below w.heap.size w w2) := HB1.out.trans (hb.mono HB1.out.size)
    have d1 := (HR1.out.below hb HR1.out.lt).cell 0
    simp only [List.getElem?_toArray, List.getElem?_cons_zero, List.getElem?_cons_succ] at d1
    clear hb
    go_wp2
    go_ret
    exact ⟨rfl, HB2.out⟩
  by_cases q1 : 100 < n1
  · clear hout
    have p1 : (100 : Int) < n1 := by omega
    go_enter Try.func4, Try.ntmps4
    go_wp2_with fail
    rw [← HW1.out]
    refine (known_any w1).mono ?_
    rintro e w2 ⟨rfl, hb⟩
    have HB2 : Hid (Below w.heap.size w w2) := HB1.out.trans (hb.mono HB1.out.size)
    have d1 := (HR1.out.below hb HR1.out.lt).cell 0
    simp only [List.getElem?_toArray, List.getElem?_cons_zero, List.getElem?_cons_succ] at d1
    clear hb
    go_wp2
    go_ret
    exact ⟨rfl, HB2.out⟩
  have p1 : ¬ (100 : Int) < n1 := by omega
  by_cases q2 : 8 < n2
  · clear hout
    have p2 : (8 : Int) < n2 := by omega
    go_enter Try.func4, Try.ntmps4
    go_wp2_with fail
    rw [← HW1.out]
    refine (known_any w1).mono ?_
    rintro e w2 ⟨rfl, hb⟩
    have HB2 : Hid (Below w.heap.size w w2) := HB1.out.trans (hb.mono HB1.out.size)
    have d1 := (HR1.out.below hb HR1.out.lt).cell 0
    simp only [List.getElem?_toArray, List.getElem?_cons_zero, List.getElem?_cons_succ] at d1
    clear hb
    go_wp2
    go_ret
    exact ⟨rfl, HB2.out⟩
  have p2 : ¬ (8 : Int) < n2 := by omega
  have p3 : (30 : Int) < n4 := by omega
  clear hout
  go_enter Try.func4, Try.ntmps4
  go_wp2_with fail
  rw [← HW1.out]
  refine (known_any w1).mono ?_
  rintro e w2 ⟨rfl, hb⟩
  have HB2 : Hid (Below w.heap.size w w2) := HB1.out.trans (hb.mono HB1.out.size)
  have d1 := (HR1.out.below hb HR1.out.lt).cell 0
  simp only [List.getElem?_toArray, List.getElem?_cons_zero, List.getElem?_cons_succ] at d1
  clear hb
  go_wp2
  go_ret
  exact ⟨rfl, HB2.out⟩
end Go.Proofs.Ytomigaldomiefaa
