/- CrashWhole: out of its bounds; its reader. -/
import Derived.Test.YtomigaldomiefaaCrVals
import Derived.Test.YtomigaldomiefaaCrKnown
import Derived.Test.YtomigaldomiefaaCrWholeP
namespace Go.Proofs.Ytomigaldomiefaa
open Go.RowKit Go.Shelf Go.MapKept Go.ChangeMaps
attribute [local go_sem] Oper.semAt_some
attribute [local simp, local go_sem] wide_fn
set_option linter.unusedVariables false
set_option linter.unusedSimpArgs false

theorem whole_results (tmps : Array Value) (W : World) (R : Nat) (u : Value) (h8 : tmps.getD 8 undef = .pointer (some ⟨R, 0, none⟩)) (r0 : W.cell? ⟨R, 0, none⟩ = some u) :
    (results Try.f5 tmps).run Try.prog W = .ok u W := by
  simp at h8
  simp [results, Try.results5, go_sem, h8, r0]
set_option maxHeartbeats 1000000 in
theorem whole1_any (p Z1 Z2 c : Nat) (pl : Int) (A : Option Addr) (o : List Nat) (w : World) (c1 : w.cell? ⟨Z1, 0, none⟩ = some (.int .i64 pl)) (c2 : w.cell? ⟨Z2, 0, none⟩ = some (.slice A o.length c)) (hd : Cells8 w A o) :
    Calls Try.prog 20 #[.int .i64 p, .pointer (some ⟨Z1, 0, none⟩), .pointer (some ⟨Z2, 0, none⟩)] w fun e w' => ∃ A c, e = .returned (.slice A (if (p : Int) = pl then o else []).length c) ∧ Cells8 w' A (if (p : Int) = pl then o else []) ∧ Below w.heap.size w w' := by
  have HD := Lib.hid hd
  clear hd
  by_cases hp : (p : Int) = pl
  · rw [if_pos hp]
    subst hp
    generalize o.length = ol at *
    go_enter Try.func20, Try.ntmps20
    go_wp2
    go_ret
    exact ⟨A, c, rfl, HD.out, Below.refl _ _⟩
  · rw [if_neg hp]
    generalize o.length = ol at *
    go_enter Try.func20, Try.ntmps20
    go_wp2
    go_ret
    exact ⟨none, 0, rfl, fun i hi => by simp at hi, Below.refl _ _⟩
theorem whole_ok (n Z1 Z2 c : Nat) (hn : n ≤ 4294967296) (pl : Int) (A : Option Addr) (o : List Nat) (hb : ∀ u ∈ o, u < 256) (T : List Nat) (w : World) (h : ∀ V, Turns w V T → V.cell? ⟨Z1, 0, none⟩ = some (.int .i64 pl) ∧ V.cell? ⟨Z2, 0, none⟩ = some (.slice A o.length c) ∧ Cells8 V A o) :
    RdOk w T n 20 #[.pointer (some ⟨Z1, 0, none⟩), .pointer (some ⟨Z2, 0, none⟩)] (fun p => if (p : Int) = pl then o else []) :=
  ⟨enters_of Try.func20 (by kernel_rfl) rfl, fun p hp V hV => whole1_any p Z1 Z2 c pl A o V (h V hV).1 (h V hV).2.1 (h V hV).2.2, fun p u hu => by
    split at hu
    · exact hb u hu
    · cases hu⟩
/-- What is boxed at the start. -/
structure WholeAt (w w1 : World) (pl : Int) (v2 : Value) : Prop where
  below : Below w.heap.size w w1
  z1 : Row w1 w.heap.size 3 #[.int .i64 pl]
  z2 : Row w1 (w.heap.size + 1) 22 #[v2]
  r : Row w1 (w.heap.size + 1 + 1) 4 #[.bool false]
theorem wholeAt (w : World) (pl : Int) (v2 : Value) : WholeAt w (((w.alloc (.cells #[.int .i64 pl] 3)).alloc (.cells #[v2] 22)).alloc (.cells #[.bool false] 4)) pl v2 := by
  refine ⟨by (repeat (first | (with_reducible refine Below.drew ?_) | (with_reducible refine below_drewN0 ?_ _) | ((with_reducible refine Below.setCell ?_ ?_ _); rotate_left; focus (first | omega | (simp; done) | (simp; omega) | (simp at *; omega))) | ((with_reducible refine Below.alloc ?_ ?_ _); rotate_left; focus (first | omega | (simp; done) | (simp; omega) | (simp at *; omega))) | (with_reducible exact Below.refl _ _))), ((Row.fresh _ _ _).alloc _).alloc _, ?_, ?_⟩
  · have := Row.fresh (w.alloc (.cells #[.int .i64 pl] 3)) 22 #[v2]
    rw [World.size_alloc] at this; exact this.alloc _
  · have := Row.fresh ((w.alloc (.cells #[.int .i64 pl] 3)).alloc (.cells #[v2] 22)) 4 #[.bool false]
    simp only [World.size_alloc] at this; exact this
set_option maxRecDepth 100000 in
set_option maxHeartbeats 4000000 in
theorem whole_out (n : Int) (pl : Int) (A1 A2 : Option Addr) (n1 c1 n2 c2 : Nat) (w : World) (hout : n < 1 ∨ 40 < n ∨ 100 < n1 ∨ ¬ n2 = 2) :
    Calls Try.prog 5 #[.int .i64 n, .slice A1 n1 c1, .int .i64 pl, .slice A2 n2 c2] w fun e w' => e = .returned (.bool true) ∧ Below w.heap.size w w' := by
  obtain ⟨w1, hw1⟩ : ∃ w1, w1 = ((w.alloc (.cells #[.int .i64 pl] 3)).alloc (.cells #[.slice A2 n2 c2] 22)).alloc (.cells #[.bool false] 4) := ⟨_, rfl⟩
  have HA : Hid (WholeAt w w1 pl (.slice A2 n2 c2)) := by unfold Hid; rw [hw1]; exact wholeAt _ _ _
  have HW1 := Lib.hid hw1
  clear hw1
  by_cases q1 : n < 1
  · clear hout
    refine (callsIn_wide (n := 9)).1 (callsIn_of_wp_marks Try.func5 rfl trivial ?_ rfl)
    simp only [Try.ntmps5, List.size_toArray, List.length_cons, List.length_nil, Nat.reduceAdd, Nat.reduceSub, Array.replicate_succ, Array.replicate_zero, List.push_toArray, List.append_toArray, List.nil_append, List.cons_append]
    refine wpIn_wide.2 ?_
    go_wp2_with fail
    rw [← HW1.out]
    refine (known_any w1).mono ?_
    rintro e w2 ⟨rfl, hb⟩
    have d1 := (HA.out.z2.below hb HA.out.z2.lt).cell 0
    have d2 := HA.out.r.below hb HA.out.r.lt
    have f2 := d2.frozen 0
    have d3 := d2.cell 0
    simp only [List.getElem?_toArray, List.getElem?_cons_zero, List.getElem?_cons_succ] at d1 d3
    go_wp2_with fail
    refine ⟨_, whole_results _ _ _ (.bool true) rfl ?_, rfl, ?_⟩
    · have := d2.put 0 (.bool true)
      exact Row.cell (by simpa using this) 0
    · exact (HA.out.below.trans (hb.mono HA.out.below.size)).setCell (by show w.heap.size ≤ w.heap.size + 1 + 1; omega) _
  by_cases q2 : 40 < n
  · clear hout
    refine (callsIn_wide (n := 9)).1 (callsIn_of_wp_marks Try.func5 rfl trivial ?_ rfl)
    simp only [Try.ntmps5, List.size_toArray, List.length_cons, List.length_nil, Nat.reduceAdd, Nat.reduceSub, Array.replicate_succ, Array.replicate_zero, List.push_toArray, List.append_toArray, List.nil_append, List.cons_append]
    refine wpIn_wide.2 ?_
    go_wp2_with fail
    rw [← HW1.out]
    refine (known_any w1).mono ?_
    rintro e w2 ⟨rfl, hb⟩
    have d1 := (HA.out.z2.below hb HA.out.z2.lt).cell 0
    have d2 := HA.out.r.below hb HA.out.r.lt
    have f2 := d2.frozen 0
    have d3 := d2.cell 0
    simp only [List.getElem?_toArray, List.getElem?_cons_zero, List.getElem?_cons_succ] at d1 d3
    go_wp2_with fail
    refine ⟨_, whole_results _ _ _ (.bool true) rfl ?_, rfl, ?_⟩
    · have := d2.put 0 (.bool true)
      exact Row.cell (by simpa using this) 0
    · exact (HA.out.below.trans (hb.mono HA.out.below.size)).setCell (by show w.heap.size ≤ w.heap.size + 1 + 1; omega) _
  by_cases q3 : 100 < n1
  · clear hout
    have p3 : (100 : Int) < n1 := by omega
    refine (callsIn_wide (n := 9)).1 (callsIn_of_wp_marks Try.func5 rfl trivial ?_ rfl)
    simp only [Try.ntmps5, List.size_toArray, List.length_cons, List.length_nil, Nat.reduceAdd, Nat.reduceSub, Array.replicate_succ, Array.replicate_zero, List.push_toArray, List.append_toArray, List.nil_append, List.cons_append]
    refine wpIn_wide.2 ?_
    go_wp2_with fail
    rw [← HW1.out]
    refine (known_any w1).mono ?_
    rintro e w2 ⟨rfl, hb⟩
    have d1 := (HA.out.z2.below hb HA.out.z2.lt).cell 0
    have d2 := HA.out.r.below hb HA.out.r.lt
    have f2 := d2.frozen 0
    have d3 := d2.cell 0
    simp only [List.getElem?_toArray, List.getElem?_cons_zero, List.getElem?_cons_succ] at d1 d3
    go_wp2_with fail
    refine ⟨_, whole_results _ _ _ (.bool true) rfl ?_, rfl, ?_⟩
    · have := d2.put 0 (.bool true)
      exact Row.cell (by simpa using this) 0
    · exact (HA.out.below.trans (hb.mono HA.out.below.size)).setCell (by show w.heap.size ≤ w.heap.size + 1 + 1; omega) _
  have p3 : ¬ (100 : Int) < n1 := by omega
  have q4 : ¬ n2 = 2 := by omega
  have p4 : ¬ (n2 : Int) = 2 := by omega
  clear hout
  refine (callsIn_wide (n := 9)).1 (callsIn_of_wp_marks Try.func5 rfl trivial ?_ rfl)
  simp only [Try.ntmps5, List.size_toArray, List.length_cons, List.length_nil, Nat.reduceAdd, Nat.reduceSub, Array.replicate_succ, Array.replicate_zero, List.push_toArray, List.append_toArray, List.nil_append, List.cons_append]
  refine wpIn_wide.2 ?_
  go_wp2_with fail
  rw [← HW1.out]
  refine (known_any w1).mono ?_
  rintro e w2 ⟨rfl, hb⟩
  have d1 := (HA.out.z2.below hb HA.out.z2.lt).cell 0
  have d2 := HA.out.r.below hb HA.out.r.lt
  have f2 := d2.frozen 0
  have d3 := d2.cell 0
  simp only [List.getElem?_toArray, List.getElem?_cons_zero, List.getElem?_cons_succ] at d1 d3
  go_wp2_with fail
  focus
    refine ⟨_, whole_results _ _ _ (.bool true) rfl ?_, rfl, ?_⟩
    · have := d2.put 0 (.bool true)
      exact Row.cell (by simpa using this) 0
    · exact (HA.out.below.trans (hb.mono HA.out.below.size)).setCell (by show w.heap.size ≤ w.heap.size + 1 + 1; omega) _
  · exfalso
    have hx : ((n2 : Int) != 2) = false := (‹((_ ∧ _) ∧ _) ∧ ((n2 : Int) != 2) = false›).2
    simp only [bne_eq_false_iff_eq] at hx
    omega
end Go.Proofs.Ytomigaldomiefaa
