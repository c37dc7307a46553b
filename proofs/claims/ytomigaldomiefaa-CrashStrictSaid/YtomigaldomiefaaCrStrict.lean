/- CrashStrict: its walk, where the law asks nothing; its reader. -/
import Derived.Test.YtomigaldomiefaaCrKnown
namespace Go.Proofs.Ytomigaldomiefaa
open Go.RowKit Go.Shelf Go.MapKept Go.ChangeMaps
attribute [local go_sem] Oper.semAt_some
attribute [local simp, local go_sem] wide_fn
set_option linter.unusedVariables false
set_option linter.unusedSimpArgs false

set_option maxRecDepth 100000 in
set_option maxHeartbeats 8000000 in
theorem strict_out (one two : Int) (A1 A2 A3 : Option Addr) (c1 c2 c3 n3 : Nat) (l1 l2 : List Nat) (w : World) (hd1 : Cells8 w A1 l1) (hd2 : Cells8 w A2 l2)
    (hout : ¬ l1.length = 2 ∨ ¬ l2.length = 2 ∨ 30 < n3 ∨ one < 0 ∨ two < 0 ∨ 30 < one ∨ 30 < two ∨ one = two ∨ l1.getD 0 0 = 0 ∨ l2.getD 0 0 = 0) :
    Calls Try.prog 3 #[.int .i64 one, .int .i64 two, .slice A1 l1.length c1, .slice A2 l2.length c2, .slice A3 n3 c3] w fun e w' => e = .returned (.bool true) ∧ Below w.heap.size w w' := by
  obtain ⟨w1, hw1⟩ : ∃ w1, w1 = ((w.alloc (.cells #[.int .i64 one] 3)).alloc (.cells #[.int .i64 two] 3)).alloc (.cells #[.slice A2 l2.length c2] 22) := ⟨_, rfl⟩
  have HB1 : Hid (Below w.heap.size w w1) := by unfold Hid; rw [hw1]; (repeat (first | (with_reducible refine Below.drew ?_) | (with_reducible refine below_drewN0 ?_ _) | ((with_reducible refine Below.setCell ?_ ?_ _); rotate_left; focus (first | omega | (simp; done) | (simp; omega) | (simp at *; omega))) | ((with_reducible refine Below.alloc ?_ ?_ _); rotate_left; focus (first | omega | (simp; done) | (simp; omega) | (simp at *; omega))) | (with_reducible exact Below.refl _ _)))
  have HR1 : Hid (Row w1 w.heap.size 3 #[.int .i64 one]) := by unfold Hid; rw [hw1]; exact ((Row.fresh _ _ _).alloc _).alloc _
  have HR2 : Hid (Row w1 (w.heap.size + 1) 3 #[.int .i64 two]) := by
    unfold Hid; rw [hw1]
    have := Row.fresh (w.alloc (.cells #[.int .i64 one] 3)) 3 #[.int .i64 two]
    rw [World.size_alloc] at this; exact this.alloc _
  have HR3 : Hid (Row w1 (w.heap.size + 1 + 1) 22 #[.slice A2 l2.length c2]) := by
    unfold Hid; rw [hw1]
    have := Row.fresh ((w.alloc (.cells #[.int .i64 one] 3)).alloc (.cells #[.int .i64 two] 3)) 22 #[.slice A2 l2.length c2]
    simp only [World.size_alloc] at this; exact this
  have HD1 := Lib.hid hd1
  have HD2 := Lib.hid hd2
  obtain ⟨n1, hn1⟩ : ∃ n1, n1 = l1.length := ⟨_, rfl⟩
  obtain ⟨n2, hn2⟩ : ∃ n2, n2 = l2.length := ⟨_, rfl⟩
  have HN1 := Lib.hid hn1
  have HN2 := Lib.hid hn2
  rw [← hn2] at hw1 HR3
  rw [← hn1, ← hn2] at hout ⊢
  clear hd1 hd2 hn1 hn2
  by_cases q1 : n1 = 2
  case neg =>
    have p1 : ¬ (n1 : Int) = 2 := by omega
    clear hout
    have HW1 := Lib.hid hw1
    clear hw1
    go_enter Try.func3, Try.ntmps3
    go_wp2_with fail
    rw [← HW1.out]
    refine (known_any w1).mono ?_
    rintro e w2 ⟨rfl, hb⟩
    have d1 := (HR1.out.below hb HR1.out.lt).cell 0
    have d2 := (HR2.out.below hb HR2.out.lt).cell 0
    have d3 := (HR3.out.below hb HR3.out.lt).cell 0
    simp only [List.getElem?_toArray, List.getElem?_cons_zero, List.getElem?_cons_succ] at d1 d2 d3
    have HB2 : Hid (Below w.heap.size w w2) := HB1.out.trans (hb.mono HB1.out.size)
    clear hb
    go_wp2
    go_ret
    exact ⟨rfl, HB2.out⟩
  case pos =>
  subst q1
  by_cases q2 : n2 = 2
  case neg =>
    have p2 : ¬ (n2 : Int) = 2 := by omega
    clear hout
    have HW1 := Lib.hid hw1
    clear hw1
    go_enter Try.func3, Try.ntmps3
    go_wp2_with fail
    rw [← HW1.out]
    refine (known_any w1).mono ?_
    rintro e w2 ⟨rfl, hb⟩
    have d1 := (HR1.out.below hb HR1.out.lt).cell 0
    have d2 := (HR2.out.below hb HR2.out.lt).cell 0
    have d3 := (HR3.out.below hb HR3.out.lt).cell 0
    simp only [List.getElem?_toArray, List.getElem?_cons_zero, List.getElem?_cons_succ] at d1 d2 d3
    have HB2 : Hid (Below w.heap.size w w2) := HB1.out.trans (hb.mono HB1.out.size)
    clear hb
    go_wp2
    go_ret
    exact ⟨rfl, HB2.out⟩
  case pos =>
  subst q2
  by_cases q3 : 30 < n3
  case pos =>
    have p3 : (30 : Int) < n3 := by omega
    clear hout
    have HW1 := Lib.hid hw1
    clear hw1
    go_enter Try.func3, Try.ntmps3
    go_wp2_with fail
    rw [← HW1.out]
    refine (known_any w1).mono ?_
    rintro e w2 ⟨rfl, hb⟩
    have d1 := (HR1.out.below hb HR1.out.lt).cell 0
    have d2 := (HR2.out.below hb HR2.out.lt).cell 0
    have d3 := (HR3.out.below hb HR3.out.lt).cell 0
    simp only [List.getElem?_toArray, List.getElem?_cons_zero, List.getElem?_cons_succ] at d1 d2 d3
    have HB2 : Hid (Below w.heap.size w w2) := HB1.out.trans (hb.mono HB1.out.size)
    clear hb
    go_wp2
    go_ret
    exact ⟨rfl, HB2.out⟩
  case neg =>
  by_cases q4 : one < 0
  case pos =>
    have p3 : ¬ (30 : Int) < n3 := by omega
    clear hout
    have HW1 := Lib.hid hw1
    clear hw1
    go_enter Try.func3, Try.ntmps3
    go_wp2_with fail
    rw [← HW1.out]
    refine (known_any w1).mono ?_
    rintro e w2 ⟨rfl, hb⟩
    have d1 := (HR1.out.below hb HR1.out.lt).cell 0
    have d2 := (HR2.out.below hb HR2.out.lt).cell 0
    have d3 := (HR3.out.below hb HR3.out.lt).cell 0
    simp only [List.getElem?_toArray, List.getElem?_cons_zero, List.getElem?_cons_succ] at d1 d2 d3
    have HB2 : Hid (Below w.heap.size w w2) := HB1.out.trans (hb.mono HB1.out.size)
    clear hb
    go_wp2
    go_ret
    exact ⟨rfl, HB2.out⟩
  case neg =>
  by_cases q5 : two < 0
  case pos =>
    have p3 : ¬ (30 : Int) < n3 := by omega
    clear hout
    have HW1 := Lib.hid hw1
    clear hw1
    go_enter Try.func3, Try.ntmps3
    go_wp2_with fail
    rw [← HW1.out]
    refine (known_any w1).mono ?_
    rintro e w2 ⟨rfl, hb⟩
    have d1 := (HR1.out.below hb HR1.out.lt).cell 0
    have d2 := (HR2.out.below hb HR2.out.lt).cell 0
    have d3 := (HR3.out.below hb HR3.out.lt).cell 0
    simp only [List.getElem?_toArray, List.getElem?_cons_zero, List.getElem?_cons_succ] at d1 d2 d3
    have HB2 : Hid (Below w.heap.size w w2) := HB1.out.trans (hb.mono HB1.out.size)
    clear hb
    go_wp2
    go_ret
    exact ⟨rfl, HB2.out⟩
  case neg =>
  by_cases q6 : 30 < one
  case pos =>
    have p3 : ¬ (30 : Int) < n3 := by omega
    clear hout
    have HW1 := Lib.hid hw1
    clear hw1
    go_enter Try.func3, Try.ntmps3
    go_wp2_with fail
    rw [← HW1.out]
    refine (known_any w1).mono ?_
    rintro e w2 ⟨rfl, hb⟩
    have d1 := (HR1.out.below hb HR1.out.lt).cell 0
    have d2 := (HR2.out.below hb HR2.out.lt).cell 0
    have d3 := (HR3.out.below hb HR3.out.lt).cell 0
    simp only [List.getElem?_toArray, List.getElem?_cons_zero, List.getElem?_cons_succ] at d1 d2 d3
    have HB2 : Hid (Below w.heap.size w w2) := HB1.out.trans (hb.mono HB1.out.size)
    clear hb
    go_wp2
    go_ret
    exact ⟨rfl, HB2.out⟩
  case neg =>
  by_cases q7 : 30 < two
  case pos =>
    have p3 : ¬ (30 : Int) < n3 := by omega
    clear hout
    have HW1 := Lib.hid hw1
    clear hw1
    go_enter Try.func3, Try.ntmps3
    go_wp2_with fail
    rw [← HW1.out]
    refine (known_any w1).mono ?_
    rintro e w2 ⟨rfl, hb⟩
    have d1 := (HR1.out.below hb HR1.out.lt).cell 0
    have d2 := (HR2.out.below hb HR2.out.lt).cell 0
    have d3 := (HR3.out.below hb HR3.out.lt).cell 0
    simp only [List.getElem?_toArray, List.getElem?_cons_zero, List.getElem?_cons_succ] at d1 d2 d3
    have HB2 : Hid (Below w.heap.size w w2) := HB1.out.trans (hb.mono HB1.out.size)
    clear hb
    go_wp2
    go_ret
    exact ⟨rfl, HB2.out⟩
  case neg =>
  by_cases q8 : one = two
  case pos =>
    subst q8
    have p3 : ¬ (30 : Int) < n3 := by omega
    clear hout
    have HW1 := Lib.hid hw1
    clear hw1
    go_enter Try.func3, Try.ntmps3
    go_wp2_with fail
    rw [← HW1.out]
    refine (known_any w1).mono ?_
    rintro e w2 ⟨rfl, hb⟩
    have d1 := (HR1.out.below hb HR1.out.lt).cell 0
    have d2 := (HR2.out.below hb HR2.out.lt).cell 0
    have d3 := (HR3.out.below hb HR3.out.lt).cell 0
    simp only [List.getElem?_toArray, List.getElem?_cons_zero, List.getElem?_cons_succ] at d1 d2 d3
    have HB2 : Hid (Below w.heap.size w w2) := HB1.out.trans (hb.mono HB1.out.size)
    clear hb
    go_wp2
    go_ret
    exact ⟨rfl, HB2.out⟩
  case neg =>
  have p3 : ¬ (30 : Int) < n3 := by omega
  obtain ⟨f0, f1, rfl⟩ : ∃ f0 f1, l1 = [f0, f1] := by
    have := HN1.out
    match l1, this with
    | [a, b], _ => exact ⟨a, b, rfl⟩
  obtain ⟨t0, t1, rfl⟩ : ∃ f0 f1, l2 = [f0, f1] := by
    have := HN2.out
    match l2, this with
    | [a, b], _ => exact ⟨a, b, rfl⟩
  obtain ⟨b1, o1, rfl, hf0⟩ := HD1.out 0 (by simp)
  obtain ⟨b2, o2, rfl, ht0⟩ := HD2.out 0 (by simp)
  simp only [Nat.add_zero, List.getD_cons_zero] at hf0 ht0
  have HF0 := Lib.hid hf0
  have HT0 := Lib.hid ht0
  by_cases q9 : f0 = 0
  case pos =>
    subst q9
    clear hout hf0 ht0
    have HW1 := Lib.hid hw1
    clear hw1
    go_enter Try.func3, Try.ntmps3
    go_wp2_with fail
    rw [← HW1.out]
    refine (known_any w1).mono ?_
    rintro e w2 ⟨rfl, hb⟩
    have d1 := (HR1.out.below hb HR1.out.lt).cell 0
    have d2 := (HR2.out.below hb HR2.out.lt).cell 0
    have d3 := (HR3.out.below hb HR3.out.lt).cell 0
    simp only [List.getElem?_toArray, List.getElem?_cons_zero, List.getElem?_cons_succ] at d1 d2 d3
    have HB2 : Hid (Below w.heap.size w w2) := HB1.out.trans (hb.mono HB1.out.size)
    have d4 := keep_below HB2.out _ _ HF0.out
    clear hb
    go_wp2
    go_ret
    exact ⟨rfl, HB2.out⟩
  case neg =>
  have q10 : t0 = 0 := by
    rcases hout with h | h | h | h | h | h | h | h | h | h <;> first | exact absurd rfl h | omega | exact absurd h q9 | simpa using h
  subst q10
  have p9 : ¬ (f0 : Int) = 0 := by omega
  clear hout hf0 ht0
  have HW1 := Lib.hid hw1
  clear hw1
  go_enter Try.func3, Try.ntmps3
  go_wp2_with fail
  rw [← HW1.out]
  refine (known_any w1).mono ?_
  rintro e w2 ⟨rfl, hb⟩
  have d1 := (HR1.out.below hb HR1.out.lt).cell 0
  have d2 := (HR2.out.below hb HR2.out.lt).cell 0
  have d3 := (HR3.out.below hb HR3.out.lt).cell 0
  simp only [List.getElem?_toArray, List.getElem?_cons_zero, List.getElem?_cons_succ] at d1 d2 d3
  have HB2 : Hid (Below w.heap.size w w2) := HB1.out.trans (hb.mono HB1.out.size)
  have d4 := keep_below HB2.out _ _ HF0.out
  have d5 := keep_below HB2.out _ _ HT0.out
  clear hb
  go_wp2
  go_ret
  exact ⟨rfl, HB2.out⟩
end Go.Proofs.Ytomigaldomiefaa
