/- vcache: what a cache is in memory; which writes are gone: Put's and Drop's closures. -/
import Derived.Test.YtmppegknkeggcaaCacheB
import Derived.Laws.StructEq
namespace Go.Proofs.Ytmppegknkeggcaa
open Go.RowKit
set_option linter.unusedVariables false
set_option linter.unusedSimpArgs false

theorem key_fields : Try.prog.underlying 57 = some (.struct (Try.prog.fieldsOf 57)) := by
  unfold Program.fieldsOf; rw [Try.underlying57]
theorem run_eql_kv (w : World) (a s a' s' : Int) : (binOp .eql 57 (kv a s) (kv a' s')).run Try.prog w = .ok (.bool (decide (a = a' ∧ s = s'))) w := by
  have hf : (Try.prog.fieldsOf 57).toList.map (fun f => (f.name, f.type, f.offset)) = [("area", 3, 0), ("sector", 3, 1)] := by
    unfold Program.fieldsOf; rw [Try.underlying57]; rfl
  rw [run_eql_struct, run_equalIn_struct w 9999 _ _ _ key_fields (by kernel_rfl)]
  generalize (Try.prog.fieldsOf 57).toList = fs at hf
  rw [List.map_eq_cons_iff] at hf
  obtain ⟨f0, l1, rfl, e0, hf⟩ := hf
  rw [List.map_eq_cons_iff] at hf
  obtain ⟨f1, l2, rfl, e1, hf⟩ := hf
  rw [List.map_eq_nil_iff] at hf
  subst hf
  simp only [Prod.mk.injEq] at e0 e1
  obtain ⟨n0, t0, o0⟩ := e0
  obtain ⟨n1, t1, o1⟩ := e1
  skip
  have pk : Try.prog.plainKey 3 = true := by kernel_rfl
  have p0 : ∀ x y : Int, (part 3 #[.int .i64 x, .int .i64 y] 0).run Try.prog w = .ok (.int .i64 x) w := fun x y => run_part_plain (P := Try.prog) w pk (by simp)
  have p1 : ∀ x y : Int, (part 3 #[.int .i64 x, .int .i64 y] 1).run Try.prog w = .ok (.int .i64 y) w := fun x y => run_part_plain (P := Try.prog) w pk (by simp)
  have e0 : ∀ x y : Int, (Op.equalIn 9999 3 (.int .i64 x) (.int .i64 y)).run Try.prog w = .ok (x == y) w := fun x y => run_equalIn_int (P := Try.prog) w 9998 _ _ _ x y Try.underlying3
  simp only [Op.eqFields, n0, t0, o0, n1, t1, o1]
  by_cases h0 : a = a'
  · by_cases h1 : s = s'
    · simp [p0, p1, e0, h0, h1, Result.andThen]
    · simp [p0, p1, e0, h0, h1, Result.andThen]
  · simp [p0, p1, e0, h0, Result.andThen]

abbrev It.agg (x : It) : Value := .agg #[.int .i64 x.a, .int .i64 x.s, .slice x.A x.l.length x.c, .int .i64 x.g]
set_option maxHeartbeats 1000000 in
theorem Put1_any (x : It) (bc bk C : Nat) (a s g : Int) (w : World) (h1 : w.cell? ⟨bc, 0, none⟩ = some (.pointer (some ⟨C, 0, none⟩))) (h2 : w.cell? ⟨C, 2, none⟩ = some (.int .i64 g))
    (h3 : w.cell? ⟨bk, 0, none⟩ = some (.int .i64 a)) (h4 : w.cell? ⟨bk, 1, none⟩ = some (.int .i64 s)) :
    Calls Try.prog 21 #[.agg #[.int .i64 x.a, .int .i64 x.s, .slice x.A x.l.length x.c, .int .i64 x.g], .pointer (some ⟨bc, 0, none⟩), .pointer (some ⟨bk, 0, none⟩)] w
      fun e w' => e = .returned (.bool (decide (x.g = g ∧ x.a = a ∧ x.s = s))) ∧ Below w.heap.size w w' := by
  obtain ⟨xa, xs, xA, xc, xl, xg⟩ := x
  simp only
  generalize xl.length = xn at *
  obtain ⟨wA, hwA⟩ : ∃ wA, wA = (w.alloc (.cells #[.int .i64 xa, .int .i64 xs, .slice xA xn xc, .int .i64 xg] 61)) := ⟨_, rfl⟩
  have HB : Hid (Below w.heap.size w wA) := by unfold Hid; rw [hwA]; (repeat (first | (with_reducible refine Below.drew ?_) | (with_reducible refine below_drewN0 ?_ _) | ((with_reducible refine Below.setCell ?_ ?_ _); rotate_left; focus (first | omega | (simp; done) | (simp; omega) | (simp at *; omega))) | ((with_reducible refine Below.alloc ?_ ?_ _); rotate_left; focus (first | omega | (simp; done) | (simp; omega) | (simp at *; omega))) | (with_reducible exact Below.refl _ _)))
  have HR : Hid (Row wA w.heap.size 61 #[.int .i64 xa, .int .i64 xs, .slice xA xn xc, .int .i64 xg]) := by unfold Hid; rw [hwA]; exact Row.fresh w _ _
  have q1 : ∀ t : Later wA, t.u.cell? ⟨bc, 0, none⟩ = some (.pointer (some ⟨C, 0, none⟩)) := fun t => keep_below t.h _ _ (keep_below HB.out _ _ h1)
  have q2 : ∀ t : Later wA, t.u.cell? ⟨C, 2, none⟩ = some (.int .i64 g) := fun t => keep_below t.h _ _ (keep_below HB.out _ _ h2)
  have q3 : ∀ t : Later wA, t.u.cell? ⟨bk, 0, none⟩ = some (.int .i64 a) := fun t => keep_below t.h _ _ (keep_below HB.out _ _ h3)
  have q4 : ∀ t : Later wA, t.u.cell? ⟨bk, 1, none⟩ = some (.int .i64 s) := fun t => keep_below t.h _ _ (keep_below HB.out _ _ h4)
  have r0 : ∀ t : Later wA, t.u.cell? ⟨w.heap.size, 0, none⟩ = some (.int .i64 xa) := fun t => by rw [(HR.out.below t.h HR.out.lt).cell]; rfl
  have r1 : ∀ t : Later wA, t.u.cell? ⟨w.heap.size, 1, none⟩ = some (.int .i64 xs) := fun t => by rw [(HR.out.below t.h HR.out.lt).cell]; rfl
  have r2 : ∀ t : Later wA, t.u.cell? ⟨w.heap.size, 2, none⟩ = some (.slice xA xn xc) := fun t => by rw [(HR.out.below t.h HR.out.lt).cell]; rfl
  have r3 : ∀ t : Later wA, t.u.cell? ⟨w.heap.size, 3, none⟩ = some (.int .i64 xg) := fun t => by rw [(HR.out.below t.h HR.out.lt).cell]; rfl
  have hq : ∀ w : World, (binOp .eql 57 (.agg #[.int .i64 xa, .int .i64 xs]) (.agg #[.int .i64 a, .int .i64 s])).run Try.prog w = .ok (.bool (decide (xa = a ∧ xs = s))) w := fun w => run_eql_kv w xa xs a s
  have HO : Hid (∀ w, Calls Try.prog 19 #[.agg #[.int .i64 xa, .int .i64 xs, .slice xA xn xc]] w fun e w' => e = .returned (.agg #[.int .i64 xa, .int .i64 xs]) ∧ Below w.heap.size w w') := fun w => of_any xa xs _ w
  clear h1 h2 h3 h4
  generalize hβ : decide (xa = a ∧ xs = s) = β at *
  by_cases hg : xg = g
  · subst hg
    rw [show decide (xg = xg ∧ xa = a ∧ xs = s) = β by rw [← hβ]; simp]
    clear hβ
    go_enter Try.func21, Try.ntmps21
    go_wp2_with fail
    rw [← hwA]
    clear hwA
    refine region_later (by kernel_rfl) (by kernel_rfl) ?_
    repeat (go_big_quiet_step ((go_at_call 19; exact Later.call (HO.out _))))
    refine wpQuiet_nil ?_
    intro t
    clear q1 q2 q3 q4 r0 r1 r2 r3
    go_wp2
    go_ret
    exact ⟨rfl, HB.out.trans (t.h.mono HB.out.size)⟩
  · have hg1 : (xg == g) = false := by simp [hg]
    rw [show decide (xg = g ∧ xa = a ∧ xs = s) = false by simp [hg]]
    clear hβ hg
    go_enter Try.func21, Try.ntmps21
    go_wp2_with fail
    rw [← hwA]
    clear hwA
    refine region_later (by kernel_rfl) (by kernel_rfl) ?_
    repeat (go_big_quiet_step ((go_at_call 19; exact Later.call (HO.out _))))
    refine wpQuiet_nil ?_
    intro t
    clear q1 q2 q3 q4 r0 r1 r2 r3
    go_wp2
    go_ret
    exact ⟨rfl, HB.out.trans (t.h.mono HB.out.size)⟩
set_option maxHeartbeats 1000000 in
theorem Drop1_any (x : It) (bk : Nat) (a s : Int) (w : World) (h3 : w.cell? ⟨bk, 0, none⟩ = some (.int .i64 a)) (h4 : w.cell? ⟨bk, 1, none⟩ = some (.int .i64 s)) :
    Calls Try.prog 29 #[.agg #[.int .i64 x.a, .int .i64 x.s, .slice x.A x.l.length x.c, .int .i64 x.g], .pointer (some ⟨bk, 0, none⟩)] w
      fun e w' => e = .returned (.bool (decide (x.a = a ∧ x.s = s))) ∧ Below w.heap.size w w' := by
  obtain ⟨xa, xs, xA, xc, xl, xg⟩ := x
  simp only
  generalize xl.length = xn at *
  obtain ⟨wA, hwA⟩ : ∃ wA, wA = (w.alloc (.cells #[.int .i64 xa, .int .i64 xs, .slice xA xn xc, .int .i64 xg] 61)) := ⟨_, rfl⟩
  have HB : Hid (Below w.heap.size w wA) := by unfold Hid; rw [hwA]; (repeat (first | (with_reducible refine Below.drew ?_) | (with_reducible refine below_drewN0 ?_ _) | ((with_reducible refine Below.setCell ?_ ?_ _); rotate_left; focus (first | omega | (simp; done) | (simp; omega) | (simp at *; omega))) | ((with_reducible refine Below.alloc ?_ ?_ _); rotate_left; focus (first | omega | (simp; done) | (simp; omega) | (simp at *; omega))) | (with_reducible exact Below.refl _ _)))
  have HR : Hid (Row wA w.heap.size 61 #[.int .i64 xa, .int .i64 xs, .slice xA xn xc, .int .i64 xg]) := by unfold Hid; rw [hwA]; exact Row.fresh w _ _
  have q3 : ∀ t : Later wA, t.u.cell? ⟨bk, 0, none⟩ = some (.int .i64 a) := fun t => keep_below t.h _ _ (keep_below HB.out _ _ h3)
  have q4 : ∀ t : Later wA, t.u.cell? ⟨bk, 1, none⟩ = some (.int .i64 s) := fun t => keep_below t.h _ _ (keep_below HB.out _ _ h4)
  have r0 : ∀ t : Later wA, t.u.cell? ⟨w.heap.size, 0, none⟩ = some (.int .i64 xa) := fun t => by rw [(HR.out.below t.h HR.out.lt).cell]; rfl
  have r1 : ∀ t : Later wA, t.u.cell? ⟨w.heap.size, 1, none⟩ = some (.int .i64 xs) := fun t => by rw [(HR.out.below t.h HR.out.lt).cell]; rfl
  have r2 : ∀ t : Later wA, t.u.cell? ⟨w.heap.size, 2, none⟩ = some (.slice xA xn xc) := fun t => by rw [(HR.out.below t.h HR.out.lt).cell]; rfl
  have hq : ∀ w : World, (binOp .eql 57 (.agg #[.int .i64 xa, .int .i64 xs]) (.agg #[.int .i64 a, .int .i64 s])).run Try.prog w = .ok (.bool (decide (xa = a ∧ xs = s))) w := fun w => run_eql_kv w xa xs a s
  have HO : Hid (∀ w, Calls Try.prog 19 #[.agg #[.int .i64 xa, .int .i64 xs, .slice xA xn xc]] w fun e w' => e = .returned (.agg #[.int .i64 xa, .int .i64 xs]) ∧ Below w.heap.size w w') := fun w => of_any xa xs _ w
  clear h3 h4
  generalize hβ : decide (xa = a ∧ xs = s) = β at *
  clear hβ
  go_enter Try.func29, Try.ntmps29
  go_wp2_with fail
  rw [← hwA]
  clear hwA
  refine region_later (by kernel_rfl) (by kernel_rfl) ?_
  repeat (go_big_quiet_step ((go_at_call 19; exact Later.call (HO.out _))))
  refine wpQuiet_nil ?_
  intro t
  clear q3 q4 r0 r1 r2
  go_wp2
  go_ret
  exact ⟨rfl, HB.out.trans (t.h.mono HB.out.size)⟩
end Go.Proofs.Ytmppegknkeggcaa
