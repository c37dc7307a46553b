/- What follows is laid together from several texts of mine, in their order. -/
import Derived.Test.YtclhhdodebdmjaaGreatQ14
import Derived.Laws.StructEq

namespace Go.Proofs.YtclhhdodebdmjaaGreat.Vca
open Go.RowKit
set_option linter.unusedVariables false
set_option maxRecDepth 100000
set_option linter.unusedSimpArgs false

theorem key_fields : Tryz.prog.underlying 253 = some (.struct (Tryz.prog.fieldsOf 253)) := by
  unfold Program.fieldsOf; rw [Tryz.underlying253]
theorem run_eql_kv (w : World) (a s a' s' : Int) : (binOp .eql 253 (kv a s) (kv a' s')).run Tryz.prog w = .ok (.bool (decide (a = a' ∧ s = s'))) w := by
  have hf : (Tryz.prog.fieldsOf 253).toList.map (fun f => (f.name, f.type, f.offset)) = [("area", 3, 0), ("sector", 3, 1)] := by
    unfold Program.fieldsOf; rw [Tryz.underlying253]; rfl
  rw [run_eql_struct, run_equalIn_struct w 9999 _ _ _ key_fields (by kernel_rfl)]
  generalize (Tryz.prog.fieldsOf 253).toList = fs at hf
  rw [List.map_eq_cons_iff] at hf
  obtain ⟨f0, l1, rfl, e0, hf⟩ := hf
  rw [List.map_eq_cons_iff] at hf
  obtain ⟨f1, l2, rfl, e1, hf⟩ := hf
  rw [List.map_eq_nil_iff] at hf
  subst hf
  simp only [Prod.mk.injEq] at e0 e1
  obtain ⟨n0, t0, o0⟩ := e0
  obtain ⟨n1, t1, o1⟩ := e1
  skip
  have pk : Tryz.prog.plainKey 3 = true := by kernel_rfl
  have p0 : ∀ x y : Int, (part 3 #[.int .i64 x, .int .i64 y] 0).run Tryz.prog w = .ok (.int .i64 x) w := fun x y => run_part_plain (P := Tryz.prog) w pk (by simp)
  have p1 : ∀ x y : Int, (part 3 #[.int .i64 x, .int .i64 y] 1).run Tryz.prog w = .ok (.int .i64 y) w := fun x y => run_part_plain (P := Tryz.prog) w pk (by simp)
  have e0 : ∀ x y : Int, (Op.equalIn 9999 3 (.int .i64 x) (.int .i64 y)).run Tryz.prog w = .ok (x == y) w := fun x y => run_equalIn_int (P := Tryz.prog) w 9998 _ _ _ x y Tryz.underlying3
  simp only [Op.eqFields, n0, t0, o0, n1, t1, o1]
  by_cases h0 : a = a'
  · by_cases h1 : s = s'
    · simp [p0, p1, e0, h0, h1, Result.andThen]
    · simp [p0, p1, e0, h0, h1, Result.andThen]
  · simp [p0, p1, e0, h0, Result.andThen]

abbrev It.agg (x : It) : Value := .agg #[.int .i64 x.a, .int .i64 x.s, .slice x.A x.l.length x.c, .int .i64 x.g]
set_option maxHeartbeats 1000000 in
theorem Drop1_any (x : It) (bk : Nat) (a s : Int) (w : World) (h3 : w.cell? ⟨bk, 0, none⟩ = some (.int .i64 a)) (h4 : w.cell? ⟨bk, 1, none⟩ = some (.int .i64 s)) :
    Calls Tryz.prog 169 #[.agg #[.int .i64 x.a, .int .i64 x.s, .slice x.A x.l.length x.c, .int .i64 x.g], .pointer (some ⟨bk, 0, none⟩)] w
      fun e w' => e = .returned (.bool (decide (x.a = a ∧ x.s = s))) ∧ Below w.heap.size w w' := by
  obtain ⟨xa, xs, xA, xc, xl, xg⟩ := x
  simp only
  generalize xl.length = xn at *
  obtain ⟨wA, hwA⟩ : ∃ wA, wA = (w.alloc (.cells #[.int .i64 xa, .int .i64 xs, .slice xA xn xc, .int .i64 xg] 244)) := ⟨_, rfl⟩
  have HB : Hid (Below w.heap.size w wA) := by unfold Hid; rw [hwA]; (repeat (first | (with_reducible refine Below.drew ?_) | (with_reducible refine below_drewN0 ?_ _) | ((with_reducible refine Below.setCell ?_ ?_ _); rotate_left; focus (first | omega | (simp; done) | (simp; omega) | (simp at *; omega))) | ((with_reducible refine Below.alloc ?_ ?_ _); rotate_left; focus (first | omega | (simp; done) | (simp; omega) | (simp at *; omega))) | (with_reducible exact Below.refl _ _)))
  have HR : Hid (Row wA w.heap.size 244 #[.int .i64 xa, .int .i64 xs, .slice xA xn xc, .int .i64 xg]) := by unfold Hid; rw [hwA]; exact Row.fresh w _ _
  have q3 : ∀ t : Later wA, t.u.cell? ⟨bk, 0, none⟩ = some (.int .i64 a) := fun t => keep_below t.h _ _ (keep_below HB.out _ _ h3)
  have q4 : ∀ t : Later wA, t.u.cell? ⟨bk, 1, none⟩ = some (.int .i64 s) := fun t => keep_below t.h _ _ (keep_below HB.out _ _ h4)
  have r0 : ∀ t : Later wA, t.u.cell? ⟨w.heap.size, 0, none⟩ = some (.int .i64 xa) := fun t => by rw [(HR.out.below t.h HR.out.lt).cell]; rfl
  have r1 : ∀ t : Later wA, t.u.cell? ⟨w.heap.size, 1, none⟩ = some (.int .i64 xs) := fun t => by rw [(HR.out.below t.h HR.out.lt).cell]; rfl
  have r2 : ∀ t : Later wA, t.u.cell? ⟨w.heap.size, 2, none⟩ = some (.slice xA xn xc) := fun t => by rw [(HR.out.below t.h HR.out.lt).cell]; rfl
  have hq : ∀ w : World, (binOp .eql 253 (.agg #[.int .i64 xa, .int .i64 xs]) (.agg #[.int .i64 a, .int .i64 s])).run Tryz.prog w = .ok (.bool (decide (xa = a ∧ xs = s))) w := fun w => run_eql_kv w xa xs a s
  have HO : Hid (∀ w, Calls Tryz.prog 159 #[.agg #[.int .i64 xa, .int .i64 xs, .slice xA xn xc]] w fun e w' => e = .returned (.agg #[.int .i64 xa, .int .i64 xs]) ∧ Below w.heap.size w w') := fun w => of_any xa xs _ w
  clear h3 h4
  generalize hβ : decide (xa = a ∧ xs = s) = β at *
  clear hβ
  go_enter Tryz.func169, Tryz.ntmps169
  go_wp2_with fail
  rw [← hwA]
  clear hwA
  refine region_later (by kernel_rfl) (by kernel_rfl) ?_
  repeat (go_big_quiet_step ((go_at_call 159; exact Later.call (HO.out _))))
  refine wpQuiet_nil ?_
  intro t
  clear q3 q4 r0 r1 r2
  go_wp2
  go_ret
  exact ⟨rfl, HB.out.trans (t.h.mono HB.out.size)⟩
end Go.Proofs.YtclhhdodebdmjaaGreat.Vca
