/- What follows is laid together from several texts of mine, in their order. -/
import Derived.Test.YtclhhdodebdmjaaGreatQ7

namespace Go.Proofs.YtclhhdodebdmjaaGreat
open Go.RowKit Go.MapKept Go.ChangeMaps
attribute [local go_sem] Oper.semAt_some
attribute [local simp, local go_sem] wide_fn
set_option linter.unusedVariables false
set_option linter.unusedSimpArgs false
set_option maxRecDepth 100000

set_option maxHeartbeats 4000000 in
theorem refNext_0 (i : Int) (own : Bool) (w : World) : Calls Tryz.prog 65 #[.int .i64 0, .int .i64 i, .bool own] w fun e w' => e = .returned (.tuple #[.int .i64 (nextV 0 i own).1, .bool (nextV 0 i own).2]) ∧ w = w' := by
  have key : i = 0 ∨ i = 1 ∨ (i ≠ 0 ∧ i ≠ 1) := by omega
  rcases key with rfl | rfl | ⟨h0, h1⟩
  · cases own
    · go_enter Tryz.func65, Tryz.ntmps65
      go_wp2
      refine bodyPost_ret (v := .tuple #[_, _]) (by simp [results, Tryz.results65, go_sem]; exact ⟨rfl, rfl⟩) rfl ?_
      exact ⟨by first | rfl | decide, rfl⟩
    · go_enter Tryz.func65, Tryz.ntmps65
      go_wp2
      refine bodyPost_ret (v := .tuple #[_, _]) (by simp [results, Tryz.results65, go_sem]; exact ⟨rfl, rfl⟩) rfl ?_
      exact ⟨by first | rfl | decide, rfl⟩
  · cases own
    · go_enter Tryz.func65, Tryz.ntmps65
      go_wp2
      refine bodyPost_ret (v := .tuple #[_, _]) (by simp [results, Tryz.results65, go_sem]; exact ⟨rfl, rfl⟩) rfl ?_
      exact ⟨by first | rfl | decide, rfl⟩
    · go_enter Tryz.func65, Tryz.ntmps65
      go_wp2
      refine bodyPost_ret (v := .tuple #[_, _]) (by simp [results, Tryz.results65, go_sem]; exact ⟨rfl, rfl⟩) rfl ?_
      exact ⟨by first | rfl | decide, rfl⟩
  · have e : nextV 0 i own = (0, false) := by simp [nextV, waysV, goF, keyI, valI, insI, transL, writeL, h0, h1]
    rw [e]
    clear e
    go_enter Tryz.func65, Tryz.ntmps65
    go_wp2
    refine bodyPost_ret (v := .tuple #[_, _]) (by simp [results, Tryz.results65, go_sem]; exact ⟨rfl, rfl⟩) rfl ?_
    exact ⟨by first | rfl | decide, rfl⟩
set_option maxHeartbeats 4000000 in
theorem refNext_1 (i : Int) (own : Bool) (w : World) : Calls Tryz.prog 65 #[.int .i64 1, .int .i64 i, .bool own] w fun e w' => e = .returned (.tuple #[.int .i64 (nextV 1 i own).1, .bool (nextV 1 i own).2]) ∧ w = w' := by
  have key : i = 0 ∨ i = 2 ∨ (i ≠ 0 ∧ i ≠ 2) := by omega
  rcases key with rfl | rfl | ⟨h0, h2⟩
  · cases own
    · go_enter Tryz.func65, Tryz.ntmps65
      go_wp2
      refine bodyPost_ret (v := .tuple #[_, _]) (by simp [results, Tryz.results65, go_sem]; exact ⟨rfl, rfl⟩) rfl ?_
      exact ⟨by first | rfl | decide, rfl⟩
    · go_enter Tryz.func65, Tryz.ntmps65
      go_wp2
      refine bodyPost_ret (v := .tuple #[_, _]) (by simp [results, Tryz.results65, go_sem]; exact ⟨rfl, rfl⟩) rfl ?_
      exact ⟨by first | rfl | decide, rfl⟩
  · cases own
    · go_enter Tryz.func65, Tryz.ntmps65
      go_wp2
      refine bodyPost_ret (v := .tuple #[_, _]) (by simp [results, Tryz.results65, go_sem]; exact ⟨rfl, rfl⟩) rfl ?_
      exact ⟨by first | rfl | decide, rfl⟩
    · go_enter Tryz.func65, Tryz.ntmps65
      go_wp2
      refine bodyPost_ret (v := .tuple #[_, _]) (by simp [results, Tryz.results65, go_sem]; exact ⟨rfl, rfl⟩) rfl ?_
      exact ⟨by first | rfl | decide, rfl⟩
  · have e : nextV 1 i own = (1, false) := by simp [nextV, waysV, goF, keyI, valI, insI, transL, writeL, h0, h2]
    rw [e]
    clear e
    go_enter Tryz.func65, Tryz.ntmps65
    go_wp2
    refine bodyPost_ret (v := .tuple #[_, _]) (by simp [results, Tryz.results65, go_sem]; exact ⟨rfl, rfl⟩) rfl ?_
    exact ⟨by first | rfl | decide, rfl⟩
set_option maxHeartbeats 4000000 in
theorem refNext_2 (i : Int) (own : Bool) (w : World) : Calls Tryz.prog 65 #[.int .i64 2, .int .i64 i, .bool own] w fun e w' => e = .returned (.tuple #[.int .i64 (nextV 2 i own).1, .bool (nextV 2 i own).2]) ∧ w = w' := by
  have key : i = 0 ∨ i = 3 ∨ (i ≠ 0 ∧ i ≠ 3) := by omega
  rcases key with rfl | rfl | ⟨h0, h3⟩
  · cases own
    · go_enter Tryz.func65, Tryz.ntmps65
      go_wp2
      refine bodyPost_ret (v := .tuple #[_, _]) (by simp [results, Tryz.results65, go_sem]; exact ⟨rfl, rfl⟩) rfl ?_
      exact ⟨by first | rfl | decide, rfl⟩
    · go_enter Tryz.func65, Tryz.ntmps65
      go_wp2
      refine bodyPost_ret (v := .tuple #[_, _]) (by simp [results, Tryz.results65, go_sem]; exact ⟨rfl, rfl⟩) rfl ?_
      exact ⟨by first | rfl | decide, rfl⟩
  · cases own
    · go_enter Tryz.func65, Tryz.ntmps65
      go_wp2
      refine bodyPost_ret (v := .tuple #[_, _]) (by simp [results, Tryz.results65, go_sem]; exact ⟨rfl, rfl⟩) rfl ?_
      exact ⟨by first | rfl | decide, rfl⟩
    · go_enter Tryz.func65, Tryz.ntmps65
      go_wp2
      refine bodyPost_ret (v := .tuple #[_, _]) (by simp [results, Tryz.results65, go_sem]; exact ⟨rfl, rfl⟩) rfl ?_
      exact ⟨by first | rfl | decide, rfl⟩
  · have e : nextV 2 i own = (2, false) := by simp [nextV, waysV, goF, keyI, valI, insI, transL, writeL, h0, h3]
    rw [e]
    clear e
    go_enter Tryz.func65, Tryz.ntmps65
    go_wp2
    refine bodyPost_ret (v := .tuple #[_, _]) (by simp [results, Tryz.results65, go_sem]; exact ⟨rfl, rfl⟩) rfl ?_
    exact ⟨by first | rfl | decide, rfl⟩
set_option maxHeartbeats 4000000 in
theorem refNext_3 (i : Int) (own : Bool) (w : World) : Calls Tryz.prog 65 #[.int .i64 3, .int .i64 i, .bool own] w fun e w' => e = .returned (.tuple #[.int .i64 (nextV 3 i own).1, .bool (nextV 3 i own).2]) ∧ w = w' := by
  have key : i = 0 ∨ i = 7 ∨ i = 9 ∨ i = 13 ∨ (i ≠ 0 ∧ i ≠ 7 ∧ i ≠ 9 ∧ i ≠ 13) := by omega
  rcases key with rfl | rfl | rfl | rfl | ⟨h0, h7, h9, h13⟩
  · cases own
    · go_enter Tryz.func65, Tryz.ntmps65
      go_wp2
      refine bodyPost_ret (v := .tuple #[_, _]) (by simp [results, Tryz.results65, go_sem]; exact ⟨rfl, rfl⟩) rfl ?_
      exact ⟨by first | rfl | decide, rfl⟩
    · go_enter Tryz.func65, Tryz.ntmps65
      go_wp2
      refine bodyPost_ret (v := .tuple #[_, _]) (by simp [results, Tryz.results65, go_sem]; exact ⟨rfl, rfl⟩) rfl ?_
      exact ⟨by first | rfl | decide, rfl⟩
  · cases own
    · go_enter Tryz.func65, Tryz.ntmps65
      go_wp2
      refine bodyPost_ret (v := .tuple #[_, _]) (by simp [results, Tryz.results65, go_sem]; exact ⟨rfl, rfl⟩) rfl ?_
      exact ⟨by first | rfl | decide, rfl⟩
    · go_enter Tryz.func65, Tryz.ntmps65
      go_wp2
      refine bodyPost_ret (v := .tuple #[_, _]) (by simp [results, Tryz.results65, go_sem]; exact ⟨rfl, rfl⟩) rfl ?_
      exact ⟨by first | rfl | decide, rfl⟩
  · cases own
    · go_enter Tryz.func65, Tryz.ntmps65
      go_wp2
      refine bodyPost_ret (v := .tuple #[_, _]) (by simp [results, Tryz.results65, go_sem]; exact ⟨rfl, rfl⟩) rfl ?_
      exact ⟨by first | rfl | decide, rfl⟩
    · go_enter Tryz.func65, Tryz.ntmps65
      go_wp2
      refine bodyPost_ret (v := .tuple #[_, _]) (by simp [results, Tryz.results65, go_sem]; exact ⟨rfl, rfl⟩) rfl ?_
      exact ⟨by first | rfl | decide, rfl⟩
  · cases own
    · go_enter Tryz.func65, Tryz.ntmps65
      go_wp2
      refine bodyPost_ret (v := .tuple #[_, _]) (by simp [results, Tryz.results65, go_sem]; exact ⟨rfl, rfl⟩) rfl ?_
      exact ⟨by first | rfl | decide, rfl⟩
    · go_enter Tryz.func65, Tryz.ntmps65
      go_wp2
      refine bodyPost_ret (v := .tuple #[_, _]) (by simp [results, Tryz.results65, go_sem]; exact ⟨rfl, rfl⟩) rfl ?_
      exact ⟨by first | rfl | decide, rfl⟩
  · have e : nextV 3 i own = (3, false) := by simp [nextV, waysV, goF, keyI, valI, insI, transL, writeL, h0, h7, h9, h13]
    rw [e]
    clear e
    go_enter Tryz.func65, Tryz.ntmps65
    go_wp2
    refine bodyPost_ret (v := .tuple #[_, _]) (by simp [results, Tryz.results65, go_sem]; exact ⟨rfl, rfl⟩) rfl ?_
    exact ⟨by first | rfl | decide, rfl⟩
set_option maxHeartbeats 4000000 in
theorem refNext_4 (i : Int) (own : Bool) (w : World) : Calls Tryz.prog 65 #[.int .i64 4, .int .i64 i, .bool own] w fun e w' => e = .returned (.tuple #[.int .i64 (nextV 4 i own).1, .bool (nextV 4 i own).2]) ∧ w = w' := by
  have key : i = 0 ∨ i = 7 ∨ i = 13 ∨ i = 6 ∨ i = 8 ∨ i = 17 ∨ i = 18 ∨ i = 23 ∨ i = 28 ∨ i = 29 ∨ i = 30 ∨ i = 35 ∨ i = 36 ∨ i = 38 ∨ i = 24 ∨ i = 25 ∨ (i ≠ 0 ∧ i ≠ 7 ∧ i ≠ 13 ∧ i ≠ 6 ∧ i ≠ 8 ∧ i ≠ 17 ∧ i ≠ 18 ∧ i ≠ 23 ∧ i ≠ 28 ∧ i ≠ 29 ∧ i ≠ 30 ∧ i ≠ 35 ∧ i ≠ 36 ∧ i ≠ 38 ∧ i ≠ 24 ∧ i ≠ 25) := by omega
  rcases key with rfl | rfl | rfl | rfl | rfl | rfl | rfl | rfl | rfl | rfl | rfl | rfl | rfl | rfl | rfl | rfl | ⟨h0, h7, h13, h6, h8, h17, h18, h23, h28, h29, h30, h35, h36, h38, h24, h25⟩
  · cases own
    · go_enter Tryz.func65, Tryz.ntmps65
      go_wp2
      refine bodyPost_ret (v := .tuple #[_, _]) (by simp [results, Tryz.results65, go_sem]; exact ⟨rfl, rfl⟩) rfl ?_
      exact ⟨by first | rfl | decide, rfl⟩
    · go_enter Tryz.func65, Tryz.ntmps65
      go_wp2
      refine bodyPost_ret (v := .tuple #[_, _]) (by simp [results, Tryz.results65, go_sem]; exact ⟨rfl, rfl⟩) rfl ?_
      exact ⟨by first | rfl | decide, rfl⟩
  · cases own
    · go_enter Tryz.func65, Tryz.ntmps65
      go_wp2
      refine bodyPost_ret (v := .tuple #[_, _]) (by simp [results, Tryz.results65, go_sem]; exact ⟨rfl, rfl⟩) rfl ?_
      exact ⟨by first | rfl | decide, rfl⟩
    · go_enter Tryz.func65, Tryz.ntmps65
      go_wp2
      refine bodyPost_ret (v := .tuple #[_, _]) (by simp [results, Tryz.results65, go_sem]; exact ⟨rfl, rfl⟩) rfl ?_
      exact ⟨by first | rfl | decide, rfl⟩
  · cases own
    · go_enter Tryz.func65, Tryz.ntmps65
      go_wp2
      refine bodyPost_ret (v := .tuple #[_, _]) (by simp [results, Tryz.results65, go_sem]; exact ⟨rfl, rfl⟩) rfl ?_
      exact ⟨by first | rfl | decide, rfl⟩
    · go_enter Tryz.func65, Tryz.ntmps65
      go_wp2
      refine bodyPost_ret (v := .tuple #[_, _]) (by simp [results, Tryz.results65, go_sem]; exact ⟨rfl, rfl⟩) rfl ?_
      exact ⟨by first | rfl | decide, rfl⟩
  · cases own
    · go_enter Tryz.func65, Tryz.ntmps65
      go_wp2
      refine bodyPost_ret (v := .tuple #[_, _]) (by simp [results, Tryz.results65, go_sem]; exact ⟨rfl, rfl⟩) rfl ?_
      exact ⟨by first | rfl | decide, rfl⟩
    · go_enter Tryz.func65, Tryz.ntmps65
      go_wp2
      refine bodyPost_ret (v := .tuple #[_, _]) (by simp [results, Tryz.results65, go_sem]; exact ⟨rfl, rfl⟩) rfl ?_
      exact ⟨by first | rfl | decide, rfl⟩
  · cases own
    · go_enter Tryz.func65, Tryz.ntmps65
      go_wp2
      refine bodyPost_ret (v := .tuple #[_, _]) (by simp [results, Tryz.results65, go_sem]; exact ⟨rfl, rfl⟩) rfl ?_
      exact ⟨by first | rfl | decide, rfl⟩
    · go_enter Tryz.func65, Tryz.ntmps65
      go_wp2
      refine bodyPost_ret (v := .tuple #[_, _]) (by simp [results, Tryz.results65, go_sem]; exact ⟨rfl, rfl⟩) rfl ?_
      exact ⟨by first | rfl | decide, rfl⟩
  · cases own
    · go_enter Tryz.func65, Tryz.ntmps65
      go_wp2
      refine bodyPost_ret (v := .tuple #[_, _]) (by simp [results, Tryz.results65, go_sem]; exact ⟨rfl, rfl⟩) rfl ?_
      exact ⟨by first | rfl | decide, rfl⟩
    · go_enter Tryz.func65, Tryz.ntmps65
      go_wp2
      refine bodyPost_ret (v := .tuple #[_, _]) (by simp [results, Tryz.results65, go_sem]; exact ⟨rfl, rfl⟩) rfl ?_
      exact ⟨by first | rfl | decide, rfl⟩
  · cases own
    · go_enter Tryz.func65, Tryz.ntmps65
      go_wp2
      refine bodyPost_ret (v := .tuple #[_, _]) (by simp [results, Tryz.results65, go_sem]; exact ⟨rfl, rfl⟩) rfl ?_
      exact ⟨by first | rfl | decide, rfl⟩
    · go_enter Tryz.func65, Tryz.ntmps65
      go_wp2
      refine bodyPost_ret (v := .tuple #[_, _]) (by simp [results, Tryz.results65, go_sem]; exact ⟨rfl, rfl⟩) rfl ?_
      exact ⟨by first | rfl | decide, rfl⟩
  · cases own
    · go_enter Tryz.func65, Tryz.ntmps65
      go_wp2
      refine bodyPost_ret (v := .tuple #[_, _]) (by simp [results, Tryz.results65, go_sem]; exact ⟨rfl, rfl⟩) rfl ?_
      exact ⟨by first | rfl | decide, rfl⟩
    · go_enter Tryz.func65, Tryz.ntmps65
      go_wp2
      refine bodyPost_ret (v := .tuple #[_, _]) (by simp [results, Tryz.results65, go_sem]; exact ⟨rfl, rfl⟩) rfl ?_
      exact ⟨by first | rfl | decide, rfl⟩
  · cases own
    · go_enter Tryz.func65, Tryz.ntmps65
      go_wp2
      refine bodyPost_ret (v := .tuple #[_, _]) (by simp [results, Tryz.results65, go_sem]; exact ⟨rfl, rfl⟩) rfl ?_
      exact ⟨by first | rfl | decide, rfl⟩
    · go_enter Tryz.func65, Tryz.ntmps65
      go_wp2
      refine bodyPost_ret (v := .tuple #[_, _]) (by simp [results, Tryz.results65, go_sem]; exact ⟨rfl, rfl⟩) rfl ?_
      exact ⟨by first | rfl | decide, rfl⟩
  · cases own
    · go_enter Tryz.func65, Tryz.ntmps65
      go_wp2
      refine bodyPost_ret (v := .tuple #[_, _]) (by simp [results, Tryz.results65, go_sem]; exact ⟨rfl, rfl⟩) rfl ?_
      exact ⟨by first | rfl | decide, rfl⟩
    · go_enter Tryz.func65, Tryz.ntmps65
      go_wp2
      refine bodyPost_ret (v := .tuple #[_, _]) (by simp [results, Tryz.results65, go_sem]; exact ⟨rfl, rfl⟩) rfl ?_
      exact ⟨by first | rfl | decide, rfl⟩
  · cases own
    · go_enter Tryz.func65, Tryz.ntmps65
      go_wp2
      refine bodyPost_ret (v := .tuple #[_, _]) (by simp [results, Tryz.results65, go_sem]; exact ⟨rfl, rfl⟩) rfl ?_
      exact ⟨by first | rfl | decide, rfl⟩
    · go_enter Tryz.func65, Tryz.ntmps65
      go_wp2
      refine bodyPost_ret (v := .tuple #[_, _]) (by simp [results, Tryz.results65, go_sem]; exact ⟨rfl, rfl⟩) rfl ?_
      exact ⟨by first | rfl | decide, rfl⟩
  · cases own
    · go_enter Tryz.func65, Tryz.ntmps65
      go_wp2
      refine bodyPost_ret (v := .tuple #[_, _]) (by simp [results, Tryz.results65, go_sem]; exact ⟨rfl, rfl⟩) rfl ?_
      exact ⟨by first | rfl | decide, rfl⟩
    · go_enter Tryz.func65, Tryz.ntmps65
      go_wp2
      refine bodyPost_ret (v := .tuple #[_, _]) (by simp [results, Tryz.results65, go_sem]; exact ⟨rfl, rfl⟩) rfl ?_
      exact ⟨by first | rfl | decide, rfl⟩
  · cases own
    · go_enter Tryz.func65, Tryz.ntmps65
      go_wp2
      refine bodyPost_ret (v := .tuple #[_, _]) (by simp [results, Tryz.results65, go_sem]; exact ⟨rfl, rfl⟩) rfl ?_
      exact ⟨by first | rfl | decide, rfl⟩
    · go_enter Tryz.func65, Tryz.ntmps65
      go_wp2
      refine bodyPost_ret (v := .tuple #[_, _]) (by simp [results, Tryz.results65, go_sem]; exact ⟨rfl, rfl⟩) rfl ?_
      exact ⟨by first | rfl | decide, rfl⟩
  · cases own
    · go_enter Tryz.func65, Tryz.ntmps65
      go_wp2
      refine bodyPost_ret (v := .tuple #[_, _]) (by simp [results, Tryz.results65, go_sem]; exact ⟨rfl, rfl⟩) rfl ?_
      exact ⟨by first | rfl | decide, rfl⟩
    · go_enter Tryz.func65, Tryz.ntmps65
      go_wp2
      refine bodyPost_ret (v := .tuple #[_, _]) (by simp [results, Tryz.results65, go_sem]; exact ⟨rfl, rfl⟩) rfl ?_
      exact ⟨by first | rfl | decide, rfl⟩
  · cases own
    · go_enter Tryz.func65, Tryz.ntmps65
      go_wp2
      refine bodyPost_ret (v := .tuple #[_, _]) (by simp [results, Tryz.results65, go_sem]; exact ⟨rfl, rfl⟩) rfl ?_
      exact ⟨by first | rfl | decide, rfl⟩
    · go_enter Tryz.func65, Tryz.ntmps65
      go_wp2
      refine bodyPost_ret (v := .tuple #[_, _]) (by simp [results, Tryz.results65, go_sem]; exact ⟨rfl, rfl⟩) rfl ?_
      exact ⟨by first | rfl | decide, rfl⟩
  · cases own
    · go_enter Tryz.func65, Tryz.ntmps65
      go_wp2
      refine bodyPost_ret (v := .tuple #[_, _]) (by simp [results, Tryz.results65, go_sem]; exact ⟨rfl, rfl⟩) rfl ?_
      exact ⟨by first | rfl | decide, rfl⟩
    · go_enter Tryz.func65, Tryz.ntmps65
      go_wp2
      refine bodyPost_ret (v := .tuple #[_, _]) (by simp [results, Tryz.results65, go_sem]; exact ⟨rfl, rfl⟩) rfl ?_
      exact ⟨by first | rfl | decide, rfl⟩
  · have e : nextV 4 i own = (4, false) := by simp [nextV, waysV, goF, keyI, valI, insI, transL, writeL, h0, h7, h13, h6, h8, h17, h18, h23, h28, h29, h30, h35, h36, h38, h24, h25]
    rw [e]
    clear e
    go_enter Tryz.func65, Tryz.ntmps65
    go_wp2
    refine bodyPost_ret (v := .tuple #[_, _]) (by simp [results, Tryz.results65, go_sem]; exact ⟨rfl, rfl⟩) rfl ?_
    exact ⟨by first | rfl | decide, rfl⟩
set_option maxHeartbeats 4000000 in
theorem refNext_6 (i : Int) (own : Bool) (w : World) : Calls Tryz.prog 65 #[.int .i64 6, .int .i64 i, .bool own] w fun e w' => e = .returned (.tuple #[.int .i64 (nextV 6 i own).1, .bool (nextV 6 i own).2]) ∧ w = w' := by
  have key : i = 0 ∨ i = 12 ∨ i = 13 ∨ (i ≠ 0 ∧ i ≠ 12 ∧ i ≠ 13) := by omega
  rcases key with rfl | rfl | rfl | ⟨h0, h12, h13⟩
  · cases own
    · go_enter Tryz.func65, Tryz.ntmps65
      go_wp2
      refine bodyPost_ret (v := .tuple #[_, _]) (by simp [results, Tryz.results65, go_sem]; exact ⟨rfl, rfl⟩) rfl ?_
      exact ⟨by first | rfl | decide, rfl⟩
    · go_enter Tryz.func65, Tryz.ntmps65
      go_wp2
      refine bodyPost_ret (v := .tuple #[_, _]) (by simp [results, Tryz.results65, go_sem]; exact ⟨rfl, rfl⟩) rfl ?_
      exact ⟨by first | rfl | decide, rfl⟩
  · cases own
    · go_enter Tryz.func65, Tryz.ntmps65
      go_wp2
      refine bodyPost_ret (v := .tuple #[_, _]) (by simp [results, Tryz.results65, go_sem]; exact ⟨rfl, rfl⟩) rfl ?_
      exact ⟨by first | rfl | decide, rfl⟩
    · go_enter Tryz.func65, Tryz.ntmps65
      go_wp2
      refine bodyPost_ret (v := .tuple #[_, _]) (by simp [results, Tryz.results65, go_sem]; exact ⟨rfl, rfl⟩) rfl ?_
      exact ⟨by first | rfl | decide, rfl⟩
  · cases own
    · go_enter Tryz.func65, Tryz.ntmps65
      go_wp2
      refine bodyPost_ret (v := .tuple #[_, _]) (by simp [results, Tryz.results65, go_sem]; exact ⟨rfl, rfl⟩) rfl ?_
      exact ⟨by first | rfl | decide, rfl⟩
    · go_enter Tryz.func65, Tryz.ntmps65
      go_wp2
      refine bodyPost_ret (v := .tuple #[_, _]) (by simp [results, Tryz.results65, go_sem]; exact ⟨rfl, rfl⟩) rfl ?_
      exact ⟨by first | rfl | decide, rfl⟩
  · have e : nextV 6 i own = (6, false) := by simp [nextV, waysV, goF, keyI, valI, insI, transL, writeL, h0, h12, h13]
    rw [e]
    clear e
    go_enter Tryz.func65, Tryz.ntmps65
    go_wp2
    refine bodyPost_ret (v := .tuple #[_, _]) (by simp [results, Tryz.results65, go_sem]; exact ⟨rfl, rfl⟩) rfl ?_
    exact ⟨by first | rfl | decide, rfl⟩
theorem refNext_any (s i : Int) (own : Bool) (hs : s ∈ statesL) (w : World) : Calls Tryz.prog 65 #[.int .i64 s, .int .i64 i, .bool own] w fun e w' => e = .returned (.tuple #[.int .i64 (nextV s i own).1, .bool (nextV s i own).2]) ∧ w = w' := by
  simp only [statesL, List.mem_cons, List.not_mem_nil, or_false] at hs
  rcases hs with rfl | rfl | rfl | rfl | rfl | rfl
  · exact refNext_0 i own w
  · exact refNext_1 i own w
  · exact refNext_2 i own w
  · exact refNext_3 i own w
  · exact refNext_4 i own w
  · exact refNext_6 i own w
end Go.Proofs.YtclhhdodebdmjaaGreat
