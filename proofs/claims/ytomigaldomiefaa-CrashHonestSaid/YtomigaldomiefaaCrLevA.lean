/- crash: of, nought, level: what they hand back. -/
import Derived.Test.YtomigaldomiefaaCrOf
import Derived.Test.YtomigaldomiefaaOwnSeq
import Derived.Deep.OwnRows
namespace Go.Proofs.Ytomigaldomiefaa
open Go.RowKit Go.Shelf
attribute [local go_sem] Oper.semAt_some
attribute [local simp, local go_sem] wide_fn
set_option linter.unusedVariables false
set_option linter.unusedSimpArgs false

theorem made_at (v : Value) (n j : Nat) (h : j < n) : (madeCells #[v] n)[j]? = some v := by
  simp [madeCells, h, Nat.mod_one]
theorem zeros_cells (w : World) (n : Nat) : Cells8 (w.alloc (.cells (madeCells #[.int .u8 0] n) 5)) (some ⟨w.heap.size, 0, none⟩) (List.replicate n 0) := fun i hi => by
  have hi' : i < n := by simpa using hi
  refine ⟨w.heap.size, 0, rfl, ?_⟩
  rw [Nat.zero_add, (Row.fresh w 5 _).cell, made_at _ _ _ hi']
  simp [List.getD, hi']
theorem of_any (A : Option Addr) (n c : Nat) (p : Int) (w : World) : Calls Try.prog 58 #[.slice A n c, .int .i64 p] w fun e w' => e = .returned (.func (.func 70) #[] #[.pointer (some ⟨w.heap.size, 0, none⟩), .pointer (some ⟨w.heap.size + 1, 0, none⟩)]) ∧ w' = (w.alloc (.cells #[.slice A n c] 23)).alloc (.cells #[.int .i64 p] 3) := by
  go_enter Try.func58, Try.ntmps58
  go_wp2
  go_ret
  exact ⟨rfl, rfl⟩
theorem level_any (C k p : Nat) (w : World) : Calls Try.prog 42 #[.pointer (some ⟨C, 0, none⟩), .int .i64 k, .int .i64 p] w fun e w' => ∃ Z, e = .returned (.func (.func 56) #[] #[.pointer (some ⟨Z, 0, none⟩), .pointer (some ⟨Z + 2, 0, none⟩), .pointer (some ⟨Z + 1, 0, none⟩)]) ∧ Z = w.heap.size ∧ Row w' Z 25 #[.pointer (some ⟨C, 0, none⟩)] ∧ Row w' (Z + 1) 3 #[.int .i64 k] ∧ Row w' (Z + 2) 3 #[.int .i64 p] ∧ Below w.heap.size w w' := by
  go_enter Try.func42, Try.ntmps42
  go_wp2
  go_ret
  refine ⟨w.heap.size, rfl, rfl, ?_, ?_, ?_, by (repeat (first | (with_reducible refine Below.drew ?_) | (with_reducible refine below_drewN0 ?_ _) | ((with_reducible refine Below.setCell ?_ ?_ _); rotate_left; focus (first | omega | (simp; done) | (simp; omega) | (simp at *; omega))) | ((with_reducible refine Below.alloc ?_ ?_ _); rotate_left; focus (first | omega | (simp; done) | (simp; omega) | (simp at *; omega))) | (with_reducible exact Below.refl _ _)))⟩
  · exact ((Row.fresh w _ _).alloc _).alloc _
  · have := Row.fresh (w.alloc (.cells #[.pointer (some ⟨C, 0, none⟩)] 25)) 3 #[.int .i64 k]
    rw [World.size_alloc] at this
    exact this.alloc _
  · have := Row.fresh ((w.alloc (.cells #[.pointer (some ⟨C, 0, none⟩)] 25)).alloc (.cells #[.int .i64 k] 3)) 3 #[.int .i64 p]
    rw [World.size_alloc, World.size_alloc] at this
    exact this
theorem nought_any (C sz : Nat) (hsz : sz ≤ 65536) (w : World) (hc : w.cell? ⟨C, 1, none⟩ = some (.int .i64 sz)) : Calls Try.prog 57 #[.pointer (some ⟨C, 0, none⟩)] w fun e w' => e = .returned (.string (textOf (zs sz))) ∧ w' = w.alloc (.cells (madeCells #[.int .u8 0] sz) 5) := by
  obtain ⟨i1, ji, jz0, jz1, jz2⟩ := info_parts u8_info
  have hb1 : Hid (i1.bytes * sz ≤ 281474976710656) := by unfold Hid; rw [jz2]; omega
  have hmk : (Instr.makeSlice 22 (.int .i64 sz) (.int .i64 sz)).run Try.prog w = .ok (.slice (some ⟨w.heap.size, 0, none⟩) sz sz) (w.alloc (.cells (madeCells #[.int .u8 0] sz) 5)) := run_make_row (P := Try.prog) 22 5 i1 _ Try.underlying22 ji jz0 jz1 rfl .i64 .i64 sz hb1.out (by omega) w
  have hcz : (convert 22 9 (.slice (some ⟨w.heap.size, 0, none⟩) sz sz)).run Try.prog (w.alloc (.cells (madeCells #[.int .u8 0] sz) 5)) = .ok (.string (textOf (zs sz))) (w.alloc (.cells (madeCells #[.int .u8 0] sz) 5)) := by
    have := conv_text (c := sz) (zeros_cells w sz)
    rw [List.length_replicate] at this
    exact this
  generalize textOf (zs sz) = tz at *
  clear ji jz0 jz1 jz2 hb1
  go_enter Try.func57, Try.ntmps57
  go_wp2
  go_ret
  exact ⟨rfl, rfl⟩
end Go.Proofs.Ytomigaldomiefaa
