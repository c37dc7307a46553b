/- guard: New, there, Kind, May, Level, Set, Clear; slices.Clone. -/
import Derived.Test.YtallanlajecmhaaHeld
import Derived.StillTailTactics
import Derived.OwnWalk
namespace Go.Proofs.Ytallanlajecmhaa
open Go.RowKit
set_option linter.unusedVariables false
set_option linter.unusedSimpArgs false

abbrev GHeld := Held 51 5 .u8
abbrev RHeld := Held 57 3 .i64
theorem neG : 51 ≠ 5 := by decide
theorem neR : 57 ≠ 3 := by decide
theorem u8_info : (Try.prog.info? 5).map (fun i => (i.zero, i.size, i.bytes)) = some (some (.int .u8 0), 1, 1) := by kernel_rfl

theorem Level_any (x : Nat) (w : World) : Calls Try.prog 10 #[.int .u8 x] w fun e w' => e = .returned (.int .i64 (if x = 1 then 2 else if x = 2 then 3 else 1)) ∧ w = w' := by
  have key : x = 1 ∨ (x ≠ 1 ∧ x = 2) ∨ (x ≠ 1 ∧ x ≠ 2) := by omega
  rcases key with h1 | ⟨h1, h2⟩ | ⟨h1, h2⟩
  all_goals
    go_enter Try.func10, Try.ntmps10
    simp only [*] at *
    go_wp2
    try go_ret
    try simp_all

theorem New_no (n : Int) (hn : n < 1 ∨ 256 < n) (w : World) : Calls Try.prog 8 #[.int .i64 n] w fun e w' => e = .returned (.tuple #[.pointer none, .int .i64 1]) ∧ w = w' := by
  have key : n < 1 ∨ (¬ n < 1 ∧ 256 < n) := by omega
  rcases key with h1 | ⟨h1, h2⟩
  all_goals
    go_enter Try.func8, Try.ntmps8
    go_wp2
    refine bodyPost_ret (v := .tuple #[.pointer none, .int .i64 1]) (by simp [results, Try.results8, go_sem]) rfl ⟨rfl, rfl⟩
theorem New_yes (n : Nat) (h1 : 1 ≤ n) (h2 : n ≤ 256) (w : World) : Calls Try.prog 8 #[.int .i64 n] w fun e w' => ∃ G L c, e = .returned (.tuple #[.pointer (some ⟨G, 0, none⟩), .int .i64 0]) ∧ GHeld w' w.heap.size G L c (List.replicate n 0) ∧ Below w.heap.size w w' := by
  obtain ⟨i0, hi, hz0, hz1, hz2⟩ := info_parts u8_info
  have b1 : Hid (i0.bytes * n ≤ 281474976710656) := by unfold Hid; rw [hz2]; omega
  have b2 : Hid (n ≤ maxLen) := by unfold Hid maxLen; omega
  go_enter Try.func8, Try.ntmps8
  go_wp2_with (refine wpList_make_full _ rfl _ _ 44 rfl w.heap.size 5 i0 (.int .u8 0) 1 Try.underlying44 hi hz0 hz1 .i64 .i64 _ _ n rfl rfl rfl rfl b1.out b2.out (Nat.le_refl _) ?_; intro w1 hown hgrow)
  have hb : Below w.heap.size w w1 := (Below.refl _ w).grown hgrow (Nat.le_refl _) (by simp)
  have hs := hb.size
  have hz : intsV .u8 (List.replicate n 0) = (madeCells (Value.int .u8 0).cells (n * 1)).toList := by
    rw [show (Value.int .u8 0).cells = #[Value.int .u8 0] from rfl, toList_madeCells_one, Nat.mul_one]; simp [intsV]
  rw [← hz] at hown
  have hown := Lib.hid hown
  clear hz
  go_wp2
  refine bodyPost_ret (v := .tuple #[.pointer (some ⟨w1.heap.size, 0, none⟩), .int .i64 0]) (by simp [results, Try.results8, go_sem]) rfl ?_
  have ho : w1.ownsRow w.heap.size 5 1 (.slice (some ⟨w.heap.size, 0, none⟩) (List.replicate n 0).length n) (List.replicate n 0).length (intsV .u8 (List.replicate n 0)) := by rw [List.length_replicate]; exact hown.out
  refine ⟨w1.heap.size, w.heap.size, n, rfl, ⟨hs, ?_, own_below ho (by (repeat (first | (with_reducible refine Below.drew ?_) | (with_reducible refine below_drewN0 ?_ _) | ((with_reducible refine Below.setCell ?_ ?_ _); rotate_left; focus (first | omega | (simp; done) | (simp; omega) | (simp at *; omega))) | ((with_reducible refine Below.alloc ?_ ?_ _); rotate_left; focus (first | omega | (simp; done) | (simp; omega) | (simp at *; omega))) | (with_reducible exact Below.refl _ _))))⟩, by (have hsz0 := Below.size hb; repeat (first | (with_reducible refine Below.drew ?_) | (with_reducible refine below_drewN0 ?_ _) | ((with_reducible refine Below.setCell ?_ ?_ _); rotate_left; focus (first | omega | (simp; done) | (simp; omega) | (simp at *; omega))) | ((with_reducible refine Below.alloc ?_ ?_ _); rotate_left; focus (first | omega | (simp; done) | (simp; omega) | (simp at *; omega))) | ((with_reducible refine Below.trans ?_ (Below.mono hb ?_)); rotate_left; focus (first | omega | (simp; done) | (simp; omega) | (simp at *; omega))) | (with_reducible exact Below.refl _ _)))⟩
  rw [List.length_replicate]
  exact Row.fresh _ _ _
theorem there_any (p : Nat) (L c : Nat) (ks : List Nat) (g : Int) (w : World) (h : w.cell? ⟨p, 0, none⟩ = some (.slice (some ⟨L, 0, none⟩) ks.length c)) :
    Calls Try.prog 25 #[.pointer (some ⟨p, 0, none⟩), .int .i64 g] w fun e w' => e = .returned (.bool (decide (0 ≤ g ∧ g < ks.length))) ∧ w = w' := by
  revert h
  generalize ks.length = n
  intro h
  by_cases h1 : 0 ≤ g
  · by_cases h2 : g < n
    · go_enter Try.func25, Try.ntmps25
      go_wp2
      go_ret
      simp [h1, h2]
    · go_enter Try.func25, Try.ntmps25
      go_wp2
      go_ret
      simp [h1, h2]
  · go_enter Try.func25, Try.ntmps25
    go_wp2
    go_ret
    simp
    omega
set_option maxHeartbeats 400000 in
theorem Kind_any (G L c : Nat) (ks : List Nat) (hlen : ks.length ≤ 256) (g : Int) (B : Nat) (w : World) (h : GHeld w B G L c ks) (h4 : ∀ x ∈ ks, x < 4) :
    Calls Try.prog 14 #[.pointer (some ⟨G, 0, none⟩), .int .i64 g] w fun e w' => e = .returned (.int .i64 (if 0 ≤ g ∧ g < ks.length then (ks.getD g.toNat 0 : Nat) else 0)) ∧ w = w' := by
  have HT := Lib.hid (there_any G L c ks g w h.cellG)
  have H := Lib.hid h
  by_cases hg : 0 ≤ g ∧ g < ks.length
  · obtain ⟨i, rfl⟩ := Int.eq_ofNat_of_zero_le hg.1
    have hi : i < ks.length := by omega
    have hgc := h.cellG
    have hc := h.cell i hi
    have hx : ks.getD i 0 < 4 := h4 _ (getD_mem _ _ hi)
    rw [show (if (0 : Int) ≤ (i : Int) ∧ (i : Int) < ks.length then ((ks.getD (i : Int).toNat 0 : Nat) : Int) else 0) = (ks.getD i 0 : Nat) by rw [if_pos hg]; simp]
    rw [show decide ((0 : Int) ≤ (i : Int) ∧ (i : Int) < ks.length) = true by simp [hi]] at HT
    clear h H hg
    generalize ks.getD i 0 = x at *
    generalize ks.length = n at *
    go_enter Try.func14, Try.ntmps14
    go_wp2_with fail
    refine (HT.out).mono ?_
    rintro e w' ⟨rfl, rfl⟩
    go_wp2
    go_ret
    simp
  · rw [if_neg hg]
    rw [show decide ((0 : Int) ≤ g ∧ g < ks.length) = false by simp; omega] at HT
    clear h H
    go_enter Try.func14, Try.ntmps14
    go_wp2_with fail
    refine (HT.out).mono ?_
    rintro e w' ⟨rfl, rfl⟩
    go_wp2
    go_ret
    simp
set_option maxHeartbeats 400000 in
theorem May_any (G L c : Nat) (ks : List Nat) (hlen : ks.length ≤ 256) (g : Int) (B : Nat) (w : World) (h : GHeld w B G L c ks) (h4 : ∀ x ∈ ks, x < 4) :
    Calls Try.prog 13 #[.pointer (some ⟨G, 0, none⟩), .int .i64 g] w fun e w' => e = .returned (.bool (decide ((0 ≤ g ∧ g < ks.length) ∧ ks.getD g.toNat 0 = 0))) ∧ w = w' := by
  have HT := Lib.hid (there_any G L c ks g w h.cellG)
  have H := Lib.hid h
  by_cases hg : 0 ≤ g ∧ g < ks.length
  · obtain ⟨i, rfl⟩ := Int.eq_ofNat_of_zero_le hg.1
    have hi : i < ks.length := by omega
    have hgc := h.cellG
    have hc := h.cell i hi
    have hx : ks.getD i 0 < 4 := h4 _ (getD_mem _ _ hi)
    rw [show decide (((0 : Int) ≤ (i : Int) ∧ (i : Int) < ks.length) ∧ ks.getD (i : Int).toNat 0 = 0) = decide (ks.getD i 0 = 0) by simp [hi]]
    rw [show decide ((0 : Int) ≤ (i : Int) ∧ (i : Int) < ks.length) = true by simp [hi]] at HT
    clear h H hg
    generalize ks.getD i 0 = x at *
    generalize ks.length = n at *
    by_cases h0 : x = 0
    all_goals
      go_enter Try.func13, Try.ntmps13
      go_wp2_with fail
      refine (HT.out).mono ?_
      rintro e w' ⟨rfl, rfl⟩
      go_wp2
      go_ret
      simp [h0]
  · rw [show decide (((0 : Int) ≤ g ∧ g < ks.length) ∧ ks.getD g.toNat 0 = 0) = false by simp; omega]
    rw [show decide ((0 : Int) ≤ g ∧ g < ks.length) = false by simp; omega] at HT
    clear h H
    go_enter Try.func13, Try.ntmps13
    go_wp2_with fail
    refine (HT.out).mono ?_
    rintro e w' ⟨rfl, rfl⟩
    go_wp2
    go_ret
    simp
end Go.Proofs.Ytallanlajecmhaa
