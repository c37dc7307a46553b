/- locketref14: New, Kind, May, Set, Clear, PowerUp, Level. -/
import Derived.Test.YtallanlajecmhaaGuardBitsPlain
namespace Go.Proofs.Ytallanlajecmhaa
open Go.RowKit
set_option linter.unusedVariables false
set_option linter.unusedSimpArgs false

theorem int_info : (Try.prog.info? 3).map (fun i => (i.zero, i.size, i.bytes)) = some (some (.int .i64 0), 1, 8) := by kernel_rfl

theorem refLevel_any (x : Nat) (w : World) : Calls Try.prog 24 #[.int .u8 x] w fun e w' => e = .returned (.int .i64 (if x = 1 then 2 else if x = 2 then 3 else 1)) ∧ w = w' := by
  have key : x = 1 ∨ (x ≠ 1 ∧ x = 2) ∨ (x ≠ 1 ∧ x ≠ 2) := by omega
  rcases key with h1 | ⟨h1, h2⟩ | ⟨h1, h2⟩
  all_goals
    go_enter Try.func24, Try.ntmps24
    simp only [*] at *
    go_wp2
    try go_ret
    try simp_all

theorem refNew_no (n : Int) (hn : n < 1 ∨ 256 < n) (w : World) : Calls Try.prog 16 #[.int .i64 n] w fun e w' => e = .returned (.tuple #[.pointer none, .int .i64 1]) ∧ w = w' := by
  have key : n < 1 ∨ (¬ n < 1 ∧ 256 < n) := by omega
  rcases key with h1 | ⟨h1, h2⟩
  all_goals
    go_enter Try.func16, Try.ntmps16
    go_wp2
    refine bodyPost_ret (v := .tuple #[.pointer none, .int .i64 1]) (by simp [results, Try.results16, go_sem]) rfl ⟨rfl, rfl⟩
theorem refNew_yes (n : Nat) (h1 : 1 ≤ n) (h2 : n ≤ 256) (w : World) : Calls Try.prog 16 #[.int .i64 n] w fun e w' => ∃ G L c, e = .returned (.tuple #[.pointer (some ⟨G, 0, none⟩), .int .i64 0]) ∧ RHeld w' w.heap.size G L c (List.replicate n 0) ∧ Below w.heap.size w w' := by
  obtain ⟨i0, hi, hz0, hz1, hz2⟩ := info_parts int_info
  have b1 : Hid (i0.bytes * n ≤ 281474976710656) := by unfold Hid; rw [hz2]; omega
  have b2 : Hid (n ≤ maxLen) := by unfold Hid maxLen; omega
  go_enter Try.func16, Try.ntmps16
  go_wp2_with (refine wpList_make_full _ rfl _ _ 55 rfl w.heap.size 3 i0 (.int .i64 0) 1 Try.underlying55 hi hz0 hz1 .i64 .i64 _ _ n rfl rfl rfl rfl b1.out b2.out (Nat.le_refl _) ?_; intro w1 hown hgrow)
  have hb : Below w.heap.size w w1 := (Below.refl _ w).grown hgrow (Nat.le_refl _) (by simp)
  have hs := hb.size
  have hz : intsV .i64 (List.replicate n 0) = (madeCells (Value.int .i64 0).cells (n * 1)).toList := by
    rw [show (Value.int .i64 0).cells = #[Value.int .i64 0] from rfl, toList_madeCells_one, Nat.mul_one]; simp [intsV]
  rw [← hz] at hown
  have hown := Lib.hid hown
  clear hz
  go_wp2
  refine bodyPost_ret (v := .tuple #[.pointer (some ⟨w1.heap.size, 0, none⟩), .int .i64 0]) (by simp [results, Try.results16, go_sem]) rfl ?_
  have ho : w1.ownsRow w.heap.size 3 1 (.slice (some ⟨w.heap.size, 0, none⟩) (List.replicate n 0).length n) (List.replicate n 0).length (intsV .i64 (List.replicate n 0)) := by rw [List.length_replicate]; exact hown.out
  refine ⟨w1.heap.size, w.heap.size, n, rfl, ⟨hs, ?_, own_below ho (by (repeat (first | (with_reducible refine Below.drew ?_) | (with_reducible refine below_drewN0 ?_ _) | ((with_reducible refine Below.setCell ?_ ?_ _); rotate_left; focus (first | omega | (simp; done) | (simp; omega) | (simp at *; omega))) | ((with_reducible refine Below.alloc ?_ ?_ _); rotate_left; focus (first | omega | (simp; done) | (simp; omega) | (simp at *; omega))) | (with_reducible exact Below.refl _ _))))⟩, by (have hsz0 := Below.size hb; repeat (first | (with_reducible refine Below.drew ?_) | (with_reducible refine below_drewN0 ?_ _) | ((with_reducible refine Below.setCell ?_ ?_ _); rotate_left; focus (first | omega | (simp; done) | (simp; omega) | (simp at *; omega))) | ((with_reducible refine Below.alloc ?_ ?_ _); rotate_left; focus (first | omega | (simp; done) | (simp; omega) | (simp at *; omega))) | ((with_reducible refine Below.trans ?_ (Below.mono hb ?_)); rotate_left; focus (first | omega | (simp; done) | (simp; omega) | (simp at *; omega))) | (with_reducible exact Below.refl _ _)))⟩
  rw [List.length_replicate]
  exact Row.fresh _ _ _

set_option maxHeartbeats 400000 in
theorem refKind_any {n : Nat} (hn : n ≤ 256) (G L c : Nat) (ks : List Nat) (g : Int) (B : Nat) (w : World) (h : RHeld w B G L c ks) (hk : Kinds n ks) :
    Calls Try.prog 30 #[.pointer (some ⟨G, 0, none⟩), .int .i64 g] w fun e w' => e = .returned (.int .i64 (kindK ks g : Nat)) ∧ w = w' := by
  have hgc := h.cellG
  have hlen : ks.length ≤ 256 := by rw [hk.1]; exact hn
  by_cases hg : inR ks g
  · have e : kindK ks g = ks.getD g.toNat 0 := by unfold kindK; rw [if_pos hg]
    obtain ⟨i, rfl⟩ := Int.eq_ofNat_of_zero_le hg.1
    have hi : i < ks.length := by have := hg.2; omega
    have hc := h.cell i hi
    rw [e, Int.toNat_natCast]
    clear h hg e hk
    generalize ks.getD i 0 = x at *
    generalize ks.length = m at *
    go_enter Try.func30, Try.ntmps30
    go_wp2
    go_ret
    exact ⟨rfl, rfl⟩
  · have e : kindK ks g = 0 := by unfold kindK; rw [if_neg hg]
    rw [e]
    have key : g < 0 ∨ (¬ g < 0 ∧ (ks.length : Int) ≤ g) := by unfold inR at hg; omega
    clear h hg e hk
    generalize ks.length = m at *
    rcases key with k1 | ⟨k1, k2⟩
    all_goals
      go_enter Try.func30, Try.ntmps30
      go_wp2
      go_ret
      exact ⟨rfl, rfl⟩
set_option maxHeartbeats 400000 in
theorem refMay_any {n : Nat} (hn : n ≤ 256) (G L c : Nat) (ks : List Nat) (g : Int) (B : Nat) (w : World) (h : RHeld w B G L c ks) (hk : Kinds n ks) :
    Calls Try.prog 31 #[.pointer (some ⟨G, 0, none⟩), .int .i64 g] w fun e w' => e = .returned (.bool (decide ((0 ≤ g ∧ g < ks.length) ∧ ks.getD g.toNat 0 = 0))) ∧ w = w' := by
  have hgc := h.cellG
  have hlen : ks.length ≤ 256 := by rw [hk.1]; exact hn
  by_cases hg : inR ks g
  · obtain ⟨i, rfl⟩ := Int.eq_ofNat_of_zero_le hg.1
    have hi : i < ks.length := by have := hg.2; omega
    have hc := h.cell i hi
    rw [show decide (((0 : Int) ≤ (i : Int) ∧ (i : Int) < ks.length) ∧ ks.getD (i : Int).toNat 0 = 0) = decide (ks.getD i 0 = 0) by simp [hi]]
    clear h hg hk
    generalize ks.getD i 0 = x at *
    generalize ks.length = m at *
    go_enter Try.func31, Try.ntmps31
    go_wp2
    go_ret
    simp
    by_cases h0 : x = 0 <;> simp [h0]
  · rw [show decide (((0 : Int) ≤ g ∧ g < ks.length) ∧ ks.getD g.toNat 0 = 0) = false by unfold inR at hg; simp; omega]
    have key : g < 0 ∨ (¬ g < 0 ∧ (ks.length : Int) ≤ g) := by unfold inR at hg; omega
    clear h hg hk
    generalize ks.length = m at *
    rcases key with k1 | ⟨k1, k2⟩
    all_goals
      go_enter Try.func31, Try.ntmps31
      go_wp2
      go_ret
      exact ⟨rfl, rfl⟩
set_option maxHeartbeats 400000 in
theorem refClear_any {n : Nat} (hn : n ≤ 256) (G L c : Nat) (ks : List Nat) (g : Int) (B : Nat) (w : World) (h : RHeld w B G L c ks) (hk : Kinds n ks) :
    Calls Try.prog 18 #[.pointer (some ⟨G, 0, none⟩), .int .i64 g] w fun e w' => e = .returned (.int .i64 (clearR ks g : Nat)) ∧ RHeld w' B G L c (clearK ks g) ∧ Turns w w' [L] := by
  have hgc := h.cellG
  have hlen : ks.length ≤ 256 := by rw [hk.1]; exact hn
  have H := Lib.hid h
  have HW := Lib.hid (Turns.refl w [L])
  by_cases hg : inR ks g
  · obtain ⟨i, rfl⟩ := Int.eq_ofNat_of_zero_le hg.1
    have hi : i < ks.length := by have := hg.2; omega
    have hc := h.cell i hi
    have hf := h.thaw i
    by_cases h2 : ks.getD i 0 < 2
    · have e1 : clearR ks (i : Int) = 0 := by unfold clearR; rw [if_pos hg, Int.toNat_natCast, if_pos h2]
      have e2 : clearK ks (i : Int) = ks.set i 0 := by unfold clearK; rw [if_pos ⟨hg, by simpa using h2⟩]; simp
      have HP := Lib.hid (h.put neR i 0 hi)
      have HW' := Lib.hid ((Turns.refl w [L]).setCell (p := ⟨L, i, none⟩) (by simp) (Value.int .i64 ((0 : Nat) : Int)))
      rw [e1, e2]
      clear h H hg HW e1 e2 hk
      generalize ks.set i 0 = ks' at *
      generalize ks.getD i 0 = x at *
      generalize ks.length = m at *
      go_enter Try.func18, Try.ntmps18
      go_wp2
      go_ret
      exact ⟨rfl, HP.out, HW'.out⟩
    · have e1 : clearR ks (i : Int) = 21 := by unfold clearR; rw [if_pos hg, Int.toNat_natCast, if_neg h2]
      have e2 : clearK ks (i : Int) = ks := by unfold clearK; rw [if_neg (fun e => h2 (by simpa using e.2))]
      rw [e1, e2]
      clear h hg e1 e2 hk
      generalize ks.getD i 0 = x at *
      generalize ks.length = m at *
      go_enter Try.func18, Try.ntmps18
      go_wp2
      go_ret
      exact ⟨rfl, H.out, HW.out⟩
  · have e1 : clearR ks g = 20 := by unfold clearR; rw [if_neg hg]
    have e2 : clearK ks g = ks := by unfold clearK; rw [if_neg (fun e => hg e.1)]
    rw [e1, e2]
    have key : g < 0 ∨ (¬ g < 0 ∧ (ks.length : Int) ≤ g) := by unfold inR at hg; omega
    clear h hg e1 e2 hk
    generalize ks.length = m at *
    rcases key with k1 | ⟨k1, k2⟩
    all_goals
      go_enter Try.func18, Try.ntmps18
      go_wp2
      go_ret
      exact ⟨rfl, H.out, HW.out⟩
set_option maxHeartbeats 400000 in
theorem refSet_any {n : Nat} (hn : n ≤ 256) (G L c : Nat) (ks : List Nat) (g k : Int) (B : Nat) (w : World) (h : RHeld w B G L c ks) (hk : Kinds n ks) :
    Calls Try.prog 17 #[.pointer (some ⟨G, 0, none⟩), .int .i64 g, .int .i64 k] w fun e w' => e = .returned (.int .i64 (setR ks g k : Nat)) ∧ RHeld w' B G L c (setK ks g k) ∧ Turns w w' [L] := by
  have hgc := h.cellG
  have hlen : ks.length ≤ 256 := by rw [hk.1]; exact hn
  have H := Lib.hid h
  have HW := Lib.hid (Turns.refl w [L])
  by_cases hg : inR ks g
  · obtain ⟨i, rfl⟩ := Int.eq_ofNat_of_zero_le hg.1
    have hi : i < ks.length := by have := hg.2; omega
    have hc := h.cell i hi
    have hf := h.thaw i
    have key : k < 1 ∨ (¬ k < 1 ∧ 3 < k) ∨ (1 ≤ k ∧ k ≤ 3) := by omega
    rcases key with h1 | ⟨h1, h2⟩ | ⟨h1, h2⟩
    · have e1 : setR ks (i : Int) k = 1 := by unfold setR; rw [if_pos hg, if_neg (by omega)]
      have e2 : setK ks (i : Int) k = ks := by unfold setK; rw [if_neg (by omega)]
      rw [e1, e2]
      clear h hg e1 e2 hk
      generalize ks.getD i 0 = x at *
      generalize ks.length = m at *
      go_enter Try.func17, Try.ntmps17
      go_wp2
      go_ret
      exact ⟨rfl, H.out, HW.out⟩
    · have e1 : setR ks (i : Int) k = 1 := by unfold setR; rw [if_pos hg, if_neg (by omega)]
      have e2 : setK ks (i : Int) k = ks := by unfold setK; rw [if_neg (by omega)]
      rw [e1, e2]
      clear h hg e1 e2 hk
      generalize ks.getD i 0 = x at *
      generalize ks.length = m at *
      go_enter Try.func17, Try.ntmps17
      go_wp2
      go_ret
      exact ⟨rfl, H.out, HW.out⟩
    · have e1 : setR ks (i : Int) k = 0 := by unfold setR; rw [if_pos hg, if_pos ⟨h1, h2⟩]
      have e2 : setK ks (i : Int) k = ks.set i (max (ks.getD i 0) k.toNat) := by unfold setK; rw [if_pos ⟨hg, h1, h2⟩]; simp
      obtain ⟨K, rfl⟩ := Int.eq_ofNat_of_zero_le (show 0 ≤ k by omega)
      rw [Int.toNat_natCast] at e2
      by_cases hm : ks.getD i 0 < K
      · rw [Nat.max_eq_right (by omega)] at e2
        rw [e1, e2]
        have HP := Lib.hid (h.put neR i K hi)
        have HW' := Lib.hid ((Turns.refl w [L]).setCell (p := ⟨L, i, none⟩) (by simp) (Value.int .i64 (K : Int)))
        clear h H hg HW e1 e2 hk
        generalize ks.set i K = ks' at *
        generalize ks.getD i 0 = x at *
        generalize ks.length = m at *
        go_enter Try.func17, Try.ntmps17
        go_wp2
        go_ret
        exact ⟨rfl, HP.out, HW'.out⟩
      · rw [Nat.max_eq_left (by omega)] at e2
        have e3 : ks.set i (ks.getD i 0) = ks := by
          apply List.ext_getElem?
          intro j
          by_cases hj : i = j
          · subst hj; simp [List.getD, hi]
          · rw [List.getElem?_set_ne hj]
        rw [e1, e2, e3]
        clear h hg e1 e2 e3 hk
        generalize ks.getD i 0 = x at *
        generalize ks.length = m at *
        go_enter Try.func17, Try.ntmps17
        go_wp2
        go_ret
        exact ⟨rfl, H.out, HW.out⟩
  · have e1 : setR ks g k = 20 := by unfold setR; rw [if_neg hg]
    have e2 : setK ks g k = ks := by unfold setK; rw [if_neg (fun e => hg e.1)]
    rw [e1, e2]
    have key : g < 0 ∨ (¬ g < 0 ∧ (ks.length : Int) ≤ g) := by unfold inR at hg; omega
    clear h hg e1 e2 hk
    generalize ks.length = m at *
    rcases key with k1 | ⟨k1, k2⟩
    all_goals
      go_enter Try.func17, Try.ntmps17
      go_wp2
      go_ret
      exact ⟨rfl, H.out, HW.out⟩
end Go.Proofs.Ytallanlajecmhaa
