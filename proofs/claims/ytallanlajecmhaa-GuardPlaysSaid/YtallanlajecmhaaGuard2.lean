/- guard: Set, Clear; slices.Clone. -/
import Derived.Test.YtallanlajecmhaaGuard
namespace Go.Proofs.Ytallanlajecmhaa
open Go.RowKit
set_option linter.unusedVariables false
set_option linter.unusedSimpArgs false

/-- A region that draws, whose first n operations leave the world alone: in the order of the text, the draw outermost. -/
theorem region_tail {P : Program} {id : Nat} {Q : Exit → Act → World → Prop} {a : Act} {w : World} {l : List Oper} (n : Nat) (hm : P.follows .mixedOrders = true) (hB : Region.lexTailB .any l.toArray n = true)
    (h : ∀ u : World, u = w.drew → wpStill P l.toArray u (fun a' => wpList P l.toArray Q (l.drop n) a' u) (l.take n) a) : (Code.region id l.toArray true).wp P Q a w :=
  wp_region_still_tail n hm hB (h _ rfl)

def inR (ks : List Nat) (g : Int) : Prop := 0 ≤ g ∧ g < ks.length
instance (ks : List Nat) (g : Int) : Decidable (inR ks g) := by unfold inR; infer_instance
def clearR (ks : List Nat) (g : Int) : Nat := if inR ks g then if ks.getD g.toNat 0 < 2 then 0 else 21 else 20
def clearK (ks : List Nat) (g : Int) : List Nat := if inR ks g ∧ ks.getD g.toNat 0 < 2 then ks.set g.toNat 0 else ks
def setR (ks : List Nat) (g k : Int) : Nat := if inR ks g then if 1 ≤ k ∧ k ≤ 3 then 0 else 1 else 20
def setK (ks : List Nat) (g k : Int) : List Nat := if inR ks g ∧ 1 ≤ k ∧ k ≤ 3 then ks.set g.toNat (max (ks.getD g.toNat 0) k.toNat) else ks

set_option maxHeartbeats 400000 in
theorem Clear_any (G L c : Nat) (ks : List Nat) (hlen : ks.length ≤ 256) (g : Int) (B : Nat) (w : World) (h : GHeld w B G L c ks) (h4 : ∀ x ∈ ks, x < 4) :
    Calls Try.prog 11 #[.pointer (some ⟨G, 0, none⟩), .int .i64 g] w fun e w' => e = .returned (.int .i64 (clearR ks g : Nat)) ∧ GHeld w' B G L c (clearK ks g) ∧ Turns w w' [L] := by
  have HT := Lib.hid (there_any G L c ks g w h.cellG)
  have H := Lib.hid h
  have HW := Lib.hid (Turns.refl w [L])
  by_cases hg : inR ks g
  · obtain ⟨i, rfl⟩ := Int.eq_ofNat_of_zero_le hg.1
    have hi : i < ks.length := by have := hg.2; omega
    have hgc := h.cellG
    have hc := h.cell i hi
    have hf := h.thaw i
    have hx : ks.getD i 0 < 4 := h4 _ (getD_mem _ _ hi)
    rw [show decide ((0 : Int) ≤ (i : Int) ∧ (i : Int) < ks.length) = true by simp [hi]] at HT
    by_cases h2 : ks.getD i 0 < 2
    · have e1 : clearR ks (i : Int) = 0 := by unfold clearR; rw [if_pos hg, Int.toNat_natCast, if_pos h2]
      have e2 : clearK ks (i : Int) = ks.set i 0 := by unfold clearK; rw [if_pos ⟨hg, by simpa using h2⟩]; simp
      have HP := Lib.hid (h.put neG i 0 hi)
      have HW' := Lib.hid ((Turns.refl w [L]).setCell (p := ⟨L, i, none⟩) (by simp) (Value.int .u8 ((0 : Nat) : Int)))
      rw [e1, e2]
      clear h H hg HW e1 e2
      generalize ks.set i 0 = ks' at *
      generalize ks.getD i 0 = x at *
      generalize ks.length = n at *
      go_enter Try.func11, Try.ntmps11
      go_wp2_with fail
      refine (HT.out).mono ?_
      rintro e w' ⟨rfl, rfl⟩
      go_wp2
      go_ret
      exact ⟨rfl, HP.out, HW'.out⟩
    · have e1 : clearR ks (i : Int) = 21 := by unfold clearR; rw [if_pos hg, Int.toNat_natCast, if_neg h2]
      have e2 : clearK ks (i : Int) = ks := by unfold clearK; rw [if_neg (fun e => h2 (by simpa using e.2))]
      rw [e1, e2]
      clear h hg e1 e2
      generalize ks.getD i 0 = x at *
      generalize ks.length = n at *
      go_enter Try.func11, Try.ntmps11
      go_wp2_with fail
      refine (HT.out).mono ?_
      rintro e w' ⟨rfl, rfl⟩
      go_wp2
      go_ret
      exact ⟨rfl, H.out, HW.out⟩
  · rw [show decide ((0 : Int) ≤ g ∧ g < ks.length) = false by simpa [inR] using hg] at HT
    have e1 : clearR ks g = 20 := by unfold clearR; rw [if_neg hg]
    have e2 : clearK ks g = ks := by unfold clearK; rw [if_neg (fun e => hg e.1)]
    rw [e1, e2]
    clear h hg e1 e2
    go_enter Try.func11, Try.ntmps11
    go_wp2_with fail
    refine (HT.out).mono ?_
    rintro e w' ⟨rfl, rfl⟩
    go_wp2
    go_ret
    exact ⟨rfl, H.out, HW.out⟩

set_option maxHeartbeats 400000 in
theorem Set_any (G L c : Nat) (ks : List Nat) (hlen : ks.length ≤ 256) (g k : Int) (B : Nat) (w : World) (h : GHeld w B G L c ks) (h4 : ∀ x ∈ ks, x < 4) :
    Calls Try.prog 9 #[.pointer (some ⟨G, 0, none⟩), .int .i64 g, .int .i64 k] w fun e w' => e = .returned (.int .i64 (setR ks g k : Nat)) ∧ GHeld w' B G L c (setK ks g k) ∧ Turns w w' [L] := by
  have HT := Lib.hid (there_any G L c ks g w h.cellG)
  have H := Lib.hid h
  have HW := Lib.hid (Turns.refl w [L])
  by_cases hg : inR ks g
  · obtain ⟨i, rfl⟩ := Int.eq_ofNat_of_zero_le hg.1
    have hi : i < ks.length := by have := hg.2; omega
    have hgc := h.cellG
    have hc := h.cell i hi
    have hf := h.thaw i
    have hx : ks.getD i 0 < 4 := h4 _ (getD_mem _ _ hi)
    rw [show decide ((0 : Int) ≤ (i : Int) ∧ (i : Int) < ks.length) = true by simp [hi]] at HT
    have key : k < 1 ∨ (¬ k < 1 ∧ 3 < k) ∨ (1 ≤ k ∧ k ≤ 3) := by omega
    rcases key with h1 | ⟨h1, h2⟩ | ⟨h1, h2⟩
    · have e1 : setR ks (i : Int) k = 1 := by unfold setR; rw [if_pos hg, if_neg (by omega)]
      have e2 : setK ks (i : Int) k = ks := by unfold setK; rw [if_neg (by omega)]
      rw [e1, e2]
      clear h hg e1 e2
      generalize ks.getD i 0 = x at *
      generalize ks.length = n at *
      go_enter Try.func9, Try.ntmps9
      go_wp2_with fail
      refine (HT.out).mono ?_
      rintro e w' ⟨rfl, rfl⟩
      go_wp2
      go_ret
      exact ⟨rfl, H.out, HW.out⟩
    · have e1 : setR ks (i : Int) k = 1 := by unfold setR; rw [if_pos hg, if_neg (by omega)]
      have e2 : setK ks (i : Int) k = ks := by unfold setK; rw [if_neg (by omega)]
      rw [e1, e2]
      clear h hg e1 e2
      generalize ks.getD i 0 = x at *
      generalize ks.length = n at *
      go_enter Try.func9, Try.ntmps9
      go_wp2_with fail
      refine (HT.out).mono ?_
      rintro e w' ⟨rfl, rfl⟩
      go_wp2
      go_ret
      exact ⟨rfl, H.out, HW.out⟩
    · have e1 : setR ks (i : Int) k = 0 := by unfold setR; rw [if_pos hg, if_pos ⟨h1, h2⟩]
      have e2 : setK ks (i : Int) k = ks.set i (max (ks.getD i 0) k.toNat) := by unfold setK; rw [if_pos ⟨hg, h1, h2⟩]; simp
      rw [e1, e2]
      obtain ⟨K, rfl⟩ := Int.eq_ofNat_of_zero_le (show 0 ≤ k by omega)
      rw [Int.toNat_natCast]
      have HP := Lib.hid (h.drewN 1 |>.put neG i (max (ks.getD i 0) K) hi)
      have HW' := Lib.hid (((Turns.refl w [L]).drewN 1).setCell (p := ⟨L, i, none⟩) (by simp) (Value.int .u8 ((max (ks.getD i 0) K : Nat) : Int)))
      clear h H hg HW e1 e2
      generalize ks.set i (max (ks.getD i 0) K) = ks' at *
      generalize ks.getD i 0 = x at *
      generalize ks.length = n at *
      go_enter Try.func9, Try.ntmps9
      go_wp2_with fail
      refine (HT.out).mono ?_
      rintro e w' ⟨rfl, rfl⟩
      go_wp2
      refine region_tail 16 (by kernel_rfl) (by kernel_rfl) (fun U hU => ?_)
      simp only [List.take_succ_cons, List.take_zero, List.drop_succ_cons, List.drop_zero]
      have hgcU : U.cell? ⟨G, 0, none⟩ = some (.slice (some ⟨L, 0, none⟩) n c) := by rw [hU]; exact hgc
      have hcU : U.cell? ⟨L, i, none⟩ = some (.int .u8 x) := by rw [hU]; exact hc
      have hfU : U.frozen? ⟨L, i, none⟩ = false := by rw [hU]; exact hf
      have eW : IntKind.u8.wrap (K : Int) = K := by rw [IntKind.wrap_u8]; omega
      have eM : (if (x : Int) < K then (K : Int) else x) = ((max x K : Nat) : Int) := by split <;> omega
      have HPU : Hid (GHeld (U.setCell ⟨L, i, none⟩ (.int .u8 ((max x K : Nat) : Int))) B G L c ks') := by rw [hU]; exact HP
      have HWU : Hid (Turns w (U.setCell ⟨L, i, none⟩ (.int .u8 ((max x K : Nat) : Int))) [L]) := by rw [hU]; exact HW'
      clear hU HP HW' hgc hc hf
      clear eM
      by_cases hxk : x < K
      · rw [Nat.max_eq_right (Nat.le_of_lt hxk)] at HPU HWU
        repeat still_step
        refine wpStill_nil ?_
        go_wp2
        go_ret
        exact ⟨rfl, HPU.out, HWU.out⟩
      · rw [Nat.max_eq_left (by omega)] at HPU HWU
        repeat still_step
        refine wpStill_nil ?_
        go_wp2
        go_ret
        exact ⟨rfl, HPU.out, HWU.out⟩
  · rw [show decide ((0 : Int) ≤ g ∧ g < ks.length) = false by simpa [inR] using hg] at HT
    have e1 : setR ks g k = 20 := by unfold setR; rw [if_neg hg]
    have e2 : setK ks g k = ks := by unfold setK; rw [if_neg (fun e => hg e.1)]
    rw [e1, e2]
    clear h hg e1 e2
    go_enter Try.func9, Try.ntmps9
    go_wp2_with fail
    refine (HT.out).mono ?_
    rintro e w' ⟨rfl, rfl⟩
    go_wp2
    go_ret
    exact ⟨rfl, H.out, HW.out⟩
end Go.Proofs.Ytallanlajecmhaa
