/- crash: the laws' readers: a list of bytes per place. -/
import Derived.Test.YtomigaldomiefaaCrPred
namespace Go.Proofs.Ytomigaldomiefaa
open Go.RowKit Go.Shelf Go.MapKept Go.ChangeMaps
attribute [local go_sem] Oper.semAt_some
attribute [local simp, local go_sem] wide_fn
set_option linter.unusedVariables false
set_option linter.unusedSimpArgs false

/-- Lists of bytes, one behind another. -/
def RdsAt (W : World) (A : Option Addr) (ds : List (List Nat)) : Prop := ∀ (i : Nat) (d : List Nat), ds[i]? = some d → ∃ g off A1 c1, A = some ⟨g, off, none⟩ ∧ W.cell? ⟨g, off + i, none⟩ = some (.slice A1 d.length c1) ∧ Cells8 W A1 d
theorem RdsAt.keep {W W' : World} {A : Option Addr} {ds : List (List Nat)} (h : RdsAt W A ds) (hk : ∀ a v, W.cell? a = some v → W'.cell? a = some v) : RdsAt W' A ds := fun i d hd => by
  obtain ⟨g, off, A1, c1, h1, h2, h3⟩ := h i d hd
  exact ⟨g, off, A1, c1, h1, hk _ _ h2, h3.keep hk⟩
abbrev rdOf (ds : List (List Nat)) : Nat → List Nat := fun p => ds.getD p []
theorem cells8_nil (w : World) : Cells8 w none [] := fun i hi => by cases hi
set_option maxHeartbeats 1000000 in
theorem reader1_any (Z p c : Nat) (A : Option Addr) (ds : List (List Nat)) (hlen : ds.length ≤ 1048576) (hp : p < 4294967296) (w : World) (hz : w.cell? ⟨Z, 0, none⟩ = some (.slice A ds.length c)) (hr : RdsAt w A ds) :
    Calls Try.prog 40 #[.int .i64 p, .pointer (some ⟨Z, 0, none⟩)] w fun e w' => ∃ A' c', e = .returned (.slice A' (rdOf ds p).length c') ∧ Cells8 w' A' (rdOf ds p) ∧ Below w.heap.size w w' := by
  have h0 : ¬ (p : Int) < 0 := by omega
  obtain ⟨m, hm⟩ : ∃ m, m = ds.length := ⟨_, rfl⟩
  rw [← hm] at hz hlen
  have HM := Lib.hid hm
  by_cases hpm : p < m
  · obtain ⟨d, hd⟩ : ∃ d, ds[p]? = some d := ⟨_, List.getElem?_eq_getElem (by rw [← hm]; exact hpm)⟩
    have HE : Hid (rdOf ds p = d) := by unfold Hid rdOf; rw [List.getD_eq_getElem?_getD, hd]; rfl
    obtain ⟨g, off, A1, c1, rfl, hcell, hcs⟩ := hr p d hd
    have HCs := Lib.hid hcs
    have h1 : ¬ (p : Int) ≥ m := by omega
    rw [HE.out]
    clear hr hm hd hcs
    generalize d.length = dl at *
    go_enter Try.func40, Try.ntmps40
    go_wp2
    go_ret
    exact ⟨A1, ⟨c1, rfl⟩, HCs.out, by (repeat (first | (with_reducible refine Below.drew ?_) | (with_reducible refine below_drewN0 ?_ _) | ((with_reducible refine Below.setCell ?_ ?_ _); rotate_left; focus (first | omega | (simp; done) | (simp; omega) | (simp at *; omega))) | ((with_reducible refine Below.alloc ?_ ?_ _); rotate_left; focus (first | omega | (simp; done) | (simp; omega) | (simp at *; omega))) | (with_reducible exact Below.refl _ _)))⟩
  · have HE : Hid (rdOf ds p = []) := by unfold Hid rdOf; rw [List.getD_eq_getElem?_getD, List.getElem?_eq_none (by rw [← hm]; omega)]; rfl
    have h1 : (p : Int) ≥ m := by omega
    rw [HE.out]
    clear hr hm
    go_enter Try.func40, Try.ntmps40
    go_wp2
    go_ret
    exact ⟨none, ⟨0, rfl⟩, cells8_nil _, by (repeat (first | (with_reducible refine Below.drew ?_) | (with_reducible refine below_drewN0 ?_ _) | ((with_reducible refine Below.setCell ?_ ?_ _); rotate_left; focus (first | omega | (simp; done) | (simp; omega) | (simp at *; omega))) | ((with_reducible refine Below.alloc ?_ ?_ _); rotate_left; focus (first | omega | (simp; done) | (simp; omega) | (simp at *; omega))) | (with_reducible exact Below.refl _ _)))⟩
theorem reader_any (A : Option Addr) (m c : Nat) (W : World) : Calls Try.prog 16 #[.slice A m c] W fun e w' => e = .returned (.func (.func 40) #[] #[.pointer (some ⟨W.heap.size, 0, none⟩)]) ∧ w' = W.alloc (.cells #[.slice A m c] 37) := by
  go_enter Try.func16, Try.ntmps16
  go_wp2
  go_ret
  exact ⟨rfl, rfl⟩
theorem reader_ok (Z c n : Nat) (hn : n ≤ 4294967296) (A : Option Addr) (ds : List (List Nat)) (hlen : ds.length ≤ 1048576) (hb : ∀ d ∈ ds, ∀ u ∈ d, u < 256) (T : List Nat) (w : World) (h : ∀ V, Turns w V T → V.cell? ⟨Z, 0, none⟩ = some (.slice A ds.length c) ∧ RdsAt V A ds) :
    RdOk w T n 40 #[.pointer (some ⟨Z, 0, none⟩)] (rdOf ds) :=
  ⟨enters_of Try.func40 (by kernel_rfl) rfl, fun p hp V hV => reader1_any Z p c A ds hlen (by omega) V (h V hV).1 (h V hV).2, fun p u hu => by
    unfold rdOf at hu
    rw [List.getD_eq_getElem?_getD] at hu
    cases hd : ds[p]? with
    | none => rw [hd] at hu; cases hu
    | some d => rw [hd] at hu; exact hb d (List.mem_of_getElem? hd) u hu⟩
end Go.Proofs.Ytomigaldomiefaa
