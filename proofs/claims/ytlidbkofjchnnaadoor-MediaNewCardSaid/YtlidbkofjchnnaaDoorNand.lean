/- nand: the power, the counters. -/
import Derived.Test.YtlidbkofjchnnaaDoorRepeat
import Derived.Test.YtlidbkofjchnnaaDoorTurns
import Derived.Laws.LoneSync
namespace Go.Proofs.YtlidbkofjchnnaaDoor
open Go.RowKit
set_option linter.unusedVariables false
set_option linter.unusedSimpArgs false

theorem Add_any (b off : Nat) (x y : Int) (w : World) (hc : w.cell? ⟨b, off, none⟩ = some (.int .i64 x)) (hz : w.frozen? ⟨b, off, none⟩ = false) :
    Calls Tryd.prog 41 #[.pointer (some ⟨b, off, none⟩), .int .i64 y] w fun e w' => e = .returned (.int .i64 (IntKind.i64.wrap (x + y))) ∧ w' = w.setCell ⟨b, off, none⟩ (.int .i64 (IntKind.i64.wrap (x + y))) := by
  have hadd := run_call_add (P := Tryd.prog) Tryd.func57 (by kernel_rfl) (by kernel_rfl) (by kernel_rfl) .i64 (by kernel_rfl) (y := y) (s := IntKind.i64.wrap (x + y)) hc hz (by simp [go_sem])
  generalize IntKind.i64.wrap (x + y) = s at *
  go_enter Tryd.func41, Tryd.ntmps41
  go_wp2
  go_ret
  exact ⟨rfl, rfl⟩
theorem Load_any (b off : Nat) (x : Int) (w : World) (hc : w.cell? ⟨b, off, none⟩ = some (.int .i64 x)) :
    Calls Tryd.prog 48 #[.pointer (some ⟨b, off, none⟩)] w fun e w' => e = .returned (.int .i64 x) ∧ w = w' := by
  have hld := run_call_load (P := Tryd.prog) Tryd.func65 (by kernel_rfl) (by kernel_rfl) (by kernel_rfl) .i64 (by kernel_rfl) hc
  go_enter Tryd.func48, Tryd.ntmps48
  go_wp2
  go_ret
  exact ⟨rfl, rfl⟩
/-- A flash's nine cells. -/
def fcells (o : Bool) (a s : Int) (r : List Value) : Array Value := (.bool o :: .int .i64 a :: .int .i64 s :: r).toArray
theorem Off_any (F : Nat) (o : Bool) (a s : Int) (r : List Value) (w : World) (hr : Row w F 42 (fcells o a s r)) :
    Calls Tryd.prog 11 #[.pointer (some ⟨F, 0, none⟩)] w fun e w' => e = .returned (.bool o) ∧ w = w' := by
  have c0 : w.cell? ⟨F, 0, none⟩ = some (.bool o) := hr.cell 0
  clear hr
  go_enter Tryd.func11, Tryd.ntmps11
  go_wp2
  go_ret
  exact ⟨rfl, rfl⟩
theorem On_any (F : Nat) (o : Bool) (a s : Int) (r : List Value) (w : World) (hr : Row w F 42 (fcells o a s r)) :
    Calls Tryd.prog 13 #[.pointer (some ⟨F, 0, none⟩)] w fun e w' => e = .returned (.tuple #[]) ∧ Row w' F 42 (fcells false a s r) ∧ Turns w w' [F] := by
  have c0 : w.cell? ⟨F, 0, none⟩ = some (.bool o) := hr.cell 0
  have f0 := hr.frozen 0
  have HR : Hid (Row (w.setCell ⟨F, 0, none⟩ (.bool false)) F 42 (fcells false a s r)) := by
    have := hr.put 0 (.bool false)
    simpa [fcells, Hid] using this
  have HT : Hid (Turns w (w.setCell ⟨F, 0, none⟩ (.bool false)) [F]) := (Turns.refl _ _).setCell (by simp) _
  clear hr
  go_enter Tryd.func13, Tryd.ntmps13
  go_wp2
  go_end0
  exact ⟨rfl, HR.out, HT.out⟩
theorem Arm_any (F : Nat) (n : Int) (o : Bool) (a s : Int) (r : List Value) (w : World) (hr : Row w F 42 (fcells o a s r)) :
    Calls Tryd.prog 9 #[.pointer (some ⟨F, 0, none⟩), .int .i64 n] w fun e w' => e = .returned (.tuple #[]) ∧ Row w' F 42 (fcells o (max n 1) s r) ∧ Turns w w' [F] := by
  have c1 : w.cell? ⟨F, 1, none⟩ = some (.int .i64 a) := hr.cell 1
  have f1 := hr.frozen 1
  have HR : Hid (∀ m : Int, Row (w.setCell ⟨F, 1, none⟩ (.int .i64 m)) F 42 (fcells o m s r)) := fun m => by
    have := hr.put 1 (.int .i64 m)
    simpa [fcells] using this
  have HT : Hid (∀ m : Int, Turns w (w.setCell ⟨F, 1, none⟩ (.int .i64 m)) [F]) := fun m => (Turns.refl _ _).setCell (by simp) _
  clear hr
  by_cases hn : n < 1
  · have hm : max n 1 = 1 := by omega
    rw [hm]
    clear hm
    go_enter Tryd.func9, Tryd.ntmps9
    go_wp2
    go_end0
    exact ⟨rfl, HR.out _, HT.out _⟩
  · have hm : max n 1 = n := by omega
    rw [hm]
    clear hm
    go_enter Tryd.func9, Tryd.ntmps9
    go_wp2
    go_end0
    exact ⟨rfl, HR.out _, HT.out _⟩
theorem Cut_any (F : Nat) (o : Bool) (a s : Int) (r : List Value) (w : World) (hr : Row w F 42 (fcells o a s r)) :
    Calls Tryd.prog 113 #[.pointer (some ⟨F, 0, none⟩)] w fun e w' => e = .returned (.tuple #[]) ∧ Row w' F 42 (fcells true 0 s r) ∧ Turns w w' [F] := by
  have c0 : w.cell? ⟨F, 0, none⟩ = some (.bool o) := hr.cell 0
  have f0 := hr.frozen 0
  have c1 : w.cell? ⟨F, 1, none⟩ = some (.int .i64 a) := hr.cell 1
  have f1 := hr.frozen 1
  have HR : Hid (Row ((w.setCell ⟨F, 0, none⟩ (.bool true)).setCell ⟨F, 1, none⟩ (.int .i64 0)) F 42 (fcells true 0 s r)) := by
    have := (hr.put 0 (.bool true)).put 1 (.int .i64 0)
    simpa [fcells, Hid] using this
  have HT : Hid (Turns w ((w.setCell ⟨F, 0, none⟩ (.bool true)).setCell ⟨F, 1, none⟩ (.int .i64 0)) [F]) := ((Turns.refl _ _).setCell (by simp) _).setCell (by simp) _
  clear hr
  go_enter Tryd.func113, Tryd.ntmps113
  go_wp2
  go_end0
  exact ⟨rfl, HR.out, HT.out⟩
/-- A step that is done, or in whose place the power goes. -/
theorem step_cut (F : Nat) (o : Bool) (s : Int) (r : List Value) (w : World) (hr : Row w F 42 (fcells o 1 s r)) :
    Calls Tryd.prog 119 #[.pointer (some ⟨F, 0, none⟩)] w fun e w' => e = .returned (.bool false) ∧ Row w' F 42 (fcells true 0 s r) ∧ Turns w w' [F] := by
  have c1 : w.cell? ⟨F, 1, none⟩ = some (.int .i64 1) := hr.cell 1
  have HC := Lib.hid (Cut_any F o 1 s r w hr)
  clear hr
  go_enter Tryd.func119, Tryd.ntmps119
  go_wp2_with fail
  refine HC.out.mono ?_
  rintro e w' ⟨rfl, hr, ht⟩
  have HR := Lib.hid hr
  have HT := Lib.hid ht
  clear HC hr ht c1
  go_wp2
  go_ret
  exact ⟨rfl, HR.out, HT.out⟩
theorem step_done (F : Nat) (o : Bool) (a : Nat) (s : Int) (r : List Value) (ha : a ≠ 1) (ha2 : a < 9223372036854775808) (w : World) (hr : Row w F 42 (fcells o a s r)) :
    Calls Tryd.prog 119 #[.pointer (some ⟨F, 0, none⟩)] w fun e w' => e = .returned (.bool true) ∧ (∃ s', Row w' F 42 (fcells o (a - 1 : Nat) s' r)) ∧ Turns w w' [F] := by
  have c1 : w.cell? ⟨F, 1, none⟩ = some (.int .i64 a) := hr.cell 1
  have f1 := hr.frozen 1
  have hai : ¬ (a : Int) = 1 := by omega
  have HR : Hid (Row (w.setCell ⟨F, 1, none⟩ (.int .i64 (a - 1 : Nat))) F 42 (fcells o (a - 1 : Nat) s r)) := by
    have := hr.put 1 (.int .i64 (a - 1 : Nat))
    simpa [fcells, Hid] using this
  have HT : Hid (Turns w (w.setCell ⟨F, 1, none⟩ (.int .i64 (a - 1 : Nat))) [F]) := (Turns.refl _ _).setCell (by simp) _
  have HA := Lib.hid (Add_any F 2 s 1 _ (HR.out.cell 2) (HR.out.frozen 2))
  have hw1 : IntKind.i64.wrap ((a : Int) - 1) = (a : Int) - 1 := by rw [IntKind.wrap_i64]; omega
  obtain ⟨m, hm⟩ : ∃ m, m = a - 1 := ⟨_, rfl⟩
  have HM := Lib.hid hm
  rw [← hm] at HR HT HA
  rw [← hm]
  clear hr
  have HPost : Hid (∀ s', Row ((w.setCell ⟨F, 1, none⟩ (.int .i64 m)).setCell ⟨F, 2, none⟩ (.int .i64 s')) F 42 (fcells o m s' r) ∧ Turns w ((w.setCell ⟨F, 1, none⟩ (.int .i64 m)).setCell ⟨F, 2, none⟩ (.int .i64 s')) [F]) := fun s' => by
    refine ⟨?_, HT.out.setCell (by simp) _⟩
    have := HR.out.put 2 (.int .i64 s')
    simpa [fcells] using this
  by_cases h0 : a = 0
  · subst h0
    obtain rfl : m = 0 := hm
    clear HM
    go_enter Tryd.func119, Tryd.ntmps119
    go_wp2_with fail
    refine HA.out.mono ?_
    rintro e w' ⟨rfl, rfl⟩
    clear HA HR HT
    go_wp2
    go_ret
    exact ⟨rfl, ⟨_, (HPost.out _).1⟩, (HPost.out _).2⟩
  · have hlt : ¬ (a : Int) - 1 < 0 := by omega
    have hmi : (a : Int) - 1 = m := by omega
    clear hm
    go_enter Tryd.func119, Tryd.ntmps119
    go_wp2_with fail
    refine HA.out.mono ?_
    rintro e w' ⟨rfl, rfl⟩
    clear HA HR HT
    go_wp2
    go_ret
    exact ⟨rfl, ⟨_, (HPost.out _).1⟩, (HPost.out _).2⟩
end Go.Proofs.YtlidbkofjchnnaaDoor
