/- CrashMore: its walk. -/
import Derived.Test.YtomigaldomiefaaCrWithin
import Derived.Test.YtomigaldomiefaaCrArgG
import Derived.Test.YtomigaldomiefaaCrKnown
namespace Go.Proofs.Ytomigaldomiefaa
open Go.RowKit Go.Shelf Go.MapKept Go.ChangeMaps
attribute [local go_sem] Oper.semAt_some
attribute [local simp, local go_sem] wide_fn
set_option linter.unusedVariables false
set_option linter.unusedSimpArgs false

set_option maxRecDepth 100000 in
set_option maxHeartbeats 4000000 in
theorem more_out (A1 A2 A3 A4 : Option Addr) (n1 n2 n3 n4 c1 c2 c3 c4 : Nat) (q : Int) (w : World) (hout : 60 < n1 ∨ 6 < n2 ∨ 30 < n3 ∨ 40 < n4) :
    Calls Try.prog 6 #[.slice A1 n1 c1, .slice A2 n2 c2, .slice A3 n3 c3, .int .i64 q, .slice A4 n4 c4] w fun e w' => e = .returned (.bool true) ∧ Below w.heap.size w w' := by
  by_cases q1 : 60 < n1
  · clear hout
    have p1 : (60 : Int) < n1 := by omega
    go_enter Try.func6, Try.ntmps6
    go_wp2_with fail
    refine (known_any w).mono ?_
    rintro e w2 ⟨rfl, hb⟩
    have HB2 := Lib.hid hb
    clear hb
    go_wp2
    go_ret
    exact ⟨rfl, HB2.out⟩
  have p1 : ¬ (60 : Int) < n1 := by omega
  by_cases q2 : 6 < n2
  · clear hout
    have p2 : (6 : Int) < n2 := by omega
    go_enter Try.func6, Try.ntmps6
    go_wp2_with fail
    refine (known_any w).mono ?_
    rintro e w2 ⟨rfl, hb⟩
    have HB2 := Lib.hid hb
    clear hb
    go_wp2
    go_ret
    exact ⟨rfl, HB2.out⟩
  have p2 : ¬ (6 : Int) < n2 := by omega
  by_cases q3 : 30 < n3
  · clear hout
    have p3 : (30 : Int) < n3 := by omega
    go_enter Try.func6, Try.ntmps6
    go_wp2_with fail
    refine (known_any w).mono ?_
    rintro e w2 ⟨rfl, hb⟩
    have HB2 := Lib.hid hb
    clear hb
    go_wp2
    go_ret
    exact ⟨rfl, HB2.out⟩
  have p3 : ¬ (30 : Int) < n3 := by omega
  have p4 : (40 : Int) < n4 := by omega
  clear hout
  go_enter Try.func6, Try.ntmps6
  go_wp2_with fail
  refine (known_any w).mono ?_
  rintro e w2 ⟨rfl, hb⟩
  have HB2 := Lib.hid hb
  clear hb
  go_wp2
  go_ret
  exact ⟨rfl, HB2.out⟩
end Go.Proofs.Ytomigaldomiefaa
