/- media: what a media is in memory; calls through its interface. -/
import Derived.Test.YtlidbkofjchnnaaDoorNandM
namespace Go.Proofs.YtlidbkofjchnnaaDoor
open Go.RowKit
set_option linter.unusedVariables false
set_option linter.unusedSimpArgs false

section
variable {w : World} {B F L : Nat} {P : Nat → Nat} {S : Fl}
theorem nil_shape (b : Nat) (w : World) : (nilAhead 277 25 (.pointer (some ⟨b, 0, none⟩)) "Shape").run Tryd.prog w = .ok (some false) w := by kernel_rfl
theorem met_shape (b : Nat) (w : World) : (method 277 25 (.pointer (some ⟨b, 0, none⟩)) "Shape").run Tryd.prog w = .ok (33, .pointer (some ⟨b, 0, none⟩)) w := by kernel_rfl
theorem there_any (h : FlIs w B F L P S) (M : Nat) (k : Int) (hc : w.cell? ⟨M, 0, none⟩ = some (.iface 25 (.pointer (some ⟨F, 0, none⟩)))) : Calls Tryd.prog 28 #[.pointer (some ⟨M, 0, none⟩), .int .i64 k] w fun e w' => e = .returned (.bool (decide (0 ≤ k ∧ k < S.nb))) ∧ ∃ n, w' = w.drewN n := by
  have HS := Lib.hid (Shape_any h)
  have hn := nil_shape F
  have hm := met_shape F
  generalize S.nb = nb at *
  generalize S.pages = pages at *
  generalize S.chunks = ch at *
  clear h
  by_cases h0 : 0 ≤ k
  · have h0' : ¬ k < 0 := by omega
    by_cases h1 : k < nb
    · rw [decide_eq_true ⟨h0, h1⟩]
      go_enter Tryd.func28, Tryd.ntmps28
      go_wp2_with fail
      refine HS.out.mono ?_
      rintro e w1 ⟨rfl, n, rfl⟩
      clear HS hn hm
      go_wp2
      go_ret
      exact ⟨rfl, n, rfl⟩
    · rw [decide_eq_false (by omega)]
      go_enter Tryd.func28, Tryd.ntmps28
      go_wp2_with fail
      refine HS.out.mono ?_
      rintro e w1 ⟨rfl, n, rfl⟩
      clear HS hn hm
      go_wp2
      go_ret
      exact ⟨by rw [decide_eq_false (by omega)]; rfl, n, rfl⟩
  · rw [decide_eq_false (by omega)]
    go_enter Tryd.func28, Tryd.ntmps28
    go_wp2_with fail
    refine HS.out.mono ?_
    rintro e w1 ⟨rfl, n, rfl⟩
    clear HS hn hm
    go_wp2
    go_ret
    exact ⟨rfl, n, rfl⟩
end
end Go.Proofs.YtlidbkofjchnnaaDoor
namespace Go.Proofs.YtlidbkofjchnnaaDoor
open Go.RowKit
set_option linter.unusedVariables false
set_option linter.unusedSimpArgs false

section
theorem nil_off (b : Nat) (w : World) : (nilAhead 277 25 (.pointer (some ⟨b, 0, none⟩)) "Off").run Tryd.prog w = .ok (some false) w := by kernel_rfl
theorem met_off (b : Nat) (w : World) : (method 277 25 (.pointer (some ⟨b, 0, none⟩)) "Off").run Tryd.prog w = .ok (11, .pointer (some ⟨b, 0, none⟩)) w := by kernel_rfl
theorem nil_next (b : Nat) (w : World) : (nilAhead 277 25 (.pointer (some ⟨b, 0, none⟩)) "Next").run Tryd.prog w = .ok (some false) w := by kernel_rfl
theorem met_next (b : Nat) (w : World) : (method 277 25 (.pointer (some ⟨b, 0, none⟩)) "Next").run Tryd.prog w = .ok (59, .pointer (some ⟨b, 0, none⟩)) w := by kernel_rfl
theorem nil_one (b : Nat) (w : World) : (nilAhead 277 25 (.pointer (some ⟨b, 0, none⟩)) "One").run Tryd.prog w = .ok (some false) w := by kernel_rfl
theorem met_one (b : Nat) (w : World) : (method 277 25 (.pointer (some ⟨b, 0, none⟩)) "One").run Tryd.prog w = .ok (61, .pointer (some ⟨b, 0, none⟩)) w := by kernel_rfl
theorem nil_program (b : Nat) (w : World) : (nilAhead 277 25 (.pointer (some ⟨b, 0, none⟩)) "Program").run Tryd.prog w = .ok (some false) w := by kernel_rfl
theorem met_program (b : Nat) (w : World) : (method 277 25 (.pointer (some ⟨b, 0, none⟩)) "Program").run Tryd.prog w = .ok (116, .pointer (some ⟨b, 0, none⟩)) w := by kernel_rfl
theorem nil_read (b : Nat) (w : World) : (nilAhead 277 25 (.pointer (some ⟨b, 0, none⟩)) "Read").run Tryd.prog w = .ok (some false) w := by kernel_rfl
theorem met_read (b : Nat) (w : World) : (method 277 25 (.pointer (some ⟨b, 0, none⟩)) "Read").run Tryd.prog w = .ok (117, .pointer (some ⟨b, 0, none⟩)) w := by kernel_rfl
theorem nil_erase (b : Nat) (w : World) : (nilAhead 277 25 (.pointer (some ⟨b, 0, none⟩)) "Erase").run Tryd.prog w = .ok (some false) w := by kernel_rfl
theorem met_erase (b : Nat) (w : World) : (method 277 25 (.pointer (some ⟨b, 0, none⟩)) "Erase").run Tryd.prog w = .ok (114, .pointer (some ⟨b, 0, none⟩)) w := by kernel_rfl
theorem nil_mode (b : Nat) (w : World) : (nilAhead 277 25 (.pointer (some ⟨b, 0, none⟩)) "Mode").run Tryd.prog w = .ok (some false) w := by kernel_rfl
theorem met_mode (b : Nat) (w : World) : (method 277 25 (.pointer (some ⟨b, 0, none⟩)) "Mode").run Tryd.prog w = .ok (115, .pointer (some ⟨b, 0, none⟩)) w := by kernel_rfl
variable {w : World} {B F L : Nat} {P : Nat → Nat} {S : Fl}
theorem FlIs.drewN (h : FlIs w B F L P S) (n : Nat) : FlIs (w.drewN n) B F L P S := h.keep ((Turns.refl w []).drewN n)
theorem Pages_in (h : FlIs w B F L P S) (M : Nat) (k : Nat) (hk : k < S.nb) (hc : w.cell? ⟨M, 0, none⟩ = some (.iface 25 (.pointer (some ⟨F, 0, none⟩)))) : Calls Tryd.prog 38 #[.pointer (some ⟨M, 0, none⟩), .int .i64 k] w fun e w' => e = .returned (.int .i64 (S.has k : Nat)) ∧ ∃ n, w' = w.drewN n := by
  have HS := Lib.hid (Shape_any h)
  have HO : Hid (∀ n, Calls Tryd.prog 61 #[.pointer (some ⟨F, 0, none⟩), .int .i64 k] (w.drewN n) fun e w' => e = .returned (.bool (S.b k).one) ∧ w.drewN n = w') := fun n => One_in (h.drewN n) k hk
  have hn := nil_shape F
  have hm := met_shape F
  have hn2 := nil_one F
  have hm2 := met_one F
  have hp := h.ok.pages
  have hcn : ∀ n, (w.drewN n).cell? ⟨M, 0, none⟩ = some (.iface 25 (.pointer (some ⟨F, 0, none⟩))) := fun n => hc
  unfold Fl.has hasOf
  generalize S.nb = nb at *
  generalize S.pages = pages at *
  generalize S.chunks = ch at *
  generalize (S.b k).one = o at *
  obtain ⟨m, hm0⟩ : ∃ m, m = pages / 2 := ⟨_, rfl⟩
  rw [← hm0]
  have hd : (pages : Int) / 2 = (m : Int) := by omega
  clear h hm0
  cases o
  all_goals
    go_enter Tryd.func38, Tryd.ntmps38
    go_wp2_with fail
    refine HS.out.mono ?_
    rintro e w1 ⟨rfl, n, rfl⟩
    clear HS hn hm
    go_wp2_with fail
    refine (HO.out n).mono ?_
    rintro e w1 ⟨rfl, rfl⟩
    clear HO
    go_wp2
    go_ret
    exact ⟨rfl, n, rfl⟩
end
end Go.Proofs.YtlidbkofjchnnaaDoor
