/- What follows is laid together from several texts of mine, in their order. -/
import Derived.Test.YtlidbkofjchnnaaDoorQ12

namespace Go.Proofs.YtlidbkofjchnnaaDoor
open Go.RowKit
set_option linter.unusedVariables false
set_option linter.unusedSimpArgs false

/-- A flash behind a block that was erased. -/
def Fl.erased (S : Fl) (k : Nat) (one : Bool) : Fl := { S.setB k { S.b k with pg := fun _ => none, next := 0, half := false, one := one } with armed := S.armed - 2 }
section
variable {w : World} {B M Q F L n : Nat} {P : Nat → Nat} {S : Fl} {bad : Nat → Bool} {md : Int}
theorem MErase_out (h : MedIs w B M Q F L P S n bad md) (k : Int) (hk : k < 0 ∨ S.nb ≤ k) (one : Bool) : Calls Tryd.prog 12 #[.pointer (some ⟨M, 0, none⟩), .int .i64 k, .bool one] w fun e w' => e = .returned (.int .i64 1) ∧ ∃ m', w' = w.drewN m' := by
  have ht := there_N h k 0
  rw [decide_eq_false (by omega)] at ht
  have HT := Lib.hid ht
  clear h ht hk
  go_enter Tryd.func12, Tryd.ntmps12
  go_wp2_with fail
  refine HT.out.mono ?_
  rintro e w1 ⟨rfl, m, rfl⟩
  clear HT
  go_wp2
  go_ret
  exact ⟨rfl, m, rfl⟩
theorem MErase_bad (h : MedIs w B M Q F L P S n bad md) (k : Nat) (hk : k < S.nb) (one : Bool) (hb : bad k = true) : Calls Tryd.prog 12 #[.pointer (some ⟨M, 0, none⟩), .int .i64 k, .bool one] w fun e w' => e = .returned (.int .i64 7) ∧ ∃ m', w' = w.drewN m' := by
  have ht := there_N h k 0
  rw [decide_eq_true (by omega)] at ht
  have HT := Lib.hid ht
  obtain ⟨c0, c2, c3, _⟩ := h.cells
  have hl := h.lookN hk
  rw [hb] at hl
  clear h ht hk hb
  go_enter Tryd.func12, Tryd.ntmps12
  go_wp2_with fail
  refine HT.out.mono ?_
  rintro e w1 ⟨rfl, m', rfl⟩
  clear HT
  go_wp2
  go_ret
  exact ⟨rfl, m', rfl⟩
theorem MErase_off (h : MedIs w B M Q F L P S n bad md) (k : Nat) (hk : k < S.nb) (one : Bool) (hb : bad k = false) (ho : S.off = true) : Calls Tryd.prog 12 #[.pointer (some ⟨M, 0, none⟩), .int .i64 k, .bool one] w fun e w' => e = .returned (.int .i64 4) ∧ ∃ m', w' = w.drewN m' := by
  have ht := there_N h k 0
  rw [decide_eq_true (by omega)] at ht
  have HT := Lib.hid ht
  obtain ⟨c0, c2, c3, _⟩ := h.cells
  have hl := h.lookN hk
  rw [hb] at hl
  have hO := Off_N h
  rw [ho] at hO
  have HO := Lib.hid hO
  have hno := nil_off F
  have hmo := met_off F
  clear h ht hk hb hO ho
  go_enter Tryd.func12, Tryd.ntmps12
  go_wp2_with fail
  refine HT.out.mono ?_
  rintro e w1 ⟨rfl, m', rfl⟩
  clear HT
  go_wp2_with fail
  refine (HO.out _).mono ?_
  rintro e w1 ⟨rfl, rfl⟩
  clear HO hno hmo hl
  go_wp2
  go_ret
  exact ⟨rfl, m', rfl⟩
theorem MErase_failed (h : MedIs w B M Q F L P S n bad md) (k : Nat) (hk : k < S.nb) (one : Bool) (hb : bad k = false) (ho : S.off = false) (hf : (S.b k).failed = true) : Calls Tryd.prog 12 #[.pointer (some ⟨M, 0, none⟩), .int .i64 k, .bool one] w fun e w' => e = .returned (.int .i64 7) ∧ MedIs w' B M Q F L P S n (setBad bad k) md ∧ Turns w w' [Q] := by
  have ht := there_N h k 0
  rw [decide_eq_true (by omega)] at ht
  have HT := Lib.hid ht
  obtain ⟨c0, c2, c3, _⟩ := h.cells
  have hl := h.lookN hk
  rw [hb] at hl
  have hO := Off_N h
  rw [ho] at hO
  have HO := Lib.hid hO
  have hno := nil_off F
  have hmo := met_off F
  have HE : Hid (∀ m, Calls Tryd.prog 114 #[.pointer (some ⟨F, 0, none⟩), .int .i64 k] (w.drewN m) fun e w' => e = .returned (.int .i64 7) ∧ w.drewN m = w') := fun m => Erase_failed (h.drewN m).fl k hk ho hf
  have HFa : Hid (∀ m, Calls Tryd.prog 30 #[.pointer (some ⟨M, 0, none⟩), .int .i64 k, .int .i64 7] (w.drewN m) fun e w' => e = .returned (.int .i64 7) ∧ MedIs w' B M Q F L P S n (setBad bad k) md ∧ Turns w w' [Q]) := fun m =>
    (fail_yes (h.drewN m) k hk).mono fun e w' ⟨he, hm, ht⟩ => ⟨he, hm, ((Turns.refl w [Q]).drewN m).trans ht (fun g hg => .inl hg)⟩
  have hne := nil_erase F
  have hme := met_erase F
  clear h ht hk hb hO ho hf
  go_enter Tryd.func12, Tryd.ntmps12
  go_wp2_with fail
  refine HT.out.mono ?_
  rintro e w1 ⟨rfl, m', rfl⟩
  clear HT
  go_wp2_with fail
  refine (HO.out _).mono ?_
  rintro e w1 ⟨rfl, rfl⟩
  clear HO hno hmo hl
  go_wp2_with fail
  refine (HE.out _).mono ?_
  rintro e w1 ⟨rfl, rfl⟩
  clear HE hne hme
  go_wp2_with fail
  refine (HFa.out _).mono ?_
  rintro e w1 ⟨rfl, hm1, ht1⟩
  have HM := Lib.hid hm1
  have HT1 := Lib.hid ht1
  clear HFa hm1 ht1 c0 c2 c3
  go_wp2
  go_ret
  exact ⟨rfl, HM.out, HT1.out⟩
/-- A flash in whose erasing the power went, at its first or its second step. -/
def Fl.cutE (S : Fl) (k : Nat) : Fl := if S.armed = 1 then { S with off := true, armed := 0 } else { S.halfE k with off := true, armed := 0 }
theorem mem3 {g k : Nat} (hk : k < S.nb) (hg : g ∈ [F, L, P k]) : g ∈ flS F L P S.nb := mem_flS.2 (by
  simp at hg
  rcases hg with rfl | rfl | rfl
  · exact .inl rfl
  · exact .inr (.inl rfl)
  · exact .inr (.inr ⟨k, hk, rfl⟩))
theorem fl_med {g : Nat} (hg : g ∈ flS F L P S.nb) : g ∈ medT M Q F L P S.nb := by unfold medT; simp [hg]
set_option maxHeartbeats 1000000 in
theorem MErase_cut (h : MedIs w B M Q F L P S n bad md) (k : Nat) (hk : k < S.nb) (one : Bool) (hb : bad k = false) (ho : S.off = false) (hf : (S.b k).failed = false) (ha : S.armed = 1 ∨ S.armed = 2) : Calls Tryd.prog 12 #[.pointer (some ⟨M, 0, none⟩), .int .i64 k, .bool one] w fun e w' => e = .returned (.int .i64 4) ∧ MedIs w' B M Q F L P (S.cutE k) n bad md ∧ Turns w w' (medT M Q F L P S.nb) := by
  have ht := there_N h k 0
  rw [decide_eq_true (by omega)] at ht
  have HT := Lib.hid ht
  obtain ⟨c0, c2, c3, _⟩ := h.cells
  have hl := h.lookN hk
  rw [hb] at hl
  have hO := Off_N h
  rw [ho] at hO
  have HO := Lib.hid hO
  have hno := nil_off F
  have hmo := met_off F
  have HE : Hid (∀ m, Calls Tryd.prog 114 #[.pointer (some ⟨F, 0, none⟩), .int .i64 k] (w.drewN m) fun e w' => e = .returned (.int .i64 4) ∧ MedIs w' B M Q F L P (S.cutE k) n bad md ∧ Turns w w' (medT M Q F L P S.nb)) := fun m => by
    refine (Erase_any (h.drewN m).fl k hk ho hf).mono fun e w' ⟨ht, h1, h2, _⟩ => ?_
    have htw : Turns w w' (medT M Q F L P S.nb) := ((Turns.refl w _).drewN m).trans ht (fun g hg => .inl (fl_med (mem3 hk hg)))
    unfold Fl.cutE
    rcases ha with ha | ha
    · rw [if_pos ha]
      exact ⟨(h1 ha).1, (h.drewN m).flash (h1 ha).2 ht (fun g hg => mem3 hk hg) rfl rfl, htw⟩
    · rw [if_neg (by omega)]
      exact ⟨(h2 ha).1, (h.drewN m).flash (h2 ha).2 ht (fun g hg => mem3 hk hg) rfl rfl, htw⟩
  have HFa : Hid (∀ w1, Calls Tryd.prog 30 #[.pointer (some ⟨M, 0, none⟩), .int .i64 k, .int .i64 4] w1 fun e w' => e = .returned (.int .i64 4) ∧ w1 = w') := fun w1 => fail_no M k 4 (by decide) w1
  have hne := nil_erase F
  have hme := met_erase F
  clear h ht hk hb hO ho hf ha
  go_enter Tryd.func12, Tryd.ntmps12
  go_wp2_with fail
  refine HT.out.mono ?_
  rintro e w1 ⟨rfl, m', rfl⟩
  clear HT
  go_wp2_with fail
  refine (HO.out _).mono ?_
  rintro e w1 ⟨rfl, rfl⟩
  clear HO hno hmo hl
  go_wp2_with fail
  refine (HE.out _).mono ?_
  rintro e w1 ⟨rfl, hm1, ht1⟩
  have HM := Lib.hid hm1
  have HT1 := Lib.hid ht1
  clear HE hne hme hm1 ht1 c0 c2 c3
  go_wp2_with fail
  refine (HFa.out _).mono ?_
  rintro e w1 ⟨rfl, rfl⟩
  clear HFa
  go_wp2
  go_ret
  exact ⟨rfl, HM.out, HT1.out⟩
set_option maxHeartbeats 1000000 in
theorem MErase_done (h : MedIs w B M Q F L P S n bad md) (k : Nat) (hk : k < S.nb) (one : Bool) (hb : bad k = false) (ho : S.off = false) (hf : (S.b k).failed = false) (ha : S.armed ≠ 1 ∧ S.armed ≠ 2) : Calls Tryd.prog 12 #[.pointer (some ⟨M, 0, none⟩), .int .i64 k, .bool one] w fun e w' => e = .returned (.int .i64 0) ∧ MedIs w' B M Q F L P (S.erased k one) n bad md ∧ Turns w w' (medT M Q F L P S.nb) := by
  have ht := there_N h k 0
  rw [decide_eq_true (by omega)] at ht
  have HT := Lib.hid ht
  obtain ⟨c0, c2, c3, _⟩ := h.cells
  have hl := h.lookN hk
  rw [hb] at hl
  have hO := Off_N h
  rw [ho] at hO
  have HO := Lib.hid hO
  have hno := nil_off F
  have hmo := met_off F
  have HE : Hid (∀ m, Calls Tryd.prog 114 #[.pointer (some ⟨F, 0, none⟩), .int .i64 k] (w.drewN m) fun e w' => e = .returned (.int .i64 0) ∧ Turns w w' (medT M Q F L P S.nb) ∧ w'.cell? ⟨M, 0, none⟩ = some (.iface 25 (.pointer (some ⟨F, 0, none⟩))) ∧
      Hid (Calls Tryd.prog 115 #[.pointer (some ⟨F, 0, none⟩), .int .i64 k, .bool one] w' fun e w'' => e = .returned (.int .i64 0) ∧ MedIs w'' B M Q F L P (S.erased k one) n bad md ∧ Turns w w'' (medT M Q F L P S.nb))) := fun m => by
    refine (Erase_any (h.drewN m).fl k hk ho hf).mono fun e w' ⟨ht, _, _, h3⟩ => ?_
    have htw : Turns w w' (medT M Q F L P S.nb) := ((Turns.refl w _).drewN m).trans ht (fun g hg => .inl (fl_med (mem3 hk hg)))
    obtain ⟨he, hfl⟩ := h3 ha.1 ha.2
    have hm := (h.drewN m).flash hfl ht (fun g hg => mem3 hk hg) rfl rfl
    have hb1 : ({ S.wholeE k with armed := S.armed - 2 } : Fl).b k = { S.b k with pg := fun _ => none, next := 0, half := false } := Fl.setB_self S k _
    refine ⟨he, htw, hm.cells.1, (Mode_fl hfl k hk one ho (by rw [hb1]; exact hf) (by rw [hb1]) (by rw [hb1])).mono fun e2 w2 ⟨he2, hfl2, ht2⟩ => ⟨he2, ?_, htw.trans ht2 (fun g hg => .inl (fl_med (mem_flS.2 (by simp at hg; exact .inr (.inl hg)))))⟩⟩
    have hm2 := hm.flash hfl2 ht2 (fun g hg => mem_flS.2 (by simp at hg; exact .inr (.inl hg))) rfl rfl
    have e3 : ({ S.wholeE k with armed := S.armed - 2 } : Fl).setB k { ({ S.wholeE k with armed := S.armed - 2 } : Fl).b k with one := one } = S.erased k one := by
      rw [hb1]
      unfold Fl.erased Fl.wholeE
      exact congrArg (fun T : Fl => ({ T with armed := S.armed - 2 } : Fl)) (Fl.setB_setB S k _ _)
    rw [e3] at hm2
    exact hm2
  have HFa : Hid (∀ w1, Calls Tryd.prog 30 #[.pointer (some ⟨M, 0, none⟩), .int .i64 k, .int .i64 0] w1 fun e w' => e = .returned (.int .i64 0) ∧ w1 = w') := fun w1 => fail_no M k 0 (by decide) w1
  have hne := nil_erase F
  have hme := met_erase F
  have hnm := nil_mode F
  have hmm := met_mode F
  clear h ht hk hb hO ho hf ha
  go_enter Tryd.func12, Tryd.ntmps12
  go_wp2_with fail
  refine HT.out.mono ?_
  rintro e w1 ⟨rfl, m', rfl⟩
  clear HT
  go_wp2_with fail
  refine (HO.out _).mono ?_
  rintro e w1 ⟨rfl, rfl⟩
  clear HO hno hmo hl
  go_wp2_with fail
  refine (HE.out _).mono ?_
  rintro e w1 ⟨rfl, ht1, c1, HMo⟩
  clear HE hne hme ht1 c0 c2 c3
  go_wp2_with fail
  refine HMo.out.mono ?_
  rintro e w2 ⟨rfl, hm2, ht2⟩
  have HM := Lib.hid hm2
  have HT1 := Lib.hid ht2
  clear HMo hnm hmm hm2 ht2 c1
  go_wp2_with fail
  refine (HFa.out _).mono ?_
  rintro e w1 ⟨rfl, rfl⟩
  clear HFa
  go_wp2
  go_ret
  exact ⟨rfl, HM.out, HT1.out⟩
end
end Go.Proofs.YtlidbkofjchnnaaDoor
