/- What follows is laid together from several texts of mine, in their order. -/
import Derived.Test.YtlidbkofjchnnaaDoorQ20

namespace Go.Proofs.YtlidbkofjchnnaaDoor
open Go.RowKit
set_option linter.unusedVariables false
set_option linter.unusedSimpArgs false

/-- Something is held, and it is right. -/
structure PW (w0 : World) (W M Q F L : Nat) (P g : Nat → Nat) (n nb pages ch : Nat) (w : World) : Prop where
  ex : ∃ v S bad md m, PSt w0 w W M Q F L P g v S n bad md m ∧ Agr S bad n m ∧ S.nb = nb ∧ S.pages = pages ∧ S.chunks = ch
section
variable {w0 w : World} {W M Q F L n : Nat} {P g : Nat → Nat} {v : Nat → Value} {S : Fl} {bad : Nat → Bool} {md : Int} {m : Pm}
theorem PSt.size (h : PSt w0 w W M Q F L P g v S n bad md m) : w0.heap.size ≤ w.heap.size := h.bel.size
theorem PSt.alloc (h : PSt w0 w W M Q F L P g v S n bad md m) (o : Obj) : PSt w0 (w.alloc o) W M Q F L P g v S n bad md m := h.keep ((Turns.refl w []).alloc o)
theorem PSt.off (h : PSt w0 w W M Q F L P g v S n bad md m) {o : Bool} (ho : S.off = o) : Calls Tryd.prog 11 #[.pointer (some ⟨F, 0, none⟩)] w fun e w' => e = .returned (.bool o) ∧ w = w' := by subst ho; exact FlOff h.med.fl
theorem PSt.room (h : PSt w0 w W M Q F L P g v S n bad md m) {k : Nat} (hk : k < S.nb) : Calls Tryd.prog 19 #[.pointer (some ⟨M, 0, none⟩), .int .i64 k] w fun e w' => e = .returned (.int .i64 (S.room bad k : Nat)) ∧ PSt w0 w' W M Q F L P g v S n bad md m :=
  (Room_in h.med k hk).mono fun e w' ⟨he, c, hw⟩ => ⟨he, by rw [hw]; exact h.drewN c⟩
theorem PSt.room_out (h : PSt w0 w W M Q F L P g v S n bad md m) {k : Int} (hk : k < 0 ∨ S.nb ≤ k) : Calls Tryd.prog 19 #[.pointer (some ⟨M, 0, none⟩), .int .i64 k] w fun e w' => e = .returned (.int .i64 0) ∧ PSt w0 w' W M Q F L P g v S n bad md m :=
  (Room_out h.med k hk).mono fun e w' ⟨he, c, hw⟩ => ⟨he, by rw [hw]; exact h.drewN c⟩
theorem PSt.next (h : PSt w0 w W M Q F L P g v S n bad md m) {k : Nat} (hk : k < S.nb) : Calls Tryd.prog 59 #[.pointer (some ⟨F, 0, none⟩), .int .i64 k] w fun e w' => e = .returned (.int .i64 (if (S.b k).half then -1 else ((S.b k).next : Int))) ∧ w = w' := Next_in h.med.fl k hk
theorem PSt.oneC (h : PSt w0 w W M Q F L P g v S n bad md m) {k : Nat} (hk : k < S.nb) : Calls Tryd.prog 61 #[.pointer (some ⟨F, 0, none⟩), .int .i64 k] w fun e w' => e = .returned (.bool (S.b k).one) ∧ w = w' := One_in h.med.fl k hk
theorem PSt.erase_out (h : PSt w0 w W M Q F L P g v S n bad md m) {k : Int} (hk : k < 0 ∨ S.nb ≤ k) (one : Bool) : Calls Tryd.prog 12 #[.pointer (some ⟨M, 0, none⟩), .int .i64 k, .bool one] w fun e w' => e = .returned (.int .i64 1) ∧ PSt w0 w' W M Q F L P g v S n bad md m ∧ Turns w w' (medT M Q F L P S.nb) :=
  (MErase_out h.med k hk one).mono fun e w' ⟨he, c, hw⟩ => ⟨he, by rw [hw]; exact h.drewN c, by rw [hw]; exact (Turns.refl w _).drewN c⟩
theorem PSt.erase_bad (h : PSt w0 w W M Q F L P g v S n bad md m) {k : Nat} (hk : k < S.nb) (one : Bool) (hb : bad k = true) : Calls Tryd.prog 12 #[.pointer (some ⟨M, 0, none⟩), .int .i64 k, .bool one] w fun e w' => e = .returned (.int .i64 7) ∧ PSt w0 w' W M Q F L P g v S n bad md m ∧ Turns w w' (medT M Q F L P S.nb) :=
  (MErase_bad h.med k hk one hb).mono fun e w' ⟨he, c, hw⟩ => ⟨he, by rw [hw]; exact h.drewN c, by rw [hw]; exact (Turns.refl w _).drewN c⟩
theorem PSt.erase_failed (h : PSt w0 w W M Q F L P g v S n bad md m) {k : Nat} (hk : k < S.nb) (one : Bool) (hb : bad k = false) (ho : S.off = false) (hf : (S.b k).failed = true) : Calls Tryd.prog 12 #[.pointer (some ⟨M, 0, none⟩), .int .i64 k, .bool one] w fun e w' => e = .returned (.int .i64 7) ∧ PSt w0 w' W M Q F L P g v S n (setBad bad k) md m ∧ Turns w w' (medT M Q F L P S.nb) :=
  (MErase_failed h.med k hk one hb ho hf).mono fun e w' ⟨he, hm, ht⟩ => ⟨he, h.turn hm ht (by simp [medT]) rfl rfl, ht.mono (by simp [medT])⟩
theorem cutE_same (S : Fl) (k : Nat) : (S.cutE k).nb = S.nb ∧ (S.cutE k).pages = S.pages ∧ (S.cutE k).chunks = S.chunks ∧ (S.cutE k).off = true := by
  unfold Fl.cutE
  split <;> exact ⟨rfl, rfl, rfl, rfl⟩
theorem PSt.erase_cut (h : PSt w0 w W M Q F L P g v S n bad md m) {k : Nat} (hk : k < S.nb) (one : Bool) (hb : bad k = false) (ho : S.off = false) (hf : (S.b k).failed = false) (ha : S.armed = 1 ∨ S.armed = 2) : Calls Tryd.prog 12 #[.pointer (some ⟨M, 0, none⟩), .int .i64 k, .bool one] w fun e w' => e = .returned (.int .i64 4) ∧ PSt w0 w' W M Q F L P g v (S.cutE k) n bad md m ∧ Turns w w' (medT M Q F L P S.nb) :=
  (MErase_cut h.med k hk one hb ho hf ha).mono fun e w' ⟨he, hm, ht⟩ => ⟨he, h.turn hm ht (fun _ hx => hx) (cutE_same S k).1 (cutE_same S k).2.1, ht⟩
theorem PSt.erase_done (h : PSt w0 w W M Q F L P g v S n bad md m) {k : Nat} (hk : k < S.nb) (one : Bool) (hb : bad k = false) (ho : S.off = false) (hf : (S.b k).failed = false) (ha : S.armed ≠ 1 ∧ S.armed ≠ 2) : Calls Tryd.prog 12 #[.pointer (some ⟨M, 0, none⟩), .int .i64 k, .bool one] w fun e w' => e = .returned (.int .i64 0) ∧ PSt w0 w' W M Q F L P g v (S.erased k one) n bad md m ∧ Turns w w' (medT M Q F L P S.nb) :=
  (MErase_done h.med k hk one hb ho hf ha).mono fun e w' ⟨he, hm, ht⟩ => ⟨he, h.turn hm ht (fun _ hx => hx) rfl rfl, ht⟩
theorem Agr.cutE (h : Agr S bad n m) {k : Nat} (hk : k < S.nb) : Agr (S.cutE k) bad n { m with half := updB m.half k ((S.cutE k).b k).half } := by
  unfold Fl.cutE
  split
  · exact (h.power true 0).set_half hk
  · have e : (({ S.halfE k with off := true, armed := 0 } : Fl).b k).half = true := by
      show ((S.setB k _).b k).half = true
      rw [Fl.setB_self]
    rw [e]
    exact (h.halfE k).power true 0
theorem cutE_next (S : Fl) (k : Nat) : ((S.cutE k).b k).next = (S.b k).next := by
  unfold Fl.cutE
  split
  · rfl
  · show ((S.setB k _).b k).next = _
    rw [Fl.setB_self]
/-- A way that Erase may go in a block that there is. -/
def ErW (S : Fl) (bad : Nat → Bool) (k : Nat) : Prop := bad k = true ∨ (bad k = false ∧ (S.b k).failed = true) ∨ (bad k = false ∧ (S.b k).failed = false ∧ (S.armed = 1 ∨ S.armed = 2)) ∨ (bad k = false ∧ (S.b k).failed = false ∧ S.armed ≠ 1 ∧ S.armed ≠ 2)
theorem ErW_any (S : Fl) (bad : Nat → Bool) (k : Nat) : ErW S bad k := by
  unfold ErW
  cases bad k <;> cases (S.b k).failed <;> simp <;> omega
theorem room_erased (S : Fl) (bad : Nat → Bool) (k : Nat) (one : Bool) (hb : bad k = false) : (S.erased k one).room bad k = (S.erased k one).has k := by
  have e : (S.erased k one).b k = { S.b k with pg := fun _ => none, next := 0, half := false, one := one } := Fl.setB_self S k _
  unfold Fl.room
  rw [e, hb]
  simp
set_option maxRecDepth 100000 in
set_option maxHeartbeats 1000000 in
theorem erase_out (h : PSt w0 w W M Q F L P g v S n bad md m) (ha : Agr S bad n m) (x : Ac) (hx : x.bl < 0 ∨ S.nb ≤ x.bl) : Calls Tryd.prog 43 #[.pointer (some ⟨W, 0, none⟩), x.val] w fun e w' => e = .returned (.bool true) ∧ PW w0 W M Q F L P g n S.nb S.pages S.chunks w' := by
  obtain ⟨op, bl, pg, fill, A, c, l, one, nn⟩ := x
  simp only [Ac.val, Ac.cells] at hx ⊢
  generalize l.length = ln at *
  have HA := Lib.hid ha
  have HX : Hid (PSt w0 (w.alloc (.cells #[.int .i64 op, .int .i64 bl, .int .i64 pg, .int .u8 fill, .slice A ln c, .bool one, .int .i64 nn] 68)) W M Q F L P g v S n bad md m) := h.alloc _
  have HR := Lib.hid (Row.fresh w 68 #[.int .i64 op, .int .i64 bl, .int .i64 pg, .int .u8 fill, .slice A ln c, .bool one, .int .i64 nn])
  have HE : Hid (∀ w1, PSt w0 w1 W M Q F L P g v S n bad md m → Calls Tryd.prog 12 #[.pointer (some ⟨M, 0, none⟩), .int .i64 bl, .bool one] w1 fun e w' => e = .returned (.int .i64 1) ∧ PSt w0 w' W M Q F L P g v S n bad md m ∧ Turns w1 w' (medT M Q F L P S.nb)) := fun w1 h1 => h1.erase_out hx one
  have HO : Hid (∀ w1, PSt w0 w1 W M Q F L P g v S n bad md m → Calls Tryd.prog 45 #[.pointer (some ⟨W, 0, none⟩), .int .i64 bl] w1 fun e w' => e = .returned (.bool false) ∧ w1 = w') := fun w1 h1 => h1.is_out hx 0
  clear h ha hx
  go_enter Tryd.func43, Tryd.ntmps43
  go_wp2
  generalize w.alloc (.cells #[.int .i64 op, .int .i64 bl, .int .i64 pg, .int .u8 fill, .slice A ln c, .bool one, .int .i64 nn] 68) = wx at *
  generalize w.heap.size = X at *
  have k1 : ∀ t : Kept wx (medT M Q F L P S.nb), t.u.cell? ⟨W, 1, none⟩ = some (.pointer (some ⟨M, 0, none⟩)) := fun t => (t.h.row HX.out.mem.row (HX.out.med.no_row HX.out.mem.row (by decide) (by decide) (by decide) (by decide))).cell 1
  have k2 : ∀ t : Kept wx (medT M Q F L P S.nb), t.u.cell? ⟨X, 5, none⟩ = some (.bool one) := fun t => (t.h.row HR.out (HX.out.med.no_row HR.out (by decide) (by decide) (by decide) (by decide))).cell 5
  (refine region_kept (medT M Q F L P S.nb) [0, 1, 2, 3, 4, 5, 6] [7, 8] (by kernel_rfl) (by kernel_rfl) (fun _ _ _ _ _ h => h) ?_; simp only [List.filterMap_cons, List.getElem?_cons_zero, List.getElem?_cons_succ, List.filterMap_nil]; (repeat ((show wpQuiet _ _ _ _ (_ :: _) _); go_big_quiet_step (fail))); refine wpQuiet_nil ?_)
  clear k1 k2
  refine wpSeqS_step ?_
  have HEx := Lib.hid (HE.out _ (HX.out.drewN 1))
  go_wp2_with fail
  refine HEx.out.mono ?_
  rintro e w2 ⟨rfl, hp2, ht2⟩
  have HP2 := Lib.hid hp2
  have HT2 : Hid (Turns wx w2 (medT M Q F L P S.nb)) := ((Turns.refl wx _).drewN 1).trans ht2 (fun _ hx => .inl hx)
  clear HE HEx hp2 ht2
  go_wp2_with fail
  refine outQ_normal HT2.out ?_
  refine wpSeqS_last ?_
  have HIs := Lib.hid (HO.out w2 HP2.out)
  clear HO
  go_wp2_with fail
  refine HIs.out.mono ?_
  rintro e w3 ⟨rfl, rfl⟩
  clear HIs
  go_wp2
  go_ret
  exact ⟨rfl, ⟨_, _, _, _, _, HP2.out, HA.out, rfl, rfl, rfl⟩⟩
set_option maxRecDepth 100000 in
set_option maxHeartbeats 1000000 in
theorem erase_bad (h : PSt w0 w W M Q F L P g v S n bad md m) (ha : Agr S bad n m) (x : Ac) (k : Nat) (hk : k < S.nb) (hx : x.bl = k) (hb : bad k = true) : Calls Tryd.prog 43 #[.pointer (some ⟨W, 0, none⟩), x.val] w fun e w' => e = .returned (.bool true) ∧ PW w0 W M Q F L P g n S.nb S.pages S.chunks w' := by
  obtain ⟨op, bl, pg, fill, A, c, l, one, nn⟩ := x
  simp only [Ac.val, Ac.cells] at hx ⊢
  generalize l.length = ln at *
  have HA := Lib.hid ha
  have HX : Hid (PSt w0 (w.alloc (.cells #[.int .i64 op, .int .i64 bl, .int .i64 pg, .int .u8 fill, .slice A ln c, .bool one, .int .i64 nn] 68)) W M Q F L P g v S n bad md m) := h.alloc _
  have HR := Lib.hid (Row.fresh w 68 #[.int .i64 op, .int .i64 bl, .int .i64 pg, .int .u8 fill, .slice A ln c, .bool one, .int .i64 nn])
  subst hx
  have HE : Hid (∀ w1, PSt w0 w1 W M Q F L P g v S n bad md m → Calls Tryd.prog 12 #[.pointer (some ⟨M, 0, none⟩), .int .i64 k, .bool one] w1 fun e w' => e = .returned (.int .i64 7) ∧ PSt w0 w' W M Q F L P g v S n bad md m ∧ Turns w1 w' (medT M Q F L P S.nb)) := fun w1 h1 => h1.erase_bad hk one hb
  have HK := Lib.hid hk
  have hki : (k : Int) < S.nb := by omega
  have hmb : m.bad k = true := by rw [(ha k hk).eBad]; exact hb
  clear h ha hk hb
  go_enter Tryd.func43, Tryd.ntmps43
  go_wp2
  generalize w.alloc (.cells #[.int .i64 op, .int .i64 k, .int .i64 pg, .int .u8 fill, .slice A ln c, .bool one, .int .i64 nn] 68) = wx at *
  generalize w.heap.size = X at *
  have k1 : ∀ t : Kept wx (medT M Q F L P S.nb), t.u.cell? ⟨W, 1, none⟩ = some (.pointer (some ⟨M, 0, none⟩)) := fun t => (t.h.row HX.out.mem.row (HX.out.med.no_row HX.out.mem.row (by decide) (by decide) (by decide) (by decide))).cell 1
  have k2 : ∀ t : Kept wx (medT M Q F L P S.nb), t.u.cell? ⟨X, 5, none⟩ = some (.bool one) := fun t => (t.h.row HR.out (HX.out.med.no_row HR.out (by decide) (by decide) (by decide) (by decide))).cell 5
  (refine region_kept (medT M Q F L P S.nb) [0, 1, 2, 3, 4, 5, 6] [7, 8] (by kernel_rfl) (by kernel_rfl) (fun _ _ _ _ _ h => h) ?_; simp only [List.filterMap_cons, List.getElem?_cons_zero, List.getElem?_cons_succ, List.filterMap_nil]; (repeat ((show wpQuiet _ _ _ _ (_ :: _) _); go_big_quiet_step (fail))); refine wpQuiet_nil ?_)
  clear k1 k2
  refine wpSeqS_step ?_
  have HEx := Lib.hid (HE.out _ (HX.out.drewN 1))
  go_wp2_with fail
  refine HEx.out.mono ?_
  rintro e w2 ⟨rfl, hp2, ht2⟩
  have HP2 := Lib.hid hp2
  have HT2 : Hid (Turns wx w2 (medT M Q F L P S.nb)) := ((Turns.refl wx _).drewN 1).trans ht2 (fun _ hx => .inl hx)
  clear HE HEx hp2 ht2
  go_wp2_with fail
  refine outQ_normal HT2.out ?_
  refine wpSeqS_last ?_
  have HIs := Lib.hid (show Calls Tryd.prog 45 #[.pointer (some ⟨W, 0, none⟩), .int .i64 k] w2 fun e w' => e = .returned (.bool true) ∧ w2 = w' from HP2.out.is_in HK.out 0)
  obtain ⟨_, _, _, _, c4, c6, c7, c8, c9, _⟩ := HP2.out.mem.cells
  obtain ⟨k5, k9, k11, k13, k15⟩ := HP2.out.mem.at_k HK.out
  go_wp2_with fail
  refine HIs.out.mono ?_
  rintro e w3 ⟨rfl, rfl⟩
  clear HIs c4 c6 c7 k5 k9 k11
  rw [hmb] at k13
  clear hmb c9 k15
  generalize S.nb = nb at c8 hki
  go_wp2
  go_ret
  exact ⟨rfl, ⟨_, _, _, _, _, HP2.out, HA.out, rfl, rfl, rfl⟩⟩
set_option maxRecDepth 100000 in
set_option maxHeartbeats 1000000 in
theorem erase_failed (h : PSt w0 w W M Q F L P g v S n bad md m) (ha : Agr S bad n m) (x : Ac) (k : Nat) (hk : k < S.nb) (hx : x.bl = k) (hb : bad k = false) (ho : S.off = false) (hf : (S.b k).failed = true) : Calls Tryd.prog 43 #[.pointer (some ⟨W, 0, none⟩), x.val] w fun e w' => e = .returned (.bool true) ∧ PW w0 W M Q F L P g n S.nb S.pages S.chunks w' := by
  obtain ⟨op, bl, pg, fill, A, c, l, one, nn⟩ := x
  simp only [Ac.val, Ac.cells] at hx ⊢
  generalize l.length = ln at *
  have HA := Lib.hid ha
  have HX : Hid (PSt w0 (w.alloc (.cells #[.int .i64 op, .int .i64 bl, .int .i64 pg, .int .u8 fill, .slice A ln c, .bool one, .int .i64 nn] 68)) W M Q F L P g v S n bad md m) := h.alloc _
  have HR := Lib.hid (Row.fresh w 68 #[.int .i64 op, .int .i64 bl, .int .i64 pg, .int .u8 fill, .slice A ln c, .bool one, .int .i64 nn])
  subst hx
  have HE : Hid (∀ w1, PSt w0 w1 W M Q F L P g v S n bad md m → Calls Tryd.prog 12 #[.pointer (some ⟨M, 0, none⟩), .int .i64 k, .bool one] w1 fun e w' => e = .returned (.int .i64 7) ∧ PSt w0 w' W M Q F L P g v S n (setBad bad k) md m ∧ Turns w1 w' (medT M Q F L P S.nb)) := fun w1 h1 => h1.erase_failed hk one hb ho hf
  have HK := Lib.hid hk
  have hki : (k : Int) < S.nb := by omega
  have hmb : m.bad k = false := by rw [(ha k hk).eBad]; exact hb
  have hmf : m.fail k = true := by rw [(ha k hk).eFail]; exact hf
  clear h ha hk hb ho hf
  go_enter Tryd.func43, Tryd.ntmps43
  go_wp2
  generalize w.alloc (.cells #[.int .i64 op, .int .i64 k, .int .i64 pg, .int .u8 fill, .slice A ln c, .bool one, .int .i64 nn] 68) = wx at *
  generalize w.heap.size = X at *
  have k1 : ∀ t : Kept wx (medT M Q F L P S.nb), t.u.cell? ⟨W, 1, none⟩ = some (.pointer (some ⟨M, 0, none⟩)) := fun t => (t.h.row HX.out.mem.row (HX.out.med.no_row HX.out.mem.row (by decide) (by decide) (by decide) (by decide))).cell 1
  have k2 : ∀ t : Kept wx (medT M Q F L P S.nb), t.u.cell? ⟨X, 5, none⟩ = some (.bool one) := fun t => (t.h.row HR.out (HX.out.med.no_row HR.out (by decide) (by decide) (by decide) (by decide))).cell 5
  (refine region_kept (medT M Q F L P S.nb) [0, 1, 2, 3, 4, 5, 6] [7, 8] (by kernel_rfl) (by kernel_rfl) (fun _ _ _ _ _ h => h) ?_; simp only [List.filterMap_cons, List.getElem?_cons_zero, List.getElem?_cons_succ, List.filterMap_nil]; (repeat ((show wpQuiet _ _ _ _ (_ :: _) _); go_big_quiet_step (fail))); refine wpQuiet_nil ?_)
  clear k1 k2
  refine wpSeqS_step ?_
  have HEx := Lib.hid (HE.out _ (HX.out.drewN 1))
  go_wp2_with fail
  refine HEx.out.mono ?_
  rintro e w2 ⟨rfl, hp2, ht2⟩
  have HP2 := Lib.hid hp2
  have HT2 : Hid (Turns wx w2 (medT M Q F L P S.nb)) := ((Turns.refl wx _).drewN 1).trans ht2 (fun _ hx => .inl hx)
  clear HE HEx hp2 ht2
  go_wp2_with fail
  refine outQ_normal HT2.out ?_
  refine wpSeqS_last ?_
  have HIs := Lib.hid (show Calls Tryd.prog 45 #[.pointer (some ⟨W, 0, none⟩), .int .i64 k] w2 fun e w' => e = .returned (.bool true) ∧ w2 = w' from HP2.out.is_in HK.out 0)
  obtain ⟨_, _, _, _, c4, c6, c7, c8, c9, _⟩ := HP2.out.mem.cells
  obtain ⟨k5, k9, k11, k13, k15⟩ := HP2.out.mem.at_k HK.out
  go_wp2_with fail
  refine HIs.out.mono ?_
  rintro e w3 ⟨rfl, rfl⟩
  clear HIs c4 c6 c7 k5 k9 k11
  have HPb := Lib.hid (HP2.out.put_bad HK.out true)
  have fz := (HP2.out.mem.thaw k).2.2.2.1
  rw [hmb] at k13
  rw [hmf] at k15
  clear hmb hmf
  generalize S.nb = nb at c8 c9 hki
  go_wp2
  go_ret
  exact ⟨rfl, ⟨_, _, _, _, _, HPb.out, HA.out.badE k, rfl, rfl, rfl⟩⟩
set_option maxRecDepth 100000 in
set_option maxHeartbeats 1000000 in
theorem erase_done (h : PSt w0 w W M Q F L P g v S n bad md m) (ha : Agr S bad n m) (x : Ac) (k : Nat) (hk : k < S.nb) (hx : x.bl = k) (hb : bad k = false) (ho : S.off = false) (hf : (S.b k).failed = false) (har : S.armed ≠ 1 ∧ S.armed ≠ 2) : Calls Tryd.prog 43 #[.pointer (some ⟨W, 0, none⟩), x.val] w fun e w' => e = .returned (.bool true) ∧ PW w0 W M Q F L P g n S.nb S.pages S.chunks w' := by
  obtain ⟨op, bl, pg, fill, A, c, l, one, nn⟩ := x
  simp only [Ac.val, Ac.cells] at hx ⊢
  generalize l.length = ln at *
  have HA := Lib.hid ha
  have HX : Hid (PSt w0 (w.alloc (.cells #[.int .i64 op, .int .i64 bl, .int .i64 pg, .int .u8 fill, .slice A ln c, .bool one, .int .i64 nn] 68)) W M Q F L P g v S n bad md m) := h.alloc _
  have HR := Lib.hid (Row.fresh w 68 #[.int .i64 op, .int .i64 bl, .int .i64 pg, .int .u8 fill, .slice A ln c, .bool one, .int .i64 nn])
  subst hx
  have HE : Hid (∀ w1, PSt w0 w1 W M Q F L P g v S n bad md m → Calls Tryd.prog 12 #[.pointer (some ⟨M, 0, none⟩), .int .i64 k, .bool one] w1 fun e w' => e = .returned (.int .i64 0) ∧ PSt w0 w' W M Q F L P g v (S.erased k one) n bad md m ∧ Turns w1 w' (medT M Q F L P S.nb)) := fun w1 h1 => h1.erase_done hk one hb ho hf har
  have HK : Hid (k < (S.erased k one).nb) := hk
  have hki : (k : Int) < S.nb := by omega
  have hmb : m.bad k = false := by rw [(ha k hk).eBad]; exact hb
  have hmf : m.fail k = false := by rw [(ha k hk).eFail]; exact hf
  have HRe := Lib.hid (room_erased S bad k one hb)
  clear h ha hk hb ho hf har
  go_enter Tryd.func43, Tryd.ntmps43
  go_wp2
  generalize w.alloc (.cells #[.int .i64 op, .int .i64 k, .int .i64 pg, .int .u8 fill, .slice A ln c, .bool one, .int .i64 nn] 68) = wx at *
  generalize w.heap.size = X at *
  have k1 : ∀ t : Kept wx (medT M Q F L P S.nb), t.u.cell? ⟨W, 1, none⟩ = some (.pointer (some ⟨M, 0, none⟩)) := fun t => (t.h.row HX.out.mem.row (HX.out.med.no_row HX.out.mem.row (by decide) (by decide) (by decide) (by decide))).cell 1
  have k2 : ∀ t : Kept wx (medT M Q F L P S.nb), t.u.cell? ⟨X, 5, none⟩ = some (.bool one) := fun t => (t.h.row HR.out (HX.out.med.no_row HR.out (by decide) (by decide) (by decide) (by decide))).cell 5
  (refine region_kept (medT M Q F L P S.nb) [0, 1, 2, 3, 4, 5, 6] [7, 8] (by kernel_rfl) (by kernel_rfl) (fun _ _ _ _ _ h => h) ?_; simp only [List.filterMap_cons, List.getElem?_cons_zero, List.getElem?_cons_succ, List.filterMap_nil]; (repeat ((show wpQuiet _ _ _ _ (_ :: _) _); go_big_quiet_step (fail))); refine wpQuiet_nil ?_)
  clear k1 k2
  refine wpSeqS_step ?_
  have HEx := Lib.hid (HE.out _ (HX.out.drewN 1))
  go_wp2_with fail
  refine HEx.out.mono ?_
  rintro e w2 ⟨rfl, hp2, ht2⟩
  have HP2 := Lib.hid hp2
  have HT2 : Hid (Turns wx w2 (medT M Q F L P S.nb)) := ((Turns.refl wx _).drewN 1).trans ht2 (fun _ hx => .inl hx)
  clear HE HEx hp2 ht2
  go_wp2_with fail
  refine outQ_normal HT2.out ?_
  refine wpSeqS_last ?_
  have HIs := Lib.hid (show Calls Tryd.prog 45 #[.pointer (some ⟨W, 0, none⟩), .int .i64 k] w2 fun e w' => e = .returned (.bool true) ∧ w2 = w' from HP2.out.is_in HK.out 0)
  obtain ⟨_, _, _, _, c4, c6, c7, c8, c9, _⟩ := HP2.out.mem.cells
  obtain ⟨k5, k9, k11, k13, k15⟩ := HP2.out.mem.at_k HK.out
  go_wp2_with fail
  refine HIs.out.mono ?_
  rintro e w3 ⟨rfl, rfl⟩
  clear HIs c4 c6 c7 k5 k9 k11
  rw [hmb] at k13
  rw [hmf] at k15
  have c5 : w2.cell? ⟨X, 5, none⟩ = some (.bool one) := (HT2.out.row HR.out (HX.out.med.no_row HR.out (by decide) (by decide) (by decide) (by decide))).cell 5
  have HCl := Lib.hid (clear_any HP2.out k HK.out one)
  have hnb : (S.erased k one).nb = S.nb := rfl
  rw [hnb] at c8 c9
  clear hmb hmf hnb
  generalize S.nb = nb at c8 c9 hki
  go_wp2_with fail
  refine HCl.out.mono ?_
  rintro e w4 ⟨rfl, v4, h4⟩
  have H4 := Lib.hid h4
  have HRo := Lib.hid (h4.room HK.out)
  rw [HRe.out] at HRo
  have c1 := h4.mem.cells.2.1
  clear HCl h4 c8 c9 k13 k15 c5
  go_wp2_with fail
  refine HRo.out.mono ?_
  rintro e w5 ⟨rfl, h5⟩
  have H5 := Lib.hid h5
  have HHs := Lib.hid (show Calls Tryd.prog 24 #[.pointer (some ⟨W, 0, none⟩), .int .i64 k] w5 fun e w' => e = .returned (.int .i64 ((S.erased k one).has k : Nat)) ∧ w5 = w' from h5.has_in (HA.out.erased k one) HK.out 0)
  clear HRo h5 c1
  generalize (S.erased k one).has k = hs at *
  go_wp2_with fail
  refine HHs.out.mono ?_
  rintro e w6 ⟨rfl, rfl⟩
  clear HHs
  go_wp2
  go_ret
  exact ⟨by simp, ⟨_, _, _, _, _, H5.out, HA.out.erased k one, rfl, rfl, rfl⟩⟩
end
end Go.Proofs.YtlidbkofjchnnaaDoor

namespace Go.Proofs.YtlidbkofjchnnaaDoor
open Go.RowKit
set_option linter.unusedVariables false
set_option linter.unusedSimpArgs false

section
variable {w0 w : World} {W M Q F L n : Nat} {P g : Nat → Nat} {v : Nat → Value} {S : Fl} {bad : Nat → Bool} {md : Int} {m : Pm}
set_option maxRecDepth 100000 in
set_option maxHeartbeats 1000000 in
theorem erase_cut (h : PSt w0 w W M Q F L P g v S n bad md m) (ha : Agr S bad n m) (x : Ac) (k : Nat) (hk : k < S.nb) (hx : x.bl = k) (hb : bad k = false) (ho : S.off = false) (hf : (S.b k).failed = false) (har : S.armed = 1 ∨ S.armed = 2) : Calls Tryd.prog 43 #[.pointer (some ⟨W, 0, none⟩), x.val] w fun e w' => e = .returned (.bool true) ∧ PW w0 W M Q F L P g n S.nb S.pages S.chunks w' := by
  obtain ⟨op, bl, pg, fill, A, c, l, one, nn⟩ := x
  simp only [Ac.val, Ac.cells] at hx ⊢
  generalize l.length = ln at *
  have HA := Lib.hid ha
  have HX : Hid (PSt w0 (w.alloc (.cells #[.int .i64 op, .int .i64 bl, .int .i64 pg, .int .u8 fill, .slice A ln c, .bool one, .int .i64 nn] 68)) W M Q F L P g v S n bad md m) := h.alloc _
  have HR := Lib.hid (Row.fresh w 68 #[.int .i64 op, .int .i64 bl, .int .i64 pg, .int .u8 fill, .slice A ln c, .bool one, .int .i64 nn])
  subst hx
  obtain ⟨e1, e2, e3, e4⟩ := cutE_same S k
  have HPW : Hid (∀ w', PW w0 W M Q F L P g n (S.cutE k).nb (S.cutE k).pages (S.cutE k).chunks w' → PW w0 W M Q F L P g n S.nb S.pages S.chunks w') := fun w' hw => by rw [e1, e2, e3] at hw; exact hw
  have HE : Hid (∀ w1, PSt w0 w1 W M Q F L P g v S n bad md m → Calls Tryd.prog 12 #[.pointer (some ⟨M, 0, none⟩), .int .i64 k, .bool one] w1 fun e w' => e = .returned (.int .i64 4) ∧ PSt w0 w' W M Q F L P g v (S.cutE k) n bad md m ∧ Turns w1 w' (medT M Q F L P S.nb)) := fun w1 h1 => h1.erase_cut hk one hb ho hf har
  have HK : Hid (k < (S.cutE k).nb) := by rw [e1]; exact hk
  have hki : (k : Int) < (S.cutE k).nb := by rw [e1]; omega
  have hmb : m.bad k = false := by rw [(ha k hk).eBad]; exact hb
  have hmf : m.fail k = false := by rw [(ha k hk).eFail]; exact hf
  have HA1 := Lib.hid (ha.cutE hk)
  have HO4 := Lib.hid e4
  clear h ha hk hb ho hf har HA e1 e2 e3 e4
  go_enter Tryd.func43, Tryd.ntmps43
  go_wp2
  generalize w.alloc (.cells #[.int .i64 op, .int .i64 k, .int .i64 pg, .int .u8 fill, .slice A ln c, .bool one, .int .i64 nn] 68) = wx at *
  generalize w.heap.size = X at *
  have k1 : ∀ t : Kept wx (medT M Q F L P S.nb), t.u.cell? ⟨W, 1, none⟩ = some (.pointer (some ⟨M, 0, none⟩)) := fun t => (t.h.row HX.out.mem.row (HX.out.med.no_row HX.out.mem.row (by decide) (by decide) (by decide) (by decide))).cell 1
  have k2 : ∀ t : Kept wx (medT M Q F L P S.nb), t.u.cell? ⟨X, 5, none⟩ = some (.bool one) := fun t => (t.h.row HR.out (HX.out.med.no_row HR.out (by decide) (by decide) (by decide) (by decide))).cell 5
  (refine region_kept (medT M Q F L P S.nb) [0, 1, 2, 3, 4, 5, 6] [7, 8] (by kernel_rfl) (by kernel_rfl) (fun _ _ _ _ _ h => h) ?_; simp only [List.filterMap_cons, List.getElem?_cons_zero, List.getElem?_cons_succ, List.filterMap_nil]; (repeat ((show wpQuiet _ _ _ _ (_ :: _) _); go_big_quiet_step (fail))); refine wpQuiet_nil ?_)
  clear k1 k2
  refine wpSeqS_step ?_
  have HEx := Lib.hid (HE.out _ (HX.out.drewN 1))
  go_wp2_with fail
  refine HEx.out.mono ?_
  rintro e w2 ⟨rfl, hp2, ht2⟩
  have HP2 := Lib.hid hp2
  have HT2 : Hid (Turns wx w2 (medT M Q F L P S.nb)) := ((Turns.refl wx _).drewN 1).trans ht2 (fun _ hx => .inl hx)
  clear HE HEx hp2 ht2
  go_wp2_with fail
  refine outQ_normal HT2.out ?_
  refine wpSeqS_last ?_
  clear HX HR HT2
  generalize S.cutE k = S1 at *
  have HIs := Lib.hid (show Calls Tryd.prog 45 #[.pointer (some ⟨W, 0, none⟩), .int .i64 k] w2 fun e w' => e = .returned (.bool true) ∧ w2 = w' from HP2.out.is_in HK.out 0)
  obtain ⟨_, _, _, _, c4, c6, c7, c8, c9, _⟩ := HP2.out.mem.cells
  obtain ⟨k5, k9, k11, k13, k15⟩ := HP2.out.mem.at_k HK.out
  go_wp2_with fail
  refine HIs.out.mono ?_
  rintro e w3 ⟨rfl, rfl⟩
  clear HIs c4 c6 c7 k5 k9 k11
  rw [hmb] at k13
  rw [hmf] at k15
  generalize hnb : S1.nb = nb at c8 c9 hki
  have m1 : ∀ t : Kept w2 [], t.u.cell? ⟨W, 6, none⟩ = some (.slice (some ⟨g 9, 0, none⟩) nb nb) := fun t => by rw [← hnb]; exact (HP2.out.keep t.h).mem.cells.2.2.2.2.2.1
  have m2 : ∀ t : Kept w2 [], t.u.cell? ⟨W, 0, none⟩ = some (.pointer (some ⟨F, 0, none⟩)) := fun t => (HP2.out.keep t.h).mem.cells.1
  have HNx := Lib.hid ((HP2.out.drewN 1).next HK.out)
  clear hmb hmf hnb
  cases hh : (S1.b k).half with
  | true =>
    rw [hh] at HA1
    rw [hh, if_pos rfl] at HNx
    have hh9 := Lib.hid hh
    clear hh
    go_wp2
    (refine region_kept ([]) [0, 1, 2, 3, 4, 5, 6, 7, 8, 9] [10, 11, 12, 13] (by kernel_rfl) (by kernel_rfl) (fun _ _ _ _ _ h => h) ?_; simp only [List.filterMap_cons, List.getElem?_cons_zero, List.getElem?_cons_succ, List.filterMap_nil]; (repeat ((show wpQuiet _ _ _ _ (_ :: _) _); go_big_quiet_step (fail))); refine wpQuiet_nil ?_)
    clear m1 m2 c8 c9 k13 k15
    refine wpSeqS_step ?_
    go_wp2_with fail
    refine HNx.out.mono ?_
    rintro e w3 ⟨rfl, rfl⟩
    have HTd : Hid (Turns w2 (w2.drewN 1) []) := (Turns.refl w2 []).drewN 1
    clear HNx
    go_wp2_with fail
    refine outQ_normal HTd.out ?_
    refine wpSeqS_step ?_
    go_wp2_with fail
    refine outQ_normal HTd.out ?_
    refine wpSeqS_step ?_
    go_wp2_with fail
    refine outQ_normal HTd.out ?_
    refine wpSeqS_last ?_
    have fz := ((HP2.out.drewN 1).mem.thaw k).2.1
    have k9 := ((HP2.out.drewN 1).mem.at_k HK.out).2.1
    have HD := Lib.hid (HP2.out.drewN 1)
    clear HP2 HTd
    generalize w2.drewN 1 = wd at *
    have HD2 := Lib.hid (HD.out.put_half HK.out true)
    have c0 := HD2.out.mem.cells.1
    have HN2 := Lib.hid (HD2.out.next HK.out)
    have HOf := Lib.hid (HD2.out.off HO4.out)
    rw [hh9.out, if_pos rfl] at HN2
    clear HD
    go_wp2_with fail
    refine HN2.out.mono ?_
    rintro e w4 ⟨rfl, rfl⟩
    clear HN2
    go_wp2_with fail
    refine HOf.out.mono ?_
    rintro e w4 ⟨rfl, rfl⟩
    clear HOf
    go_wp2
    go_ret
    exact ⟨rfl, HPW.out _ ⟨_, _, _, _, _, HD2.out, HA1.out, rfl, rfl, rfl⟩⟩
  | false =>
    rw [hh] at HA1
    rw [hh, if_neg (by simp)] at HNx
    have HCl1 : Hid ((S1.b k).next = 0 → Agr S1 bad n (({ m with half := updB m.half k false } : Pm).clear k (S1.b k).one)) := fun h0 => HA1.out.cleared k hh h0
    have hh9 := Lib.hid hh
    clear hh
    generalize hnx : (S1.b k).next = nx at *
    have HNXe := Lib.hid hnx
    clear hnx
    have hlt0 : ¬ (nx : Int) < 0 := by omega
    go_wp2
    (refine region_kept ([]) [0, 1, 2, 3, 4, 5, 6, 7, 8, 9] [10, 11, 12, 13] (by kernel_rfl) (by kernel_rfl) (fun _ _ _ _ _ h => h) ?_; simp only [List.filterMap_cons, List.getElem?_cons_zero, List.getElem?_cons_succ, List.filterMap_nil]; (repeat ((show wpQuiet _ _ _ _ (_ :: _) _); go_big_quiet_step (fail))); refine wpQuiet_nil ?_)
    clear m1 m2 c8 c9 k13 k15
    refine wpSeqS_step ?_
    go_wp2_with fail
    refine HNx.out.mono ?_
    rintro e w3 ⟨rfl, rfl⟩
    have HTd : Hid (Turns w2 (w2.drewN 1) []) := (Turns.refl w2 []).drewN 1
    clear HNx
    go_wp2_with fail
    refine outQ_normal HTd.out ?_
    refine wpSeqS_step ?_
    go_wp2_with fail
    refine outQ_normal HTd.out ?_
    refine wpSeqS_step ?_
    go_wp2_with fail
    refine outQ_normal HTd.out ?_
    refine wpSeqS_last ?_
    have fz := ((HP2.out.drewN 1).mem.thaw k).2.1
    have k9 := ((HP2.out.drewN 1).mem.at_k HK.out).2.1
    have HD := Lib.hid (HP2.out.drewN 1)
    clear HP2 HTd
    generalize w2.drewN 1 = wd at *
    have HD2 := Lib.hid (HD.out.put_half HK.out false)
    have c0 := HD2.out.mem.cells.1
    have HN2 := Lib.hid (HD2.out.next HK.out)
    have HOf := Lib.hid (HD2.out.off HO4.out)
    have HOn := Lib.hid (HD2.out.oneC HK.out)
    have HCl := Lib.hid (clear_any HD2.out k HK.out (S1.b k).one)
    rw [hh9.out, if_neg (by simp), HNXe.out] at HN2
    clear HD
    by_cases h0 : nx = 0
    · subst h0
      have HAc := Lib.hid (HCl1.out rfl)
      generalize (S1.b k).one = on at *
      go_wp2_with fail
      refine HN2.out.mono ?_
      rintro e w4 ⟨rfl, rfl⟩
      clear HN2
      go_wp2_with fail
      refine HOn.out.mono ?_
      rintro e w4 ⟨rfl, rfl⟩
      clear HOn
      go_wp2_with fail
      refine HCl.out.mono ?_
      rintro e w5 ⟨rfl, v5, h5⟩
      have H5 := Lib.hid h5
      have HOf5 := Lib.hid (h5.off HO4.out)
      have c05 := h5.mem.cells.1
      clear HCl h5 HOf c0
      go_wp2_with fail
      refine HOf5.out.mono ?_
      rintro e w6 ⟨rfl, rfl⟩
      clear HOf5
      go_wp2
      go_ret
      exact ⟨rfl, HPW.out _ ⟨_, _, _, _, _, H5.out, HAc.out, rfl, rfl, rfl⟩⟩
    · have hne : ¬ (nx : Int) = 0 := by omega
      have hdn : Hid (decide ((nx : Int) < 0) = false) := by unfold Hid; simp
      have HZ := Lib.hid HD2.out
      clear HCl HOn HCl1 HD2
      rw [← hdn.out] at c0 HN2 HOf
      go_wp2_with fail
      refine HN2.out.mono ?_
      rintro e w4 ⟨rfl, rfl⟩
      clear HN2
      go_wp2_with fail
      refine HOf.out.mono ?_
      rintro e w4 ⟨rfl, rfl⟩
      clear HOf
      go_wp2
      go_ret
      rw [hdn.out]
      have HD2 := HZ
      exact ⟨rfl, HPW.out _ ⟨_, _, _, _, _, HD2.out, HA1.out, rfl, rfl, rfl⟩⟩
end
end Go.Proofs.YtlidbkofjchnnaaDoor

namespace Go.Proofs.YtlidbkofjchnnaaDoor
open Go.RowKit
set_option linter.unusedVariables false
set_option linter.unusedSimpArgs false

section
variable {w0 w w' : World} {W M Q F L n : Nat} {P g : Nat → Nat} {v : Nat → Value} {S : Fl} {bad : Nat → Bool} {md : Int} {m : Pm}
/-- What is to be written. -/
structure DatV (w0 w : World) (a : Addr) (d : List Nat) : Prop where
  pos : 0 < d.length
  cells : Cells8 w (some a) d
  src : a.block < w0.heap.size ∨ ∃ cs, Row w a.block 5 cs
  small : ∀ u ∈ d, u < 256
theorem DatV.pg {a : Addr} {d : List Nat} (h : DatV w0 w a d) (c : Nat) : PgV w0 w (.slice (some a) d.length c) (some d) := ⟨a, c, rfl, h.pos, h.cells, h.src⟩
theorem DatV.out {a : Addr} {d : List Nat} (h : DatV w0 w a d) (hp : PSt w0 w W M Q F L P g v S n bad md m) : a.block ∉ medT M Q F L P S.nb := fun hm => by
  rcases h.src with hs | ⟨cs, hs⟩
  · have := hp.med.at_least _ hm; omega
  · exact hp.med.no_bytes hs hm
theorem DatV.turns {a : Addr} {d : List Nat} {T : List Nat} (h : DatV w0 w a d) (ht : Turns w w' T) (hn : a.block ∉ T) : DatV w0 w' a d :=
  ⟨h.pos, h.cells.turns ht (fun a' ea => by injection ea with ea; subst ea; exact hn), h.src.imp id (fun ⟨cs, hs⟩ => ⟨cs, ht.row hs hn⟩), h.small⟩
theorem data_small (x : Ac) (n : Nat) (h : ∀ u ∈ x.l, u < 256) : ∀ u ∈ x.data n, u < 256 := by
  unfold Ac.data
  split
  · exact h
  · intro u hu
    obtain ⟨i, _, rfl⟩ := List.mem_map.1 hu
    omega
theorem data_any (h : PSt w0 w W M Q F L P g v S n bad md m) (hn : 1 ≤ n ∧ n ≤ 512) (x : Ac) (hx : AcW w0 x) : Calls Tryd.prog 58 #[.pointer (some ⟨W, 0, none⟩), x.val] w fun e w' => ∃ a c, e = .returned (.slice (some a) (x.data n).length c) ∧ DatV w0 w' a (x.data n) ∧ PSt w0 w' W M Q F L P g v S n bad md m ∧ Below w.heap.size w w' := by
  rcases Nat.eq_zero_or_pos x.l.length with h0 | h0
  · refine (data_none x W n h0 hn hx.fill w h.mem.cells.2.2.1).mono fun e w' ⟨gg, he, hr, hg, hb⟩ => ?_
    have hl : (x.data n).length = n := by unfold Ac.data; rw [if_neg (by omega)]; simp
    refine ⟨⟨gg, 0, none⟩, n, by rw [hl]; exact he, ⟨by omega, Cells8.of_row hr, .inr ⟨_, hr⟩, data_small x n hx.small⟩, h.keep (Turns.of_below hb []), hb⟩
  · refine (data_some x W h0 w).mono fun e w' ⟨he, hb⟩ => ?_
    have hd : x.data n = x.l := by unfold Ac.data; rw [if_pos h0]
    have hbel : Below w0.heap.size w0 w' := h.bel.trans (hb.mono h.bel.size)
    obtain ⟨b, off, e0, _⟩ := hx.lies 0 h0
    have hlt := hx.lt h0 _ e0
    refine ⟨⟨b, off, none⟩, x.c, by rw [hd, he, e0], ?_, h.keep (Turns.of_below hb []), hb⟩
    rw [hd]
    refine ⟨h0, ?_, .inl hlt, hx.small⟩
    have hk := hx.lies.keep (keep_below hbel)
    rw [e0] at hk
    exact hk
section
variable {a : Addr} {c : Nat} {d : List Nat}
theorem PSt.write_out (h : PSt w0 w W M Q F L P g v S n bad md m) {k : Int} (hk : k < 0 ∨ S.nb ≤ k) (A : Option Addr) (l c : Nat) : Calls Tryd.prog 10 #[.pointer (some ⟨M, 0, none⟩), .int .i64 k, .slice A l c] w fun e w' => e = .returned (.tuple #[.int .i64 0, .int .i64 1]) ∧ PSt w0 w' W M Q F L P g v S n bad md m :=
  (MWrite_out h.med k hk A l c).mono fun e w' ⟨he, c, hw⟩ => ⟨he, by rw [hw]; exact h.drewN c⟩
theorem PSt.write_len (h : PSt w0 w W M Q F L P g v S n bad md m) {k : Nat} (hk : k < S.nb) (A : Option Addr) (l c : Nat) (hl : l ≠ n) : Calls Tryd.prog 10 #[.pointer (some ⟨M, 0, none⟩), .int .i64 k, .slice A l c] w fun e w' => e = .returned (.tuple #[.int .i64 0, .int .i64 1]) ∧ PSt w0 w' W M Q F L P g v S n bad md m :=
  (MWrite_len h.med k hk A l c hl).mono fun e w' ⟨he, c, hw⟩ => ⟨he, by rw [hw]; exact h.drewN c⟩
theorem PSt.write_bad (h : PSt w0 w W M Q F L P g v S n bad md m) {k : Nat} (hk : k < S.nb) (A : Option Addr) (c : Nat) (hb : bad k = true) : Calls Tryd.prog 10 #[.pointer (some ⟨M, 0, none⟩), .int .i64 k, .slice A n c] w fun e w' => e = .returned (.tuple #[.int .i64 0, .int .i64 7]) ∧ PSt w0 w' W M Q F L P g v S n bad md m :=
  (MWrite_bad h.med k hk A c hb).mono fun e w' ⟨he, c, hw⟩ => ⟨he, by rw [hw]; exact h.drewN c⟩
theorem PSt.write_full (h : PSt w0 w W M Q F L P g v S n bad md m) {k : Nat} (hk : k < S.nb) (A : Option Addr) (c : Nat) (hb : bad k = false) (hr : S.room bad k = 0) : Calls Tryd.prog 10 #[.pointer (some ⟨M, 0, none⟩), .int .i64 k, .slice A n c] w fun e w' => e = .returned (.tuple #[.int .i64 0, .int .i64 3]) ∧ PSt w0 w' W M Q F L P g v S n bad md m :=
  (MWrite_full h.med k hk A c hb hr).mono fun e w' ⟨he, c, hw⟩ => ⟨he, by rw [hw]; exact h.drewN c⟩
theorem PSt.write_failed (h : PSt w0 w W M Q F L P g v S n bad md m) {k : Nat} (hk : k < S.nb) (hd : DatV w0 w a d) (hl : d.length = n) (c : Nat) (hr : S.room bad k ≠ 0) (ho : S.off = false) (hf : (S.b k).failed = true) : Calls Tryd.prog 10 #[.pointer (some ⟨M, 0, none⟩), .int .i64 k, .slice (some a) n c] w fun e w' => e = .returned (.tuple #[.int .i64 0, .int .i64 7]) ∧ PSt w0 w' W M Q F L P g v S n (setBad bad k) md m :=
  (MWrite_failed h.med k hk (some a) c d hl hd.small hd.cells hr ho hf).mono fun e w' ⟨he, hm, ht⟩ => ⟨he, h.turn hm ht (by simp [medT]) rfl rfl⟩
theorem PSt.write_cut (h : PSt w0 w W M Q F L P g v S n bad md m) {k : Nat} (hk : k < S.nb) (hd : DatV w0 w a d) (hl : d.length = n) (c : Nat) (hr : S.room bad k ≠ 0) (ho : S.off = false) (hf : (S.b k).failed = false) (har : 1 ≤ S.armed ∧ S.armed ≤ S.chunks) : Calls Tryd.prog 10 #[.pointer (some ⟨M, 0, none⟩), .int .i64 k, .slice (some a) n c] w fun e w' => e = .returned (.tuple #[.int .i64 0, .int .i64 4]) ∧ PSt w0 w' W M Q F L P g v (S.torn k (laid d S.chunks)) n bad md m :=
  (MWrite_cut h.med k hk (some a) c d hl hd.small hd.cells (fun a' ea => by injection ea with ea; subst ea; exact hd.out h) hr ho hf har).mono fun e w' ⟨ht, _, h2⟩ => ⟨(h2 har.1 har.2).1, h.turn (h2 har.1 har.2).2 ht (fun _ hx => hx) rfl rfl⟩
theorem PSt.write_done (h : PSt w0 w W M Q F L P g v S n bad md m) {k : Nat} (hk : k < S.nb) (hd : DatV w0 w a d) (hl : d.length = n) (c : Nat) (hr : S.room bad k ≠ 0) (ho : S.off = false) (hf : (S.b k).failed = false) (har : S.armed = 0 ∨ S.chunks < S.armed) : Calls Tryd.prog 10 #[.pointer (some ⟨M, 0, none⟩), .int .i64 k, .slice (some a) n c] w fun e w' => e = .returned (.tuple #[.int .i64 (S.b k).next, .int .i64 0]) ∧ (∃ md', PSt w0 w' W M Q F L P g v (S.wrote k (laid d S.chunks)) n bad md' m) ∧ DatV w0 w' a d :=
  (MWrite_done h.med k hk (some a) c d hl hd.small hd.cells (fun a' ea => by injection ea with ea; subst ea; exact hd.out h) hr ho hf har).mono fun e w' ⟨ht, h1, _⟩ => ⟨(h1 har).1, ⟨_, h.turn (h1 har).2 ht (fun _ hx => hx) rfl rfl⟩, hd.turns ht (hd.out h)⟩
end
/-- How a Write may go in a block that there is. -/
inductive WrW (S : Fl) (bad : Nat → Bool) (m : Pm) (k : Nat) : Prop
  | bad (h : bad k = true) (hr : S.room bad k = 0)
  | full (h : bad k = false) (hr : S.room bad k = 0) (hf : m.half k = true ∨ (m.half k = false ∧ (m.b k).length = S.has k))
  | room (h : bad k = false) (hh : m.half k = false) (hr : S.room bad k ≠ 0) (he : S.room bad k = S.has k - (m.b k).length) (hlt : (m.b k).length < S.has k)
theorem WrW_any (ha : Agr S bad n m) (hok : S.Ok) {k : Nat} (hk : k < S.nb) : WrW S bad m k := by
  have hB := ha k hk
  have hwf : (S.b k).next ≤ S.has k := (hok.wf k hk).next
  cases hb : bad k with
  | true => exact .bad hb (by unfold Fl.room; rw [hb]; simp)
  | false =>
    cases hh : m.half k with
    | true => exact .full hb (by unfold Fl.room; rw [← hB.eHalf, hh]; simp) (.inl hh)
    | false =>
      have hl := hB.eLen hh
      have hr : S.room bad k = S.has k - (m.b k).length := by unfold Fl.room; rw [← hB.eHalf, hh, hb, hl]; simp
      by_cases hlt : (m.b k).length < S.has k
      · exact .room hb hh (by omega) hr hlt
      · exact .full hb (by omega) (.inr ⟨hh, by omega⟩)
end
end Go.Proofs.YtlidbkofjchnnaaDoor
