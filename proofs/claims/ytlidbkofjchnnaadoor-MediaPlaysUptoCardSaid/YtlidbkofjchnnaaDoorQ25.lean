/- What follows is laid together from several texts of mine, in their order. -/
import Derived.Test.YtlidbkofjchnnaaDoorQ24

namespace Go.Proofs.YtlidbkofjchnnaaDoor
open Go.RowKit
set_option linter.unusedVariables false
set_option linter.unusedSimpArgs false

section
variable {w0 w : World} {W M Q F L n nb pages ch : Nat} {P g : Nat → Nat} {v : Nat → Value} {S : Fl} {bad : Nat → Bool} {md : Int} {m : Pm}
theorem PSt.failD (h : PSt w0 w W M Q F L P g v S n bad md m) {k : Nat} (hk : k < S.nb) : Calls Tryd.prog 20 #[.pointer (some ⟨F, 0, none⟩), .int .i64 k] w fun e w' => e = .returned (.bool true) ∧ PSt w0 w' W M Q F L P g v (S.setB k { S.b k with failed := true }) n bad md m ∧ Turns w w' (medT M Q F L P S.nb) :=
  (Fail_in h.med.fl k hk).mono fun e w' ⟨he, hf, ht⟩ => ⟨he, h.turn (h.med.flash hf ht (by simp [flS]) rfl rfl) ht (by simp [medT, flS]) rfl rfl, ht.mono (by simp [medT, flS])⟩
set_option maxRecDepth 100000 in
set_option maxHeartbeats 1000000 in
theorem step_arm (h : PSt w0 w W M Q F L P g v S n bad md m) (ha : Agr S bad n m) (ho : S.off = false) (x : Ac) (hin : AcW w0 x) (hop : x.op = 6) : Calls Tryd.prog 23 #[.pointer (some ⟨W, 0, none⟩), x.val] w fun e w' => e = .returned (.bool true) ∧ PW w0 W M Q F L P g n S.nb S.pages S.chunks w' := by
  have hnn := hin.n
  unfold R64 at hnn
  have hin : True := trivial
  obtain ⟨op, bl, pg, fill, A, c, l, one, nn⟩ := x
  simp only [Ac.val, Ac.cells] at hop hin ⊢
  generalize l.length = ln at *
  have HA := Lib.hid ha
  have HX : Hid (PSt w0 (w.alloc (.cells #[.int .i64 op, .int .i64 bl, .int .i64 pg, .int .u8 fill, .slice A ln c, .bool one, .int .i64 nn] 68)) W M Q F L P g v S n bad md m) := h.alloc _
  have HR := Lib.hid (Row.fresh w 68 #[.int .i64 op, .int .i64 bl, .int .i64 pg, .int .u8 fill, .slice A ln c, .bool one, .int .i64 nn])
  have HOf := Lib.hid (HX.out.off ho)
  have c0 := HX.out.mem.cells.1
  have r0 := HR.out.cell 0
  have r1 := HR.out.cell 1
  have r2 := HR.out.cell 2
  have r5 := HR.out.cell 5
  have r6 := HR.out.cell 6
  simp only [List.getElem?_toArray, List.getElem?_cons_zero, List.getElem?_cons_succ] at r0 r1 r2 r5 r6
  clear h ha ho
  have HNN := Lib.hid hnn
  clear hnn
  subst hop
  go_enter Tryd.func23, Tryd.ntmps23
  go_wp2_with fail
  refine HOf.out.mono ?_
  rintro e w1 ⟨rfl, rfl⟩
  clear HOf
  go_wp2
  generalize w.alloc (.cells #[.int .i64 6, .int .i64 bl, .int .i64 pg, .int .u8 fill, .slice A ln c, .bool one, .int .i64 nn] 68) = wx at *
  generalize w.heap.size = X at *
  have k1 : ∀ t : Kept wx [], t.u.cell? ⟨W, 0, none⟩ = some (.pointer (some ⟨F, 0, none⟩)) := fun t => (HX.out.keep t.h).mem.cells.1
  have k2 : ∀ t : Kept wx [], t.u.cell? ⟨X, 6, none⟩ = some (.int .i64 nn) := fun t => (t.h.row HR.out (by simp)).cell 6
  have HAr := Lib.hid ((HX.out.drewN 1).arm nn (by have := HNN.out; omega))
  clear c0 r0 r1 r2 r5 r6
  (refine region_kept ([]) [0, 1, 2, 3, 4, 5, 6, 7] [8] (by kernel_rfl) (by kernel_rfl) (fun _ _ _ _ _ h => h) ?_; simp only [List.filterMap_cons, List.getElem?_cons_zero, List.getElem?_cons_succ, List.filterMap_nil]; (repeat ((show wpQuiet _ _ _ _ (_ :: _) _); go_big_quiet_step (fail))); refine wpQuiet_nil ?_)
  clear k1 k2
  refine wpSeqS_last ?_
  go_wp2_with fail
  refine HAr.out.mono ?_
  rintro e w2 ⟨rfl, h2⟩
  have HP2 := Lib.hid h2
  clear HAr h2
  go_wp2
  go_ret
  exact ⟨rfl, ⟨_, _, _, _, _, HP2.out, HA.out, rfl, rfl, rfl⟩⟩
set_option maxRecDepth 100000 in
set_option maxHeartbeats 1000000 in
theorem step_fail_out (h : PSt w0 w W M Q F L P g v S n bad md m) (ha : Agr S bad n m) (ho : S.off = false) (x : Ac) (hin : x.bl < 0 ∨ S.nb ≤ x.bl) (hop : x.op = 4) : Calls Tryd.prog 23 #[.pointer (some ⟨W, 0, none⟩), x.val] w fun e w' => e = .returned (.bool true) ∧ PW w0 W M Q F L P g n S.nb S.pages S.chunks w' := by
  obtain ⟨op, bl, pg, fill, A, c, l, one, nn⟩ := x
  simp only [Ac.val, Ac.cells] at hop hin ⊢
  generalize l.length = ln at *
  have HA := Lib.hid ha
  have HX : Hid (PSt w0 (w.alloc (.cells #[.int .i64 op, .int .i64 bl, .int .i64 pg, .int .u8 fill, .slice A ln c, .bool one, .int .i64 nn] 68)) W M Q F L P g v S n bad md m) := h.alloc _
  have HR := Lib.hid (Row.fresh w 68 #[.int .i64 op, .int .i64 bl, .int .i64 pg, .int .u8 fill, .slice A ln c, .bool one, .int .i64 nn])
  have HOf := Lib.hid (HX.out.off ho)
  have c0 := HX.out.mem.cells.1
  have r0 := HR.out.cell 0
  have r1 := HR.out.cell 1
  have r2 := HR.out.cell 2
  have r5 := HR.out.cell 5
  have r6 := HR.out.cell 6
  simp only [List.getElem?_toArray, List.getElem?_cons_zero, List.getElem?_cons_succ] at r0 r1 r2 r5 r6
  clear h ha ho
  subst hop
  go_enter Tryd.func23, Tryd.ntmps23
  go_wp2_with fail
  refine HOf.out.mono ?_
  rintro e w1 ⟨rfl, rfl⟩
  clear HOf
  go_wp2
  generalize w.alloc (.cells #[.int .i64 4, .int .i64 bl, .int .i64 pg, .int .u8 fill, .slice A ln c, .bool one, .int .i64 nn] 68) = wx at *
  generalize w.heap.size = X at *
  have k1 : ∀ t : Kept wx [], t.u.cell? ⟨W, 0, none⟩ = some (.pointer (some ⟨F, 0, none⟩)) := fun t => (HX.out.keep t.h).mem.cells.1
  have k2 : ∀ t : Kept wx [], t.u.cell? ⟨X, 1, none⟩ = some (.int .i64 bl) := fun t => (t.h.row HR.out (by simp)).cell 1
  have HFa := Lib.hid ((HX.out.drewN 1).fail_out hin)
  clear c0 r0 r1 r2 r5 r6 hin
  (refine region_kept ([]) [0, 1, 2, 3, 4, 5] [6] (by kernel_rfl) (by kernel_rfl) (fun _ _ _ _ _ h => h) ?_; simp only [List.filterMap_cons, List.getElem?_cons_zero, List.getElem?_cons_succ, List.filterMap_nil]; (repeat ((show wpQuiet _ _ _ _ (_ :: _) _); go_big_quiet_step (fail))); refine wpQuiet_nil ?_)
  clear k1 k2
  refine wpSeqS_last ?_
  go_wp2_with fail
  refine HFa.out.mono ?_
  rintro e w2 ⟨rfl, h2⟩
  have HP2 := Lib.hid h2
  clear HFa h2
  go_wp2
  go_ret
  exact ⟨rfl, ⟨_, _, _, _, _, HP2.out, HA.out, rfl, rfl, rfl⟩⟩
set_option maxRecDepth 100000 in
set_option maxHeartbeats 1000000 in
theorem step_fail (h : PSt w0 w W M Q F L P g v S n bad md m) (ha : Agr S bad n m) (ho : S.off = false) (x : Ac) (k : Nat) (hk : k < S.nb) (hin : x.bl = k) (hop : x.op = 4) : Calls Tryd.prog 23 #[.pointer (some ⟨W, 0, none⟩), x.val] w fun e w' => e = .returned (.bool true) ∧ PW w0 W M Q F L P g n S.nb S.pages S.chunks w' := by
  obtain ⟨op, bl, pg, fill, A, c, l, one, nn⟩ := x
  simp only [Ac.val, Ac.cells] at hop hin ⊢
  generalize l.length = ln at *
  have HA := Lib.hid ha
  have HX : Hid (PSt w0 (w.alloc (.cells #[.int .i64 op, .int .i64 bl, .int .i64 pg, .int .u8 fill, .slice A ln c, .bool one, .int .i64 nn] 68)) W M Q F L P g v S n bad md m) := h.alloc _
  have HR := Lib.hid (Row.fresh w 68 #[.int .i64 op, .int .i64 bl, .int .i64 pg, .int .u8 fill, .slice A ln c, .bool one, .int .i64 nn])
  have HOf := Lib.hid (HX.out.off ho)
  have c0 := HX.out.mem.cells.1
  have r0 := HR.out.cell 0
  have r1 := HR.out.cell 1
  have r2 := HR.out.cell 2
  have r5 := HR.out.cell 5
  have r6 := HR.out.cell 6
  simp only [List.getElem?_toArray, List.getElem?_cons_zero, List.getElem?_cons_succ] at r0 r1 r2 r5 r6
  clear h ha ho
  subst hop
  subst hin
  have HK := Lib.hid hk
  have hki : (k : Int) < S.nb := by omega
  clear hk
  go_enter Tryd.func23, Tryd.ntmps23
  go_wp2_with fail
  refine HOf.out.mono ?_
  rintro e w1 ⟨rfl, rfl⟩
  clear HOf
  go_wp2
  generalize w.alloc (.cells #[.int .i64 4, .int .i64 k, .int .i64 pg, .int .u8 fill, .slice A ln c, .bool one, .int .i64 nn] 68) = wx at *
  generalize w.heap.size = X at *
  have k1 : ∀ t : Kept wx [], t.u.cell? ⟨W, 0, none⟩ = some (.pointer (some ⟨F, 0, none⟩)) := fun t => (HX.out.keep t.h).mem.cells.1
  have k2 : ∀ t : Kept wx [], t.u.cell? ⟨X, 1, none⟩ = some (.int .i64 k) := fun t => (t.h.row HR.out (by simp)).cell 1
  have HFa := Lib.hid ((HX.out.drewN 1).failD HK.out)
  have HXm := HX.out.med.no_row HR.out (by decide) (by decide) (by decide) (by decide)
  clear c0 r0 r1 r2 r5 r6
  (refine region_kept ([]) [0, 1, 2, 3, 4, 5] [6] (by kernel_rfl) (by kernel_rfl) (fun _ _ _ _ _ h => h) ?_; simp only [List.filterMap_cons, List.getElem?_cons_zero, List.getElem?_cons_succ, List.filterMap_nil]; (repeat ((show wpQuiet _ _ _ _ (_ :: _) _); go_big_quiet_step (fail))); refine wpQuiet_nil ?_)
  clear k1 k2
  refine wpSeqS_last ?_
  go_wp2_with fail
  refine HFa.out.mono ?_
  rintro e w2 ⟨rfl, h2, ht2⟩
  have HP2 := Lib.hid h2
  have HR2 : Hid (Row w2 X 68 #[.int .i64 4, .int .i64 k, .int .i64 pg, .int .u8 fill, .slice A ln c, .bool one, .int .i64 nn]) := ht2.row (show Row (wx.drewN 1) X _ _ from HR.out) HXm
  clear HFa h2 ht2 HXm
  have m1 : ∀ t : Kept w2 [], t.u.cell? ⟨W, 9, none⟩ = some (.slice (some ⟨g 15, 0, none⟩) S.nb S.nb) := fun t => (HP2.out.keep t.h).mem.cells.2.2.2.2.2.2.2.2.1
  have m2 : ∀ t : Kept w2 [], t.u.cell? ⟨X, 1, none⟩ = some (.int .i64 k) := fun t => (t.h.row HR2.out (by simp)).cell 1
  generalize hnb : S.nb = nb at m1 hki
  clear hnb
  go_wp2
  (refine region_kept ([]) [0, 1, 2, 3, 4, 5] [6, 7] (by kernel_rfl) (by kernel_rfl) (fun _ _ _ _ _ h => h) ?_; simp only [List.filterMap_cons, List.getElem?_cons_zero, List.getElem?_cons_succ, List.filterMap_nil]; (repeat ((show wpQuiet _ _ _ _ (_ :: _) _); go_big_quiet_step (fail))); refine wpQuiet_nil ?_)
  clear m1 m2
  have HTd : Hid (Turns w2 (w2.drewN 1) []) := (Turns.refl w2 []).drewN 1
  refine wpSeqS_step ?_
  go_wp2_with fail
  refine outQ_normal HTd.out ?_
  refine wpSeqS_last ?_
  have HD : Hid (PSt w0 w2.drew W M Q F L P g v (S.setB k { S.b k with failed := true }) n bad md m) := HP2.out.drewN 1
  have fz := (HD.out.mem.thaw k).2.2.2.2
  have k15 := (HD.out.mem.at_k HK.out).2.2.2.2
  have HP3 := Lib.hid (HD.out.put_fail HK.out true)
  clear HP2 HD HTd HR2
  go_wp2
  go_ret
  exact ⟨rfl, ⟨_, _, _, _, _, HP3.out, HA.out.failE k, rfl, rfl, rfl⟩⟩
end
end Go.Proofs.YtlidbkofjchnnaaDoor
