/- What follows is laid together from several texts of mine, in their order. -/
import Derived.Test.YtlidbkofjchnnaaDoorQ25

namespace Go.Proofs.YtlidbkofjchnnaaDoor
open Go.RowKit
set_option linter.unusedVariables false
set_option linter.unusedSimpArgs false

section
variable {w0 w : World} {W M Q F L n nb pages ch : Nat} {P g : Nat → Nat} {v : Nat → Value} {S : Fl} {bad : Nat → Bool} {md : Int} {m : Pm}
theorem PSt.flip_no (h : PSt w0 w W M Q F L P g v S n bad md m) {k p b : Int} (hn : ∀ i : Nat, k = i → i < S.nb → ¬ S.flips i p b) : Calls Tryd.prog 26 #[.pointer (some ⟨F, 0, none⟩), .int .i64 k, .int .i64 p, .int .i64 b] w fun e w' => e = .returned (.bool false) ∧ w = w' := by
  by_cases hk : k < 0 ∨ S.nb ≤ k
  · exact Flip_out h.med.fl k p b hk
  · obtain ⟨i, rfl⟩ := Int.eq_ofNat_of_zero_le (show 0 ≤ k by omega)
    exact Flip_no h.med.fl i (by omega) p b (hn i rfl (by omega))
theorem PSt.flip_yes (h : PSt w0 w W M Q F L P g v S n bad md m) {k p b : Nat} (hk : k < S.nb) (hf : S.flips k p b) : Calls Tryd.prog 26 #[.pointer (some ⟨F, 0, none⟩), .int .i64 k, .int .i64 p, .int .i64 b] w fun e w' => e = .returned (.bool true) ∧ PSt w0 w' W M Q F L P g v (S.flipped k p b) n bad md m ∧ Turns w w' (medT M Q F L P S.nb) :=
  (Flip_yes h.med.fl k hk p b hf).mono fun e w' ⟨he, hf, ht⟩ =>
    have h1 : ∀ t ∈ [P k], t ∈ medT M Q F L P S.nb := fun t ht => by rw [List.mem_singleton.1 ht]; exact mem_medT.2 (.inr (.inr (.inr (.inr ⟨k, hk, rfl⟩))))
    have h2 : ∀ t ∈ [P k], t ∈ flS F L P S.nb := fun t ht => by rw [List.mem_singleton.1 ht]; exact mem_flS.2 (.inr (.inr ⟨k, hk, rfl⟩))
    ⟨he, h.turn (h.med.flash hf ht h2 rfl rfl) ht h1 rfl rfl, ht.mono h1⟩
set_option maxRecDepth 100000 in
set_option maxHeartbeats 8000000 in
theorem step_flip_neg (h : PSt w0 w W M Q F L P g v S n bad md m) (ha : Agr S bad n m) (ho : S.off = false) (x : Ac) (hin : x.n < 0) (hop : x.op = 5) : Calls Tryd.prog 23 #[.pointer (some ⟨W, 0, none⟩), x.val] w fun e w' => e = .returned (.bool true) ∧ PW w0 W M Q F L P g n S.nb S.pages S.chunks w' := by
  obtain ⟨op, bl, pg, fill, A, c, l, one, nn⟩ := x
  simp only [Ac.val, Ac.cells] at hop hin ⊢
  generalize l.length = ln at *
  have HA := Lib.hid ha
  have HX : Hid (PSt w0 (w.alloc (.cells #[.int .i64 op, .int .i64 bl, .int .i64 pg, .int .u8 fill, .slice A ln c, .bool one, .int .i64 nn] 68)) W M Q F L P g v S n bad md m) := h.alloc _
  have HR := Lib.hid (Row.fresh w 68 #[.int .i64 op, .int .i64 bl, .int .i64 pg, .int .u8 fill, .slice A ln c, .bool one, .int .i64 nn])
  have HOf := Lib.hid (HX.out.off ho)
  have c0 := HX.out.mem.cells.1
  have r0 := HR.out.cell 0
  simp only [List.getElem?_toArray, List.getElem?_cons_zero, List.getElem?_cons_succ] at r0
  subst hop
  clear h ha ho
  have HWd := Lib.hid (word_neg nn)
  go_enter Tryd.func23, Tryd.ntmps23
  go_wp2_with fail
  refine HOf.out.mono ?_
  rintro e w1 ⟨rfl, rfl⟩
  clear HOf
  go_wp2
  generalize w.alloc (.cells #[.int .i64 5, .int .i64 bl, .int .i64 pg, .int .u8 fill, .slice A ln c, .bool one, .int .i64 nn] 68) = wx at *
  generalize w.heap.size = X at *
  have HSz : Hid (Row wx X 68 #[.int .i64 5, .int .i64 bl, .int .i64 pg, .int .u8 fill, .slice A ln c, .bool one, .int .i64 nn]) := HR.out
  have hq0 : wx.drew.cell? ⟨X, 1, none⟩ = some (.int .i64 bl) ∧ wx.drew.cell? ⟨X, 2, none⟩ = some (.int .i64 pg) ∧ wx.drew.cell? ⟨X, 6, none⟩ = some (.int .i64 nn) := ⟨HR.out.cell 1, HR.out.cell 2, HR.out.cell 6⟩
  have HBz : Hid (∀ a b c', Below wx.heap.size wx (wx.alloc (.cells #[a, b, c'] 101)).drew) := fun a b c' => by (repeat (first | (with_reducible refine Below.drew ?_) | (with_reducible refine below_drewN0 ?_ _) | ((with_reducible refine Below.setCell ?_ ?_ _); rotate_left; focus (first | omega | (simp; done) | (simp; omega) | (simp at *; omega))) | ((with_reducible refine Below.alloc ?_ ?_ _); rotate_left; focus (first | omega | (simp; done) | (simp; omega) | (simp at *; omega))) | (with_reducible exact Below.refl _ _)))
  have HPz : Hid (∀ a b c', PSt w0 (wx.alloc (.cells #[a, b, c'] 101)).drew W M Q F L P g v S n bad md m) := fun a b c' => HX.out.keep (Turns.of_below (HBz.out a b c') [])
  have HRz : Hid (∀ a b c', Row (wx.alloc (.cells #[a, b, c'] 101)).drew X 68 #[.int .i64 5, .int .i64 bl, .int .i64 pg, .int .u8 fill, .slice A ln c, .bool one, .int .i64 nn]) := fun a b c' => HSz.out.below (HBz.out a b c') HSz.out.lt
  have HYz : Hid (∀ a b c', Row (wx.alloc (.cells #[a, b, c'] 101)).drew wx.heap.size 101 #[a, b, c']) := fun a b c' => Row.fresh wx _ _
  have HQ2 : Hid (∀ a b c', (wx.alloc (.cells #[a, b, c'] 101)).drew.cell? ⟨X, 1, none⟩ = some (.int .i64 bl) ∧ (wx.alloc (.cells #[a, b, c'] 101)).drew.cell? ⟨X, 2, none⟩ = some (.int .i64 pg) ∧ (wx.alloc (.cells #[a, b, c'] 101)).drew.cell? ⟨X, 6, none⟩ = some (.int .i64 nn)) := fun a b c' => ⟨(HRz.out a b c').cell 1, (HRz.out a b c').cell 2, (HRz.out a b c').cell 6⟩
  clear HR c0 r0
  go_region_held_law (fun w' => w'.cell? ⟨X, 1, none⟩ = some (.int .i64 bl) ∧ w'.cell? ⟨X, 2, none⟩ = some (.int .i64 pg) ∧ w'.cell? ⟨X, 6, none⟩ = some (.int .i64 nn)) (first | exact hq0 | exact HQ2.out _ _ _)
    (first | (go_at_call 44; refine (HWd.out _).mono ?_; (rintro e w' ⟨⟨v, rfl⟩, rfl⟩)))
  all_goals
    have HP := Lib.hid (HPz.out (.int .i64 bl) (.int .i64 pg) (.int .i64 v))
    have HRw := Lib.hid (HRz.out (.int .i64 bl) (.int .i64 pg) (.int .i64 v))
    have HYw := Lib.hid (HYz.out (.int .i64 bl) (.int .i64 pg) (.int .i64 v))
    clear HQ2 HYz HRz HPz HBz hq0 HSz HX
    generalize (wx.alloc (.cells #[.int .i64 bl, .int .i64 pg, .int .i64 v] 101)).drew = wz at *
    generalize wx.heap.size = Y at *
    have r1 := HRw.out.cell 1
    have r2 := HRw.out.cell 2
    have r6 := HRw.out.cell 6
    have y0 := HYw.out.cell 0
    have y1 := HYw.out.cell 1
    have y2 := HYw.out.cell 2
    have c10 := HP.out.mem.cells.2.2.2.2.2.2.2.2.2
    simp only [List.getElem?_toArray, List.getElem?_cons_zero, List.getElem?_cons_succ] at r1 r2 r6 y0 y1 y2
  all_goals
    go_wp2
    go_quiet (fail)
    have HP2 := Lib.hid (HP.out.drewN nq)
    clear r1 r2 r6 y0 y1 y2 c10
    go_wp2
    go_ret
    exact ⟨rfl, ⟨_, _, _, _, _, HP2.out, HA.out, rfl, rfl, rfl⟩⟩
set_option maxRecDepth 100000 in
set_option maxHeartbeats 8000000 in
theorem step_flip_turned (h : PSt w0 w W M Q F L P g v S n bad md m) (ha : Agr S bad n m) (ho : S.off = false) (x : Ac) (b s : Nat) (hs : s = spotOf (b / 8)) (hb : b < 9223372036854775808) (hR : R64 x.bl ∧ R64 x.pg ∧ R64 (s : Int)) (ht : tnZ m.tn x.bl x.pg s = true) (hin : x.n = b) (hop : x.op = 5) : Calls Tryd.prog 23 #[.pointer (some ⟨W, 0, none⟩), x.val] w fun e w' => e = .returned (.bool true) ∧ PW w0 W M Q F L P g n S.nb S.pages S.chunks w' := by
  obtain ⟨q1, q2, q3⟩ := hR
  have HLk : Hid (∀ w1, PSt w0 w1 W M Q F L P g v S n bad md m → ∀ k, (Instr.lookup 29 (.map (some (g 16))) (.agg #[.int .i64 x.bl, .int .i64 x.pg, .int .i64 s]) false).run Tryd.prog (w1.drewN k) = .ok (.bool true) (w1.drewN k)) := fun w1 h1 k => by
    have := ((h1.drewN k).mem.tn).look q1 q2 q3
    rw [ht] at this; exact this
  have HWd : Hid (∀ w1, Calls Tryd.prog 44 #[.int .i64 b] w1 fun e w' => e = .returned (.int .i64 s) ∧ w1 = w') := fun w1 => by rw [hs]; exact word_any b hb w1
  clear q1 q2 q3 ht hs
  obtain ⟨op, bl, pg, fill, A, c, l, one, nn⟩ := x
  simp only [Ac.val, Ac.cells] at hop hin ⊢
  generalize l.length = ln at *
  have HA := Lib.hid ha
  have HX : Hid (PSt w0 (w.alloc (.cells #[.int .i64 op, .int .i64 bl, .int .i64 pg, .int .u8 fill, .slice A ln c, .bool one, .int .i64 nn] 68)) W M Q F L P g v S n bad md m) := h.alloc _
  have HR := Lib.hid (Row.fresh w 68 #[.int .i64 op, .int .i64 bl, .int .i64 pg, .int .u8 fill, .slice A ln c, .bool one, .int .i64 nn])
  have HOf := Lib.hid (HX.out.off ho)
  have c0 := HX.out.mem.cells.1
  have r0 := HR.out.cell 0
  simp only [List.getElem?_toArray, List.getElem?_cons_zero, List.getElem?_cons_succ] at r0
  subst hop
  clear h ha ho
  subst hin
  have hb0 : ¬ (b : Int) < 0 := by omega
  clear hb
  generalize hnn : (b : Int) = nn at *
  clear hnn
  go_enter Tryd.func23, Tryd.ntmps23
  go_wp2_with fail
  refine HOf.out.mono ?_
  rintro e w1 ⟨rfl, rfl⟩
  clear HOf
  go_wp2
  generalize w.alloc (.cells #[.int .i64 5, .int .i64 bl, .int .i64 pg, .int .u8 fill, .slice A ln c, .bool one, .int .i64 nn] 68) = wx at *
  generalize w.heap.size = X at *
  have HSz : Hid (Row wx X 68 #[.int .i64 5, .int .i64 bl, .int .i64 pg, .int .u8 fill, .slice A ln c, .bool one, .int .i64 nn]) := HR.out
  have hq0 : wx.drew.cell? ⟨X, 1, none⟩ = some (.int .i64 bl) ∧ wx.drew.cell? ⟨X, 2, none⟩ = some (.int .i64 pg) ∧ wx.drew.cell? ⟨X, 6, none⟩ = some (.int .i64 nn) := ⟨HR.out.cell 1, HR.out.cell 2, HR.out.cell 6⟩
  have HBz : Hid (∀ a b c', Below wx.heap.size wx (wx.alloc (.cells #[a, b, c'] 101)).drew) := fun a b c' => by (repeat (first | (with_reducible refine Below.drew ?_) | (with_reducible refine below_drewN0 ?_ _) | ((with_reducible refine Below.setCell ?_ ?_ _); rotate_left; focus (first | omega | (simp; done) | (simp; omega) | (simp at *; omega))) | ((with_reducible refine Below.alloc ?_ ?_ _); rotate_left; focus (first | omega | (simp; done) | (simp; omega) | (simp at *; omega))) | (with_reducible exact Below.refl _ _)))
  have HPz : Hid (∀ a b c', PSt w0 (wx.alloc (.cells #[a, b, c'] 101)).drew W M Q F L P g v S n bad md m) := fun a b c' => HX.out.keep (Turns.of_below (HBz.out a b c') [])
  have HRz : Hid (∀ a b c', Row (wx.alloc (.cells #[a, b, c'] 101)).drew X 68 #[.int .i64 5, .int .i64 bl, .int .i64 pg, .int .u8 fill, .slice A ln c, .bool one, .int .i64 nn]) := fun a b c' => HSz.out.below (HBz.out a b c') HSz.out.lt
  have HYz : Hid (∀ a b c', Row (wx.alloc (.cells #[a, b, c'] 101)).drew wx.heap.size 101 #[a, b, c']) := fun a b c' => Row.fresh wx _ _
  have HQ2 : Hid (∀ a b c', (wx.alloc (.cells #[a, b, c'] 101)).drew.cell? ⟨X, 1, none⟩ = some (.int .i64 bl) ∧ (wx.alloc (.cells #[a, b, c'] 101)).drew.cell? ⟨X, 2, none⟩ = some (.int .i64 pg) ∧ (wx.alloc (.cells #[a, b, c'] 101)).drew.cell? ⟨X, 6, none⟩ = some (.int .i64 nn)) := fun a b c' => ⟨(HRz.out a b c').cell 1, (HRz.out a b c').cell 2, (HRz.out a b c').cell 6⟩
  clear HR c0 r0
  go_region_held_law (fun w' => w'.cell? ⟨X, 1, none⟩ = some (.int .i64 bl) ∧ w'.cell? ⟨X, 2, none⟩ = some (.int .i64 pg) ∧ w'.cell? ⟨X, 6, none⟩ = some (.int .i64 nn)) (first | exact hq0 | exact HQ2.out _ _ _)
    (first | (go_at_call 44; refine (HWd.out _).mono ?_; (rintro e w' ⟨rfl, rfl⟩)))
  all_goals
    have HP := Lib.hid (HPz.out (.int .i64 bl) (.int .i64 pg) (.int .i64 (s : Int)))
    have HRw := Lib.hid (HRz.out (.int .i64 bl) (.int .i64 pg) (.int .i64 (s : Int)))
    have HYw := Lib.hid (HYz.out (.int .i64 bl) (.int .i64 pg) (.int .i64 (s : Int)))
    clear HQ2 HYz HRz HPz HBz hq0 HSz HX
    generalize (wx.alloc (.cells #[.int .i64 bl, .int .i64 pg, .int .i64 (s : Int)] 101)).drew = wz at *
    generalize wx.heap.size = Y at *
    have r1 := HRw.out.cell 1
    have r2 := HRw.out.cell 2
    have r6 := HRw.out.cell 6
    have y0 := HYw.out.cell 0
    have y1 := HYw.out.cell 1
    have y2 := HYw.out.cell 2
    have c10 := HP.out.mem.cells.2.2.2.2.2.2.2.2.2
    simp only [List.getElem?_toArray, List.getElem?_cons_zero, List.getElem?_cons_succ] at r1 r2 r6 y0 y1 y2
  all_goals
    have hlk := HLk.out wz HP.out
    clear HLk
    go_wp2
    go_quiet (fail)
    have HP2 := Lib.hid (HP.out.drewN nq)
    clear r1 r2 r6 y0 y1 y2 c10 hlk
    go_wp2
    go_ret
    exact ⟨rfl, ⟨_, _, _, _, _, HP2.out, HA.out, rfl, rfl, rfl⟩⟩
set_option maxRecDepth 100000 in
set_option maxHeartbeats 8000000 in
theorem step_flip_no (h : PSt w0 w W M Q F L P g v S n bad md m) (ha : Agr S bad n m) (ho : S.off = false) (x : Ac) (b s : Nat) (hs : s = spotOf (b / 8)) (hb : b < 9223372036854775808) (hR : R64 x.bl ∧ R64 x.pg ∧ R64 (s : Int)) (ht : tnZ m.tn x.bl x.pg s = false) (hin : x.n = b) (hop : x.op = 5) (hno : ∀ i : Nat, x.bl = i → i < S.nb → ¬ S.flips i x.pg b) : Calls Tryd.prog 23 #[.pointer (some ⟨W, 0, none⟩), x.val] w fun e w' => e = .returned (.bool true) ∧ PW w0 W M Q F L P g n S.nb S.pages S.chunks w' := by
  obtain ⟨q1, q2, q3⟩ := hR
  have HLk : Hid (∀ w1, PSt w0 w1 W M Q F L P g v S n bad md m → ∀ k, (Instr.lookup 29 (.map (some (g 16))) (.agg #[.int .i64 x.bl, .int .i64 x.pg, .int .i64 s]) false).run Tryd.prog (w1.drewN k) = .ok (.bool false) (w1.drewN k)) := fun w1 h1 k => by
    have := ((h1.drewN k).mem.tn).look q1 q2 q3
    rw [ht] at this; exact this
  have HWd : Hid (∀ w1, Calls Tryd.prog 44 #[.int .i64 b] w1 fun e w' => e = .returned (.int .i64 s) ∧ w1 = w') := fun w1 => by rw [hs]; exact word_any b hb w1
  clear q1 q2 q3
  have HFl : Hid (∀ w1, PSt w0 w1 W M Q F L P g v S n bad md m → Calls Tryd.prog 26 #[.pointer (some ⟨F, 0, none⟩), .int .i64 x.bl, .int .i64 x.pg, .int .i64 b] w1 fun e w' => e = .returned (.bool false) ∧ w1 = w') := fun w1 h1 => h1.flip_no hno
  clear ht hs hno
  obtain ⟨op, bl, pg, fill, A, c, l, one, nn⟩ := x
  simp only [Ac.val, Ac.cells] at hop hin ⊢
  generalize l.length = ln at *
  have HA := Lib.hid ha
  have HX : Hid (PSt w0 (w.alloc (.cells #[.int .i64 op, .int .i64 bl, .int .i64 pg, .int .u8 fill, .slice A ln c, .bool one, .int .i64 nn] 68)) W M Q F L P g v S n bad md m) := h.alloc _
  have HR := Lib.hid (Row.fresh w 68 #[.int .i64 op, .int .i64 bl, .int .i64 pg, .int .u8 fill, .slice A ln c, .bool one, .int .i64 nn])
  have HOf := Lib.hid (HX.out.off ho)
  have c0 := HX.out.mem.cells.1
  have r0 := HR.out.cell 0
  simp only [List.getElem?_toArray, List.getElem?_cons_zero, List.getElem?_cons_succ] at r0
  subst hop
  clear h ha ho
  subst hin
  have hb0 : ¬ (b : Int) < 0 := by omega
  clear hb
  generalize hnn : (b : Int) = nn at *
  clear hnn
  go_enter Tryd.func23, Tryd.ntmps23
  go_wp2_with fail
  refine HOf.out.mono ?_
  rintro e w1 ⟨rfl, rfl⟩
  clear HOf
  go_wp2
  generalize w.alloc (.cells #[.int .i64 5, .int .i64 bl, .int .i64 pg, .int .u8 fill, .slice A ln c, .bool one, .int .i64 nn] 68) = wx at *
  generalize w.heap.size = X at *
  have HSz : Hid (Row wx X 68 #[.int .i64 5, .int .i64 bl, .int .i64 pg, .int .u8 fill, .slice A ln c, .bool one, .int .i64 nn]) := HR.out
  have hq0 : wx.drew.cell? ⟨X, 1, none⟩ = some (.int .i64 bl) ∧ wx.drew.cell? ⟨X, 2, none⟩ = some (.int .i64 pg) ∧ wx.drew.cell? ⟨X, 6, none⟩ = some (.int .i64 nn) := ⟨HR.out.cell 1, HR.out.cell 2, HR.out.cell 6⟩
  have HBz : Hid (∀ a b c', Below wx.heap.size wx (wx.alloc (.cells #[a, b, c'] 101)).drew) := fun a b c' => by (repeat (first | (with_reducible refine Below.drew ?_) | (with_reducible refine below_drewN0 ?_ _) | ((with_reducible refine Below.setCell ?_ ?_ _); rotate_left; focus (first | omega | (simp; done) | (simp; omega) | (simp at *; omega))) | ((with_reducible refine Below.alloc ?_ ?_ _); rotate_left; focus (first | omega | (simp; done) | (simp; omega) | (simp at *; omega))) | (with_reducible exact Below.refl _ _)))
  have HPz : Hid (∀ a b c', PSt w0 (wx.alloc (.cells #[a, b, c'] 101)).drew W M Q F L P g v S n bad md m) := fun a b c' => HX.out.keep (Turns.of_below (HBz.out a b c') [])
  have HRz : Hid (∀ a b c', Row (wx.alloc (.cells #[a, b, c'] 101)).drew X 68 #[.int .i64 5, .int .i64 bl, .int .i64 pg, .int .u8 fill, .slice A ln c, .bool one, .int .i64 nn]) := fun a b c' => HSz.out.below (HBz.out a b c') HSz.out.lt
  have HYz : Hid (∀ a b c', Row (wx.alloc (.cells #[a, b, c'] 101)).drew wx.heap.size 101 #[a, b, c']) := fun a b c' => Row.fresh wx _ _
  have HQ2 : Hid (∀ a b c', (wx.alloc (.cells #[a, b, c'] 101)).drew.cell? ⟨X, 1, none⟩ = some (.int .i64 bl) ∧ (wx.alloc (.cells #[a, b, c'] 101)).drew.cell? ⟨X, 2, none⟩ = some (.int .i64 pg) ∧ (wx.alloc (.cells #[a, b, c'] 101)).drew.cell? ⟨X, 6, none⟩ = some (.int .i64 nn)) := fun a b c' => ⟨(HRz.out a b c').cell 1, (HRz.out a b c').cell 2, (HRz.out a b c').cell 6⟩
  clear HR c0 r0
  go_region_held_law (fun w' => w'.cell? ⟨X, 1, none⟩ = some (.int .i64 bl) ∧ w'.cell? ⟨X, 2, none⟩ = some (.int .i64 pg) ∧ w'.cell? ⟨X, 6, none⟩ = some (.int .i64 nn)) (first | exact hq0 | exact HQ2.out _ _ _)
    (first | (go_at_call 44; refine (HWd.out _).mono ?_; (rintro e w' ⟨rfl, rfl⟩)))
  all_goals
    have HP := Lib.hid (HPz.out (.int .i64 bl) (.int .i64 pg) (.int .i64 (s : Int)))
    have HRw := Lib.hid (HRz.out (.int .i64 bl) (.int .i64 pg) (.int .i64 (s : Int)))
    have HYw := Lib.hid (HYz.out (.int .i64 bl) (.int .i64 pg) (.int .i64 (s : Int)))
    clear HQ2 HYz HRz HPz HBz hq0 HSz HX
    generalize (wx.alloc (.cells #[.int .i64 bl, .int .i64 pg, .int .i64 (s : Int)] 101)).drew = wz at *
    generalize wx.heap.size = Y at *
    have r1 := HRw.out.cell 1
    have r2 := HRw.out.cell 2
    have r6 := HRw.out.cell 6
    have y0 := HYw.out.cell 0
    have y1 := HYw.out.cell 1
    have y2 := HYw.out.cell 2
    have c10 := HP.out.mem.cells.2.2.2.2.2.2.2.2.2
    simp only [List.getElem?_toArray, List.getElem?_cons_zero, List.getElem?_cons_succ] at r1 r2 r6 y0 y1 y2
  all_goals
    have hlk := HLk.out wz HP.out
    clear HLk
    go_wp2
    go_quiet (fail)
    have HP2 := Lib.hid (HP.out.drewN nq)
    have HR2 : Hid (Row (wz.drewN nq) X _ _) := HRw.out
    have HY2 : Hid (Row (wz.drewN nq) Y _ _) := HYw.out
    clear r1 r2 r6 y0 y1 y2 c10 hlk HP HRw HYw
    generalize wz.drewN nq = wq at *
    have k0 : ∀ t : Kept wq [], t.u.cell? ⟨W, 0, none⟩ = some (.pointer (some ⟨F, 0, none⟩)) := fun t => (HP2.out.keep t.h).mem.cells.1
    have k1 : ∀ t : Kept wq [], t.u.cell? ⟨X, 1, none⟩ = some (.int .i64 bl) := fun t => (t.h.row HR2.out (by simp)).cell 1
    have k2 : ∀ t : Kept wq [], t.u.cell? ⟨X, 2, none⟩ = some (.int .i64 pg) := fun t => (t.h.row HR2.out (by simp)).cell 2
    have k6 : ∀ t : Kept wq [], t.u.cell? ⟨X, 6, none⟩ = some (.int .i64 nn) := fun t => (t.h.row HR2.out (by simp)).cell 6
    go_wp2
    have HF1 := Lib.hid (HFl.out (wq.drewN 1) (HP2.out.drewN 1))
    clear HFl
    (refine region_kept ([]) [0, 1, 2, 3, 4, 5, 6, 7, 8, 9] [10] (by kernel_rfl) (by kernel_rfl) (fun _ _ _ _ _ h => h) ?_; simp only [List.filterMap_cons, List.getElem?_cons_zero, List.getElem?_cons_succ, List.filterMap_nil]; (repeat ((show wpQuiet _ _ _ _ (_ :: _) _); go_big_quiet_step (fail))); refine wpQuiet_nil ?_)
    clear k0 k1 k2 k6
    refine wpSeqS_last ?_
    go_wp2_with fail
    refine HF1.out.mono ?_
    rintro e w2 ⟨rfl, rfl⟩
    have HP3 := Lib.hid (HP2.out.drewN 1)
    clear HF1
    go_wp2
    go_ret
    exact ⟨rfl, ⟨_, _, _, _, _, HP3.out, HA.out, rfl, rfl, rfl⟩⟩
set_option maxRecDepth 100000 in
set_option maxHeartbeats 8000000 in
theorem step_flip_yes (h : PSt w0 w W M Q F L P g v S n bad md m) (ha : Agr S bad n m) (ho : S.off = false) (x : Ac) (k p b s : Nat) (hs : s = spotOf (b / 8)) (hb : b < 9223372036854775808) (hbl : x.bl = k) (hpg : x.pg = p) (hk : k < S.nb) (hR : k < 1024 ∧ p < 1024 ∧ s < 1024) (ht : m.tn k p s = false) (hin : x.n = b) (hop : x.op = 5) (hf : S.flips k p b) (hn : n ≤ 64 * S.chunks) : Calls Tryd.prog 23 #[.pointer (some ⟨W, 0, none⟩), x.val] w fun e w' => e = .returned (.bool true) ∧ PW w0 W M Q F L P g n S.nb S.pages S.chunks w' := by
  have HLk : Hid (∀ w1, PSt w0 w1 W M Q F L P g v S n bad md m → ∀ j, (Instr.lookup 29 (.map (some (g 16))) (.agg #[.int .i64 k, .int .i64 p, .int .i64 s]) false).run Tryd.prog (w1.drewN j) = .ok (.bool false) (w1.drewN j)) := fun w1 h1 j => by
    have := ((h1.drewN j).mem.tn).look (a := k) (b := p) (c := s) (by unfold R64; omega) (by unfold R64; omega) (by unfold R64; omega)
    rw [show tnZ m.tn k p s = false by unfold tnZ; simp [ht]] at this; exact this
  have HWd : Hid (∀ w1, Calls Tryd.prog 44 #[.int .i64 b] w1 fun e w' => e = .returned (.int .i64 s) ∧ w1 = w') := fun w1 => by rw [hs]; exact word_any b hb w1
  have HFl : Hid (∀ w1, PSt w0 w1 W M Q F L P g v S n bad md m → Calls Tryd.prog 26 #[.pointer (some ⟨F, 0, none⟩), .int .i64 k, .int .i64 p, .int .i64 b] w1 fun e w' => e = .returned (.bool true) ∧ PSt w0 w' W M Q F L P g v (S.flipped k p b) n bad md m ∧ Turns w1 w' (medT M Q F L P S.nb)) := fun w1 h1 => h1.flip_yes hk hf
  have HAf : Hid (Agr (S.flipped k p b) bad n { m with tn := updT m.tn k p s }) := by unfold Hid; rw [hs]; exact ha.flip h.med.fl.ok hk hf (by rw [← hs]; exact ht) hn
  have HSame : Hid ((S.flipped k p b).nb = S.nb ∧ (S.flipped k p b).pages = S.pages ∧ (S.flipped k p b).chunks = S.chunks) := ⟨rfl, rfl, rfl⟩
  have HSt : Hid (∀ w1, PSt w0 w1 W M Q F L P g v (S.flipped k p b) n bad md m → ∃ w', (Instr.mapUpdate 29 (.map (some (g 16))) (.agg #[.int .i64 k, .int .i64 p, .int .i64 s]) (.bool true)).run Tryd.prog w1 = .ok () w' ∧ PSt w0 w' W M Q F L P g v (S.flipped k p b) n bad md { m with tn := updT m.tn k p s }) := fun w1 h1 => by
    obtain ⟨w', e, h2, h3⟩ := h1.mem.tn.set hR.1 hR.2.1 hR.2.2
    exact ⟨w', e, h1.put_tn h3 h2⟩
  clear hf hn hk ht hs hR
  have HE : Hid (x.n = (b : Int) ∧ x.bl = (k : Int) ∧ x.pg = (p : Int)) := ⟨hin, hbl, hpg⟩
  clear hbl hpg
  have hin : True := trivial
  obtain ⟨op, bl, pg, fill, A, c, l, one, nn⟩ := x
  simp only [Ac.val, Ac.cells] at hop hin ⊢
  generalize l.length = ln at *
  have HA := Lib.hid ha
  have HX : Hid (PSt w0 (w.alloc (.cells #[.int .i64 op, .int .i64 bl, .int .i64 pg, .int .u8 fill, .slice A ln c, .bool one, .int .i64 nn] 68)) W M Q F L P g v S n bad md m) := h.alloc _
  have HR := Lib.hid (Row.fresh w 68 #[.int .i64 op, .int .i64 bl, .int .i64 pg, .int .u8 fill, .slice A ln c, .bool one, .int .i64 nn])
  have HOf := Lib.hid (HX.out.off ho)
  have c0 := HX.out.mem.cells.1
  have r0 := HR.out.cell 0
  simp only [List.getElem?_toArray, List.getElem?_cons_zero, List.getElem?_cons_succ] at r0
  subst hop
  clear h ha ho
  obtain ⟨e1, e2, e3⟩ := HE.out
  clear HE
  change nn = (b : Int) at e1
  change bl = (k : Int) at e2
  change pg = (p : Int) at e3
  subst e1; subst e2; subst e3
  have hb0 : ¬ (b : Int) < 0 := by omega
  clear hb
  generalize S.flipped k p b = S' at *
  generalize hnn : (b : Int) = nn at *
  generalize hkk : (k : Int) = bl at *
  generalize hpp : (p : Int) = pg at *
  clear hnn hkk hpp
  go_enter Tryd.func23, Tryd.ntmps23
  go_wp2_with fail
  refine HOf.out.mono ?_
  rintro e w1 ⟨rfl, rfl⟩
  clear HOf
  go_wp2
  generalize w.alloc (.cells #[.int .i64 5, .int .i64 bl, .int .i64 pg, .int .u8 fill, .slice A ln c, .bool one, .int .i64 nn] 68) = wx at *
  generalize w.heap.size = X at *
  have HSz : Hid (Row wx X 68 #[.int .i64 5, .int .i64 bl, .int .i64 pg, .int .u8 fill, .slice A ln c, .bool one, .int .i64 nn]) := HR.out
  have hq0 : wx.drew.cell? ⟨X, 1, none⟩ = some (.int .i64 bl) ∧ wx.drew.cell? ⟨X, 2, none⟩ = some (.int .i64 pg) ∧ wx.drew.cell? ⟨X, 6, none⟩ = some (.int .i64 nn) := ⟨HR.out.cell 1, HR.out.cell 2, HR.out.cell 6⟩
  have HBz : Hid (∀ a b c', Below wx.heap.size wx (wx.alloc (.cells #[a, b, c'] 101)).drew) := fun a b c' => by (repeat (first | (with_reducible refine Below.drew ?_) | (with_reducible refine below_drewN0 ?_ _) | ((with_reducible refine Below.setCell ?_ ?_ _); rotate_left; focus (first | omega | (simp; done) | (simp; omega) | (simp at *; omega))) | ((with_reducible refine Below.alloc ?_ ?_ _); rotate_left; focus (first | omega | (simp; done) | (simp; omega) | (simp at *; omega))) | (with_reducible exact Below.refl _ _)))
  have HPz : Hid (∀ a b c', PSt w0 (wx.alloc (.cells #[a, b, c'] 101)).drew W M Q F L P g v S n bad md m) := fun a b c' => HX.out.keep (Turns.of_below (HBz.out a b c') [])
  have HRz : Hid (∀ a b c', Row (wx.alloc (.cells #[a, b, c'] 101)).drew X 68 #[.int .i64 5, .int .i64 bl, .int .i64 pg, .int .u8 fill, .slice A ln c, .bool one, .int .i64 nn]) := fun a b c' => HSz.out.below (HBz.out a b c') HSz.out.lt
  have HYz : Hid (∀ a b c', Row (wx.alloc (.cells #[a, b, c'] 101)).drew wx.heap.size 101 #[a, b, c']) := fun a b c' => Row.fresh wx _ _
  have HQ2 : Hid (∀ a b c', (wx.alloc (.cells #[a, b, c'] 101)).drew.cell? ⟨X, 1, none⟩ = some (.int .i64 bl) ∧ (wx.alloc (.cells #[a, b, c'] 101)).drew.cell? ⟨X, 2, none⟩ = some (.int .i64 pg) ∧ (wx.alloc (.cells #[a, b, c'] 101)).drew.cell? ⟨X, 6, none⟩ = some (.int .i64 nn)) := fun a b c' => ⟨(HRz.out a b c').cell 1, (HRz.out a b c').cell 2, (HRz.out a b c').cell 6⟩
  clear HR c0 r0
  go_region_held_law (fun w' => w'.cell? ⟨X, 1, none⟩ = some (.int .i64 bl) ∧ w'.cell? ⟨X, 2, none⟩ = some (.int .i64 pg) ∧ w'.cell? ⟨X, 6, none⟩ = some (.int .i64 nn)) (first | exact hq0 | exact HQ2.out _ _ _)
    (first | (go_at_call 44; refine (HWd.out _).mono ?_; (rintro e w' ⟨rfl, rfl⟩)))
  all_goals
    have HP := Lib.hid (HPz.out (.int .i64 bl) (.int .i64 pg) (.int .i64 (s : Int)))
    have HRw := Lib.hid (HRz.out (.int .i64 bl) (.int .i64 pg) (.int .i64 (s : Int)))
    have HYw := Lib.hid (HYz.out (.int .i64 bl) (.int .i64 pg) (.int .i64 (s : Int)))
    clear HQ2 HYz HRz HPz HBz hq0 HSz HX
    generalize (wx.alloc (.cells #[.int .i64 bl, .int .i64 pg, .int .i64 (s : Int)] 101)).drew = wz at *
    generalize wx.heap.size = Y at *
    have r1 := HRw.out.cell 1
    have r2 := HRw.out.cell 2
    have r6 := HRw.out.cell 6
    have y0 := HYw.out.cell 0
    have y1 := HYw.out.cell 1
    have y2 := HYw.out.cell 2
    have c10 := HP.out.mem.cells.2.2.2.2.2.2.2.2.2
    simp only [List.getElem?_toArray, List.getElem?_cons_zero, List.getElem?_cons_succ] at r1 r2 r6 y0 y1 y2
  all_goals
    have hlk := HLk.out wz HP.out
    clear HLk
    go_wp2
    go_quiet (fail)
    have HP2 := Lib.hid (HP.out.drewN nq)
    have HR2 : Hid (Row (wz.drewN nq) X _ _) := HRw.out
    have HY2 : Hid (Row (wz.drewN nq) Y _ _) := HYw.out
    clear r1 r2 r6 y0 y1 y2 c10 hlk HP HRw HYw
    generalize wz.drewN nq = wq at *
    have k0 : ∀ t : Kept wq [], t.u.cell? ⟨W, 0, none⟩ = some (.pointer (some ⟨F, 0, none⟩)) := fun t => (HP2.out.keep t.h).mem.cells.1
    have k1 : ∀ t : Kept wq [], t.u.cell? ⟨X, 1, none⟩ = some (.int .i64 bl) := fun t => (t.h.row HR2.out (by simp)).cell 1
    have k2 : ∀ t : Kept wq [], t.u.cell? ⟨X, 2, none⟩ = some (.int .i64 pg) := fun t => (t.h.row HR2.out (by simp)).cell 2
    have k6 : ∀ t : Kept wq [], t.u.cell? ⟨X, 6, none⟩ = some (.int .i64 nn) := fun t => (t.h.row HR2.out (by simp)).cell 6
    go_wp2
    have HF1 := Lib.hid (HFl.out (wq.drewN 1) (HP2.out.drewN 1))
    have HXm := HP2.out.med.no_row HR2.out (by decide) (by decide) (by decide) (by decide)
    have HYm := HP2.out.med.no_row HY2.out (by decide) (by decide) (by decide) (by decide)
    clear HFl
    (refine region_kept ([]) [0, 1, 2, 3, 4, 5, 6, 7, 8, 9] [10] (by kernel_rfl) (by kernel_rfl) (fun _ _ _ _ _ h => h) ?_; simp only [List.filterMap_cons, List.getElem?_cons_zero, List.getElem?_cons_succ, List.filterMap_nil]; (repeat ((show wpQuiet _ _ _ _ (_ :: _) _); go_big_quiet_step (fail))); refine wpQuiet_nil ?_)
    clear k0 k1 k2 k6
    refine wpSeqS_last ?_
    go_wp2_with fail
    refine HF1.out.mono ?_
    rintro e w2 ⟨rfl, h2, ht2⟩
    have HP3 := Lib.hid h2
    have HY3 : Hid (Row w2 Y 101 #[.int .i64 bl, .int .i64 pg, .int .i64 s]) := ht2.row (show Row (wq.drewN 1) Y _ _ from HY2.out) HYm
    clear HF1 h2 ht2 HXm HYm
    have m1 : ∀ t : Kept w2 [], t.u.cell? ⟨W, 10, none⟩ = some (.map (some (g 16))) := fun t => (HP3.out.keep t.h).mem.cells.2.2.2.2.2.2.2.2.2
    have y0 : ∀ t : Kept w2 [], t.u.cell? ⟨Y, 0, none⟩ = some (.int .i64 bl) := fun t => (t.h.row HY3.out (by simp)).cell 0
    have y1 : ∀ t : Kept w2 [], t.u.cell? ⟨Y, 1, none⟩ = some (.int .i64 pg) := fun t => (t.h.row HY3.out (by simp)).cell 1
    have y2 : ∀ t : Kept w2 [], t.u.cell? ⟨Y, 2, none⟩ = some (.int .i64 s) := fun t => (t.h.row HY3.out (by simp)).cell 2
    go_wp2
    (refine region_kept ([]) [0, 1, 2, 3, 4] [5] (by kernel_rfl) (by kernel_rfl) (fun _ _ _ _ _ h => h) ?_; simp only [List.filterMap_cons, List.getElem?_cons_zero, List.getElem?_cons_succ, List.filterMap_nil]; (repeat ((show wpQuiet _ _ _ _ (_ :: _) _); go_big_quiet_step (fail))); refine wpQuiet_nil ?_)
    clear m1 y0 y1 y2
    obtain ⟨w4, hup, h4⟩ := HSt.out w2.drew (HP3.out.drewN 1)
    have HP4 := Lib.hid h4
    clear HSt h4
    refine wpSeqS_last ?_
    go_wp2
    go_ret
    exact ⟨rfl, ⟨_, _, _, _, _, HP4.out, HAf.out, HSame.out.1, HSame.out.2.1, HSame.out.2.2⟩⟩
end
end Go.Proofs.YtlidbkofjchnnaaDoor
