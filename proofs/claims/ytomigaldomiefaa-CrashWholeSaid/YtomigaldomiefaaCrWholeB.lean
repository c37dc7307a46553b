/- CrashWhole: its walk. -/
import Derived.Test.YtomigaldomiefaaCrWholeV
namespace Go.Proofs.Ytomigaldomiefaa
open Go.RowKit Go.Shelf Go.MapKept Go.ChangeMaps
attribute [local go_sem] Oper.semAt_some
attribute [local simp, local go_sem] wide_fn
set_option linter.unusedVariables false
set_option linter.unusedSimpArgs false

set_option maxRecDepth 100000 in
set_option maxHeartbeats 8000000 in
theorem whole_walk (n : Nat) (hn : 1 ≤ n ∧ n ≤ 40) (pl : Int) (A1 A2 : Option Addr) (c1 c2 : Nat) (its : List Ws) (hl : its.length ≤ 100) (o : List Nat) (ho : o.length = 2) (hob : ∀ u ∈ o, u < 256) (w : World) (hW : Writes w A1 its) (hd : Cells8 w A2 o) :
    Calls Try.prog 5 #[.int .i64 n, .slice A1 its.length c1, .int .i64 pl, .slice A2 2 c2] w fun e w' => e = .returned (.bool true) ∧ Below w.heap.size w w' := by
  obtain ⟨w1, hw1⟩ : ∃ w1, w1 = ((w.alloc (.cells #[.int .i64 pl] 3)).alloc (.cells #[.slice A2 2 c2] 22)).alloc (.cells #[.bool false] 4) := ⟨_, rfl⟩
  have HA : Hid (WholeAt w w1 pl (.slice A2 2 c2)) := by unfold Hid; rw [hw1]; exact wholeAt _ _ _
  have HW1 := Lib.hid hw1
  obtain ⟨Z1, hZ1⟩ : ∃ Z, Z = w.heap.size := ⟨_, rfl⟩
  obtain ⟨Z2, hZ2⟩ : ∃ Z, Z = w.heap.size + 1 := ⟨_, rfl⟩
  obtain ⟨R, hR⟩ : ∃ Z, Z = w.heap.size + 1 + 1 := ⟨_, rfl⟩
  have HZ := Lib.hid (And.intro hZ1 (And.intro hZ2 hR))
  have HR1 : Hid (Row w1 Z1 3 #[.int .i64 pl]) := by rw [hZ1]; exact HA.out.z1
  have HR2 : Hid (Row w1 Z2 22 #[.slice A2 2 c2]) := by rw [hZ2]; exact HA.out.z2
  have HR3 : Hid (Row w1 R 4 #[.bool false]) := by rw [hR]; exact HA.out.r
  obtain ⟨m, hm⟩ : ∃ m, m = its.length := ⟨_, rfl⟩
  have HM := Lib.hid hm
  rw [← hm] at hl ⊢
  have HW := Lib.hid hW
  have HD := Lib.hid hd
  have HO := Lib.hid (And.intro ho hob)
  have p1 : ¬ (n : Int) < 1 := by omega
  have p2 : ¬ (40 : Int) < n := by omega
  have p3 : ¬ (100 : Int) < m := by omega
  clear hw1 hZ1 hZ2 hR hm hW hd ho hob
  refine (callsIn_wide (n := 9)).1 (callsIn_of_wp_marks Try.func5 rfl trivial ?_ rfl)
  simp only [Try.ntmps5, List.size_toArray, List.length_cons, List.length_nil, Nat.reduceAdd, Nat.reduceSub, Array.replicate_succ, Array.replicate_zero, List.push_toArray, List.append_toArray, List.nil_append, List.cons_append]
  refine wpIn_wide.2 ?_
  go_wp2_with fail
  rw [← HW1.out, ← HZ.out.2.2, ← HZ.out.2.1, ← HZ.out.1]
  refine (known_any w1).mono ?_
  rintro e w2 ⟨rfl, hb⟩
  have HB2 : Hid (Below w.heap.size w w2) := HA.out.below.trans (hb.mono HA.out.below.size)
  have HS1 := Lib.hid (HR1.out.below hb HR1.out.lt)
  have HS2 := Lib.hid (HR2.out.below hb HR2.out.lt)
  have HS3 := Lib.hid (HR3.out.below hb HR3.out.lt)
  have d1 := HS2.out.cell 0
  simp only [List.getElem?_toArray, List.getElem?_cons_zero, List.getElem?_cons_succ] at d1
  have HNw := Lib.hid (New_yes n 2 (by omega) (by decide) w2)
  clear hb HA HW1 HR1 HR2 HR3
  go_wp2_with fail
  refine HNw.out.mono ?_
  rintro e w3 ⟨C, H, L, rfl, hc, hb⟩
  have HB3 := Lib.hid hb
  have HC3 := Lib.hid hc
  have HBw : Hid (Below w.heap.size w w3) := HB2.out.trans (hb.mono HB2.out.size)
  have HDu := Lib.hid (Durable_any hc A1 c1 its (by rw [← HM.out]; omega) (HW.out.keep (keep_below HBw.out)))
  rw [← HM.out] at HDu
  clear hb hc HNw d1
  go_wp2_with fail
  refine HDu.out.mono ?_
  rintro e w4 ⟨⟨v, rfl⟩, hc, ht⟩
  obtain ⟨D, hD⟩ : ∃ D, D = (cr0 n 2).durable (rightL n 2 its) := ⟨_, rfl⟩
  have HDe := Lib.hid hD
  replace hc : CrIs w4 w2.heap.size C H L (.slice none 0 0) (.slice none 0 0) D := by rw [hD]; exact hc
  have HC4 := Lib.hid hc
  have HB4 : Hid (Below w2.heap.size w2 w4) := ht.below HB3.out HB3.out.size (fun y hy => by
    have := hc.low
    simp only [List.mem_cons, List.not_mem_nil, or_false] at hy
    rcases hy with rfl | rfl
    · exact this.2.1
    · exact this.2.2)
  have HBw4 : Hid (Below w.heap.size w w4) := HB2.out.trans (HB4.out.mono HB2.out.size)
  have HT1 := Lib.hid (HS1.out.below HB4.out HS1.out.lt)
  have HT2 := Lib.hid (HS2.out.below HB4.out HS2.out.lt)
  have HT3 := Lib.hid (HS3.out.below HB4.out HS3.out.lt)
  obtain ⟨i1, ji, jz0, jz1, jz2⟩ := info_parts u8_info
  have hmk : (Instr.makeSlice 22 (.int .i64 2) (.int .i64 2)).run Try.prog w4 = .ok (.slice (some ⟨w4.heap.size, 0, none⟩) 2 2) (w4.alloc (.cells (madeCells #[.int .u8 0] 2) 5)) := run_make_row (P := Try.prog) 22 5 i1 _ Try.underlying22 ji jz0 jz1 rfl .i64 .i64 2 (by rw [jz2]; omega) (by omega) w4
  have HZc := Lib.hid (zeros_cells w4 2)
  clear ji jz0 jz1 jz2
  clear hD hc ht HDu HC3 HB3 HBw HS1 HS2 HS3
  obtain ⟨w5, hw5⟩ : ∃ w5, w5 = (w4.alloc (.cells (madeCells #[.int .u8 0] 2) 5)).alloc (.cells #[.slice (some ⟨w4.heap.size, 0, none⟩) 2 2] 22) := ⟨_, rfl⟩
  have HW5 := Lib.hid hw5
  obtain ⟨Y, hY⟩ : ∃ Y, Y = w4.heap.size + 1 := ⟨_, rfl⟩
  have HY := Lib.hid hY
  have HB5 : Hid (Below w4.heap.size w4 w5) := by unfold Hid; rw [hw5]; (repeat (first | (with_reducible refine Below.drew ?_) | (with_reducible refine below_drewN0 ?_ _) | ((with_reducible refine Below.setCell ?_ ?_ _); rotate_left; focus (first | omega | (simp; done) | (simp; omega) | (simp at *; omega))) | ((with_reducible refine Below.alloc ?_ ?_ _); rotate_left; focus (first | omega | (simp; done) | (simp; omega) | (simp at *; omega))) | (with_reducible exact Below.refl _ _)))
  have HR5 : Hid (Row w5 Y 22 #[.slice (some ⟨w4.heap.size, 0, none⟩) 2 2]) := by
    unfold Hid; rw [hw5, hY]
    have := Row.fresh (w4.alloc (.cells (madeCells #[.int .u8 0] 2) 5)) 22 #[.slice (some ⟨w4.heap.size, 0, none⟩) 2 2]
    rw [World.size_alloc] at this; exact this
  have HC5 : Hid (Cells8 w5 (some ⟨w4.heap.size, 0, none⟩) (hasOf pl (its.take 0))) := by unfold Hid; rw [hw5]; exact HZc.out.keep (keep_below ((Below.refl _ _).alloc (Nat.le_refl _) _))
  clear hw5 hY HZc
  go_wp2_with fail
  rw [← HY.out, ← HW5.out]
  clear hmk
  go_loopw [12] (fun i wr => ∃ k : Nat, i = .int .i64 k ∧ k ≤ m ∧ (∃ A c, Row wr Y 22 #[.slice A 2 c] ∧ Cells8 wr A (hasOf pl (its.take k))) ∧ Below w4.heap.size w4 wr) (fun i _ => m - (intOf i).toNat)
  case atStart => exact ⟨0, rfl, by omega, ⟨_, _, HR5.out, HC5.out⟩, HB5.out⟩
  case round =>
    obtain ⟨k, rfl, hk, ⟨A, c, hry, hcs⟩, hb⟩ := hrel
    have HRy := Lib.hid hry
    have HCs := Lib.hid hcs
    have HB := Lib.hid hb
    clear HR5 HC5
    by_cases hkm : k < m
    · obtain ⟨x, hx⟩ : ∃ x, its[k]? = some x := ⟨_, List.getElem?_eq_getElem (by rw [← HM.out]; exact hkm)⟩
      obtain ⟨⟨b, off, e1, hcell⟩, hA⟩ := HW.out.at0 k x hx
      subst e1
      have HBr : Hid (Below w.heap.size w wr) := HBw4.out.trans (hb.mono HBw4.out.size)
      have s1 := keep_below HBr.out _ _ (hcell 1 _ rfl)
      have s2 := keep_below HBr.out _ _ (hcell 2 _ rfl)
      have z1 := (HT1.out.below hb HT1.out.lt).cell 0
      have y1 := hry.frozen 0
      have y2 := hry.cell 0
      simp only [List.getElem?_toArray, List.getElem?_cons_zero, List.getElem?_cons_succ, Nat.add_zero] at s1 s2 z1 y2
      rw [← Nat.add_assoc] at s1 s2
      have HSt := Lib.hid (hasOf_take pl its k x hx)
      obtain ⟨xa, xs, xA, xc, xl⟩ := x
      simp only at s1 s2
      have HAx : Hid (Cells8 w xA xl) := hA.lies
      clear hry hcs hb hx hcell hA
      by_cases g1 : xs = pl
      · by_cases g2 : xl.length = 2
        · have HE : Hid (hasOf pl (its.take (k + 1)) = xl) := by rw [Hid, HSt.out, stepW, if_pos ⟨g1, g2⟩]
          subst g1
          rw [g2] at s2
          go_wp2_with fail
          refine wp_region_noPanic ?_
          go_quiet (fail)
          refine NoPanic.normal ?_
          clear z1
          have HB6 : Hid (Below w4.heap.size w4 ((wr.drewN nq).setCell ⟨Y, 0, none⟩ (.slice xA 2 xc))) := (below_drewN0 HB.out nq).setCell (p := ⟨Y, 0, none⟩) (by show w4.heap.size ≤ Y; rw [HY.out]; omega) _
          have HR6 : Hid (Row ((wr.drewN nq).setCell ⟨Y, 0, none⟩ (.slice xA 2 xc)) Y 22 #[.slice xA 2 xc]) := by
            have h1 : Row (wr.drewN nq) Y 22 #[.slice A 2 c] := HRy.out
            unfold Hid; simpa using h1.put 0 (.slice xA 2 xc)
          go_wp2
          go_roundw
          case rel => exact ⟨k + 1, by go_num, by omega, ⟨_, _, HR6.out, by rw [HE.out]; exact HAx.out.keep (keep_below (HBw4.out.trans (HB6.out.mono HBw4.out.size)))⟩, HB6.out⟩
          case measure => simp [intOf]; omega
        · have HE : Hid (hasOf pl (its.take (k + 1)) = hasOf pl (its.take k)) := by rw [Hid, HSt.out, stepW, if_neg (fun h => g2 h.2)]
          have g3 : ¬ (xl.length : Int) = 2 := by omega
          subst g1
          generalize xl.length = xn at *
          go_wp2_with fail
          refine wp_region_noPanic ?_
          go_quiet (fail)
          refine NoPanic.normal ?_
          clear s1 s2 z1 y1 y2
          go_wp2
          go_roundw
          case rel => exact ⟨k + 1, by go_num, by omega, ⟨A, c, HRy.out, by rw [HE.out]; exact HCs.out⟩, below_drewN0 HB.out nq⟩
          case measure => simp [intOf]; omega
      · have HE : Hid (hasOf pl (its.take (k + 1)) = hasOf pl (its.take k)) := by rw [Hid, HSt.out, stepW, if_neg (fun h => g1 h.1)]
        generalize xl.length = xn at *
        go_wp2_with fail
        refine wp_region_noPanic ?_
        go_quiet (fail)
        refine NoPanic.normal ?_
        clear s1 s2 z1 y1 y2
        go_wp2
        go_roundw
        case rel => exact ⟨k + 1, by go_num, by omega, ⟨A, c, HRy.out, by rw [HE.out]; exact HCs.out⟩, below_drewN0 HB.out nq⟩
        case measure => simp [intOf]; omega
    · obtain rfl : k = m := by omega
      have hall : its.take k = its := by rw [HM.out]; exact List.take_length
      rw [hall] at hcs
      have HCh := Lib.hid hcs
      have HVa := Lib.hid (whole_vals n its pl w2.heap.size C H L _ _ (wr.alloc (.cells #[.int .i64 0] 3)) (HDe.out ▸ (HC4.out.below (hb.alloc hb.size _))))
      have z1 := (HT1.out.below (hb.alloc hb.size (.cells #[.int .i64 0] 3)) HT1.out.lt).cell 0
      simp only [List.getElem?_toArray, List.getElem?_cons_zero, List.getElem?_cons_succ] at z1
      clear hry hcs hb HCs
      go_wp2_with fail
      refine HVa.out.mono ?_
      rintro e w7 ⟨Z, rfl, hZ, hv, hb7⟩
      clear HVa z1
      obtain ⟨us, hus⟩ : ∃ us, us = wholeL n pl its := ⟨_, rfl⟩
      rw [← hus] at hv
      have HUs := Lib.hid hus
      simp only [World.size_alloc] at hZ hv hb7
      obtain ⟨N, hN⟩ : ∃ N, N = wr.heap.size := ⟨_, rfl⟩
      have HN := Lib.hid hN
      have HB7 : Hid (Below wr.heap.size wr w7) := ((Below.refl wr.heap.size wr).alloc (Nat.le_refl _) _).trans (hb7.mono (by omega))
      have HRn : Hid (Row w7 N 3 #[.int .i64 0]) := by rw [hN]; exact (Row.fresh wr _ _).below hb7 (by omega)
      obtain ⟨Av, cv, hvl⟩ := valsAt_vl (T := [N]) hv (by simp; omega) (fun g hg cs hr => by rw [List.mem_singleton.1 hg] at hr; exact Row.ne_type hr HRn.out (by decide) rfl)
      have HSeq := Lib.hid (vals1_own 8 (by omega) Z cv Av us hv.1 w7 (Kp := KpC [N]) (fun _ _ h => KpC.of_below h) (fun h h' => KpC.trans h h') hvl)
      have HUm : Hid (∀ x ∈ us, textOf x = textOf (hasOf pl its)) := fun x hx => by
        rw [hus] at hx
        unfold wholeL at hx
        split at hx
        · rw [List.mem_singleton.1 hx]
        · cases hx
      have HNs : Hid (wr.heap.size ≤ N ∧ N < w7.heap.size) := ⟨by omega, HRn.out.lt⟩
      clear hv hvl hus hb7 hN hZ
      go_wp2_with fail
      rw [← HN.out]
      refine (wpIn_wide (n := 9)).1 ?_
      apply wpIn_range_ownA rfl (by omega) (gf := 59) (lb := #[.pointer (some ⟨Z, 0, none⟩)]) rfl trivial (enters_of Try.func59 (by kernel_rfl) rfl)
        (hseq := HSeq.out)
        (hKr := fun V => KpC.of_below (Below.refl _ _)) (hKt := fun h h' => KpC.trans h h') (hKb := fun V l r o' _ hl => KpC.put hl) (hb0 := Below.refl _ _) (hps := fun _ => rfl)
        (I := fun pre V => Row V N 3 #[.int .i64 pre.length] ∧ Below wr.heap.size wr V) (Ix := fun _ _ _ => False)
      case hI =>
        rintro s V V' row ⟨h1, h2⟩ hg hr
        exact ⟨Row.kept h1 hg (fun r e => (hr r e).2), h2.grown hg h2.size (fun r e => by have := (hr r e).1; have := HNs.out; omega)⟩
      case hIx => exact fun _ _ _ _ _ hs _ _ => hs
      case h0 => exact ⟨HRn.out, HB7.out⟩
      case hassign =>
        intro l pre x V hi _ _
        gi_wp2
        exact ⟨rfl, trivial⟩
      case hbody =>
        rintro l pre x V ⟨h1, h2⟩ hxm hlt
        have he := HUm.out x hxm
        have c1 := (HRy.out.below h2 HRy.out.lt).cell 0
        have c2 := h1.cell 0
        have f2 := h1.frozen 0
        simp only [List.getElem?_toArray, List.getElem?_cons_zero, List.getElem?_cons_succ] at c1 c2
        have kc : (convert 22 9 (.slice A 2 c)).run Try.prog V = .ok (.string (textOf (hasOf pl its))) V := by
          have := conv_text (c := c) (HCh.out.keep (keep_below h2))
          rw [hasOf_length] at this; exact this
        have hpl : pre.length ≤ 1 := by
          have h3 : us.length ≤ 1 := by
            rw [HUs.out]; unfold wholeL
            split <;> simp
          omega
        have HF : Hid (Row (V.setCell ⟨N, 0, none⟩ (.int .i64 ((pre.length : Int) + 1))) N 3 #[.int .i64 ((pre ++ [x]).length : Nat)]) := by
          have := h1.put 0 (.int .i64 ((pre.length : Int) + 1))
          unfold Hid; rw [List.length_append]; simpa using this
        have HT : Hid (Turns V (V.setCell ⟨N, 0, none⟩ (.int .i64 ((pre.length : Int) + 1))) [N]) := (Turns.refl V [N]).setCell (by simp) _
        have HBf : Hid (Below wr.heap.size wr (V.setCell ⟨N, 0, none⟩ (.int .i64 ((pre.length : Int) + 1)))) := h2.setCell (p := ⟨N, 0, none⟩) HNs.out.1 _
        rw [← he] at kc
        generalize pre.length = pn at *
        clear h1 h2 hxm hlt he
        gi_wp2
        exact ⟨(KeepsOthers.setCell _ _ _).from _, KpC.of_turns HT.out (fun y hy => hy), HF.out, HBf.out⟩
      case hstop =>
        rintro D c pre V _ _ h _
        exact h.elim
      case hdone =>
        rintro Dm ys V hDm rfl ⟨h1, h2⟩ hDf
        have HBV : Hid (Below w4.heap.size w4 V) := HB.out.trans (h2.mono HB.out.size)
        have HBwV : Hid (Below w.heap.size w V) := HBw4.out.trans (HBV.out.mono HBw4.out.size)
        have HCV : Hid (CrIs V w2.heap.size C H L (.slice none 0 0) (.slice none 0 0) D) := HC4.out.below HBV.out
        have HZ1 := Lib.hid (HT1.out.below HBV.out HT1.out.lt)
        have HZ2 := Lib.hid (HT2.out.below HBV.out HT2.out.lt)
        have HZ3 := Lib.hid (HT3.out.below HBV.out HT3.out.lt)
        have HYV := Lib.hid (HRy.out.below h2 HRy.out.lt)
        have HAo : Hid (Cells8 V A2 o) := HD.out.keep (keep_below HBwV.out)
        have HAh : Hid (Cells8 V A (hasOf pl its)) := HCh.out.keep (keep_below h2)
        have HNV := Lib.hid h1
        have HDf := Lib.hid hDf
        have hrd : RdOk V [] D.n 20 #[.pointer (some ⟨Z1, 0, none⟩), .pointer (some ⟨Z2, 0, none⟩)] (fun p => if (p : Int) = pl then o else []) :=
          whole_ok D.n Z1 Z2 c2 (by rw [HDe.out, (durable_same _ _).1]; show n ≤ _; omega) pl A2 o HO.out.2 [] V (fun U hU => ⟨(hU.row HZ1.out (by simp)).cell 0, by rw [HO.out.1]; exact (hU.row HZ2.out (by simp)).cell 0, HAo.out.keep fun a v h => hU.cell h (by simp)⟩)
        have hMy := May_any w2.heap.size C H L _ _ D [] _ _ _ V hrd HCV.out
        have hmb : D.may (fun p => if (p : Int) = pl then o else []) = (!decide (0 ≤ pl ∧ pl < (n : Int)) || (o == hasOf pl its)) := by rw [HDe.out]; exact whole_may n its pl o HO.out.1 HO.out.2
        rw [hmb] at hMy
        have HMy := Lib.hid hMy
        have hgl : D.groups.length = 0 := by rw [HDe.out, (durable_same _ _).2.2.1]; rfl
        have HGl := Lib.hid hgl
        have z1 := HZ1.out.cell 0
        have z5 := HNV.out.cell 0
        simp only [List.getElem?_toArray, List.getElem?_cons_zero, List.getElem?_cons_succ] at z1 z5
        have HSm : Hid (∀ u ∈ hasOf pl its, u < 256) := hasOf_small pl its (fun x hx => by
          obtain ⟨i, hi⟩ := List.mem_iff_getElem?.1 hx
          exact (HW.out.at0 i x hi).2.small)
        have HRD : Hid (R ≠ Dm ∧ w.heap.size ≤ Dm) := by
          have := HT3.out.lt; have := HB.out.size; have := HB7.out.size; have := HBw4.out.size
          refine ⟨?_, ?_⟩ <;> omega
        have HRb : Hid (w.heap.size ≤ R) := by have := HZ.out; unfold Hid; omega
        clear hrd hMy hmb hgl h1 h2 hDf HSeq HUm hall hkm
        by_cases hin : 0 ≤ pl ∧ pl < (n : Int)
        · have hdec : decide (0 ≤ pl ∧ pl < (n : Int)) = true := decide_eq_true hin
          have hys : ys.length = 1 := by rw [HUs.out]; unfold wholeL; rw [if_pos hin]; rfl
          rw [hdec] at HMy
          rw [hys] at z5 HNV
          obtain ⟨hin1, hin2⟩ := hin
          clear hdec hys HUs
          by_cases heq : o = hasOf pl its
          · rw [show (!true || (o == hasOf pl its)) = true by rw [heq]; simp] at HMy
            have HTe : Hid (textOf o = textOf (hasOf pl its)) := by unfold Hid; rw [heq]
            clear heq
            go_wp2_with fail
            refine HMy.out.mono ?_
            rintro e w9 ⟨rfl, hb9⟩
            clear HMy z1 z5
            have HB9 : Hid (Below w.heap.size w w9) := HBwV.out.trans (hb9.mono HBwV.out.size)
            have HR9 := Lib.hid (HZ3.out.below hb9 HZ3.out.lt)
            have y1 := (HNV.out.below hb9 HNV.out.lt).cell 0
            have y2 := (HZ2.out.below hb9 HZ2.out.lt).cell 0
            have y3 := (HYV.out.below hb9 HYV.out.lt).cell 0
            have y4 := HR9.out.cell 0
            have f4 := HR9.out.frozen 0
            simp only [List.getElem?_toArray, List.getElem?_cons_zero, List.getElem?_cons_succ] at y1 y2 y3 y4
            have k1 : (convert 22 9 (.slice A2 2 c2)).run Try.prog w9 = .ok (.string (textOf o)) w9 := by
              have := conv_text (c := c2) (HAo.out.keep (keep_below hb9))
              rw [HO.out.1] at this; exact this
            have k2 : (convert 22 9 (.slice A 2 c)).run Try.prog w9 = .ok (.string (textOf (hasOf pl its))) w9 := by
              have := conv_text (c := c) (HAh.out.keep (keep_below hb9))
              rw [hasOf_length] at this; exact this
            have HLv := Lib.hid (Levels_any (HCV.out.below hb9))
            rw [HGl.out] at HLv
            have HD9 : Hid (w9.heap[Dm]? = some (.deferred (some []))) := (hb9.block Dm (Array.getElem?_eq_some_iff.1 HDf.out).1).trans HDf.out
            clear hb9
            rw [HTe.out] at k1
            go_wp2_with fail
            refine HLv.out.mono ?_
            rintro e w10 ⟨rfl, rfl⟩
            clear HLv k1 k2 y1 y2 y3
            have HF : Hid (Row (w9.setCell ⟨R, 0, none⟩ (.bool true)) R 4 #[.bool true]) := by unfold Hid; simpa using HR9.out.put 0 (.bool true)
            have HBf : Hid (Below w.heap.size w (w9.setCell ⟨R, 0, none⟩ (.bool true))) := HB9.out.setCell (p := ⟨R, 0, none⟩) HRb.out _
            have HK : Hid ((w9.setCell ⟨R, 0, none⟩ (.bool true)).heap[Dm]? = some (.deferred (some []))) := (KeepsOthers.setCell _ _ _).same _ _ HD9.out rfl
            go_wp2
            refine ⟨by simp, .inl ⟨_, _, rfl, run_takeDeferred HK.out, ?_⟩⟩
            refine ⟨_, whole_results _ _ R (.bool true) rfl ?_, rfl, HBf.out.trans (belowK_b (w := w) (Nat.le_refl _) _ Dm _ _ HRD.out.2 HK.out rfl rfl)⟩
            exact Row.cell (show Row _ R 4 #[.bool true] from (World.putObj_heap_other HRD.out.1).trans HF.out) 0
          · rw [show (!true || (o == hasOf pl its)) = false by simpa using heq] at HMy
            have HTe : Hid (((textOf o).toList == (textOf (hasOf pl its)).toList) = false) := text_ne (fun h => heq (textOf_inj HO.out.2 HSm.out h))
            clear heq
            go_wp2_with fail
            refine HMy.out.mono ?_
            rintro e w9 ⟨rfl, hb9⟩
            clear HMy z1 z5
            have HB9 : Hid (Below w.heap.size w w9) := HBwV.out.trans (hb9.mono HBwV.out.size)
            have HR9 := Lib.hid (HZ3.out.below hb9 HZ3.out.lt)
            have y1 := (HNV.out.below hb9 HNV.out.lt).cell 0
            have y2 := (HZ2.out.below hb9 HZ2.out.lt).cell 0
            have y3 := (HYV.out.below hb9 HYV.out.lt).cell 0
            have y4 := HR9.out.cell 0
            have f4 := HR9.out.frozen 0
            simp only [List.getElem?_toArray, List.getElem?_cons_zero, List.getElem?_cons_succ] at y1 y2 y3 y4
            have k1 : (convert 22 9 (.slice A2 2 c2)).run Try.prog w9 = .ok (.string (textOf o)) w9 := by
              have := conv_text (c := c2) (HAo.out.keep (keep_below hb9))
              rw [HO.out.1] at this; exact this
            have k2 : (convert 22 9 (.slice A 2 c)).run Try.prog w9 = .ok (.string (textOf (hasOf pl its))) w9 := by
              have := conv_text (c := c) (HAh.out.keep (keep_below hb9))
              rw [hasOf_length] at this; exact this
            have HLv := Lib.hid (Levels_any (HCV.out.below hb9))
            rw [HGl.out] at HLv
            have HD9 : Hid (w9.heap[Dm]? = some (.deferred (some []))) := (hb9.block Dm (Array.getElem?_eq_some_iff.1 HDf.out).1).trans HDf.out
            clear hb9
            have he := HTe.out
            go_wp2_with fail
            clear he
            refine HLv.out.mono ?_
            rintro e w10 ⟨rfl, rfl⟩
            clear HLv k1 k2 y1 y2 y3
            have HF : Hid (Row (w9.setCell ⟨R, 0, none⟩ (.bool true)) R 4 #[.bool true]) := by unfold Hid; simpa using HR9.out.put 0 (.bool true)
            have HBf : Hid (Below w.heap.size w (w9.setCell ⟨R, 0, none⟩ (.bool true))) := HB9.out.setCell (p := ⟨R, 0, none⟩) HRb.out _
            have HK : Hid ((w9.setCell ⟨R, 0, none⟩ (.bool true)).heap[Dm]? = some (.deferred (some []))) := (KeepsOthers.setCell _ _ _).same _ _ HD9.out rfl
            go_wp2
            refine ⟨by simp, .inl ⟨_, _, rfl, run_takeDeferred HK.out, ?_⟩⟩
            refine ⟨_, whole_results _ _ R (.bool true) rfl ?_, rfl, HBf.out.trans (belowK_b (w := w) (Nat.le_refl _) _ Dm _ _ HRD.out.2 HK.out rfl rfl)⟩
            exact Row.cell (show Row _ R 4 #[.bool true] from (World.putObj_heap_other HRD.out.1).trans HF.out) 0
        · have hdec : decide (0 ≤ pl ∧ pl < (n : Int)) = false := decide_eq_false hin
          have hys : ys.length = 0 := by rw [HUs.out]; unfold wholeL; rw [if_neg hin]; rfl
          rw [hdec, show (!false || (o == hasOf pl its)) = true from rfl] at HMy
          rw [hys] at z5 HNV
          clear hdec hys HUs
          by_cases hin1 : pl < 0
          · clear hin
            go_wp2_with fail
            refine HMy.out.mono ?_
            rintro e w9 ⟨rfl, hb9⟩
            clear HMy z1 z5
            have HB9 : Hid (Below w.heap.size w w9) := HBwV.out.trans (hb9.mono HBwV.out.size)
            have HR9 := Lib.hid (HZ3.out.below hb9 HZ3.out.lt)
            have y1 := (HNV.out.below hb9 HNV.out.lt).cell 0
            have y2 := (HZ2.out.below hb9 HZ2.out.lt).cell 0
            have y3 := (HYV.out.below hb9 HYV.out.lt).cell 0
            have y4 := HR9.out.cell 0
            have f4 := HR9.out.frozen 0
            simp only [List.getElem?_toArray, List.getElem?_cons_zero, List.getElem?_cons_succ] at y1 y2 y3 y4
            have k1 : (convert 22 9 (.slice A2 2 c2)).run Try.prog w9 = .ok (.string (textOf o)) w9 := by
              have := conv_text (c := c2) (HAo.out.keep (keep_below hb9))
              rw [HO.out.1] at this; exact this
            have k2 : (convert 22 9 (.slice A 2 c)).run Try.prog w9 = .ok (.string (textOf (hasOf pl its))) w9 := by
              have := conv_text (c := c) (HAh.out.keep (keep_below hb9))
              rw [hasOf_length] at this; exact this
            have HLv := Lib.hid (Levels_any (HCV.out.below hb9))
            rw [HGl.out] at HLv
            have HD9 : Hid (w9.heap[Dm]? = some (.deferred (some []))) := (hb9.block Dm (Array.getElem?_eq_some_iff.1 HDf.out).1).trans HDf.out
            clear hb9
            go_wp2_with fail
            refine HLv.out.mono ?_
            rintro e w10 ⟨rfl, rfl⟩
            clear HLv k1 k2 y1 y2 y3
            have HF : Hid (Row (w9.setCell ⟨R, 0, none⟩ (.bool true)) R 4 #[.bool true]) := by unfold Hid; simpa using HR9.out.put 0 (.bool true)
            have HBf : Hid (Below w.heap.size w (w9.setCell ⟨R, 0, none⟩ (.bool true))) := HB9.out.setCell (p := ⟨R, 0, none⟩) HRb.out _
            have HK : Hid ((w9.setCell ⟨R, 0, none⟩ (.bool true)).heap[Dm]? = some (.deferred (some []))) := (KeepsOthers.setCell _ _ _).same _ _ HD9.out rfl
            go_wp2
            refine ⟨by simp, .inl ⟨_, _, rfl, run_takeDeferred HK.out, ?_⟩⟩
            refine ⟨_, whole_results _ _ R (.bool true) rfl ?_, rfl, HBf.out.trans (belowK_b (w := w) (Nat.le_refl _) _ Dm _ _ HRD.out.2 HK.out rfl rfl)⟩
            exact Row.cell (show Row _ R 4 #[.bool true] from (World.putObj_heap_other HRD.out.1).trans HF.out) 0
          · have hin2 : ¬ pl < (n : Int) := by omega
            clear hin
            go_wp2_with fail
            refine HMy.out.mono ?_
            rintro e w9 ⟨rfl, hb9⟩
            clear HMy z1 z5
            have HB9 : Hid (Below w.heap.size w w9) := HBwV.out.trans (hb9.mono HBwV.out.size)
            have HR9 := Lib.hid (HZ3.out.below hb9 HZ3.out.lt)
            have y1 := (HNV.out.below hb9 HNV.out.lt).cell 0
            have y2 := (HZ2.out.below hb9 HZ2.out.lt).cell 0
            have y3 := (HYV.out.below hb9 HYV.out.lt).cell 0
            have y4 := HR9.out.cell 0
            have f4 := HR9.out.frozen 0
            simp only [List.getElem?_toArray, List.getElem?_cons_zero, List.getElem?_cons_succ] at y1 y2 y3 y4
            have k1 : (convert 22 9 (.slice A2 2 c2)).run Try.prog w9 = .ok (.string (textOf o)) w9 := by
              have := conv_text (c := c2) (HAo.out.keep (keep_below hb9))
              rw [HO.out.1] at this; exact this
            have k2 : (convert 22 9 (.slice A 2 c)).run Try.prog w9 = .ok (.string (textOf (hasOf pl its))) w9 := by
              have := conv_text (c := c) (HAh.out.keep (keep_below hb9))
              rw [hasOf_length] at this; exact this
            have HLv := Lib.hid (Levels_any (HCV.out.below hb9))
            rw [HGl.out] at HLv
            have HD9 : Hid (w9.heap[Dm]? = some (.deferred (some []))) := (hb9.block Dm (Array.getElem?_eq_some_iff.1 HDf.out).1).trans HDf.out
            clear hb9
            go_wp2_with fail
            refine HLv.out.mono ?_
            rintro e w10 ⟨rfl, rfl⟩
            clear HLv k1 k2 y1 y2 y3
            have HF : Hid (Row (w9.setCell ⟨R, 0, none⟩ (.bool true)) R 4 #[.bool true]) := by unfold Hid; simpa using HR9.out.put 0 (.bool true)
            have HBf : Hid (Below w.heap.size w (w9.setCell ⟨R, 0, none⟩ (.bool true))) := HB9.out.setCell (p := ⟨R, 0, none⟩) HRb.out _
            have HK : Hid ((w9.setCell ⟨R, 0, none⟩ (.bool true)).heap[Dm]? = some (.deferred (some []))) := (KeepsOthers.setCell _ _ _).same _ _ HD9.out rfl
            go_wp2
            refine ⟨by simp, .inl ⟨_, _, rfl, run_takeDeferred HK.out, ?_⟩⟩
            refine ⟨_, whole_results _ _ R (.bool true) rfl ?_, rfl, HBf.out.trans (belowK_b (w := w) (Nat.le_refl _) _ Dm _ _ HRD.out.2 HK.out rfl rfl)⟩
            exact Row.cell (show Row _ R 4 #[.bool true] from (World.putObj_heap_other HRD.out.1).trans HF.out) 0
end Go.Proofs.Ytomigaldomiefaa
