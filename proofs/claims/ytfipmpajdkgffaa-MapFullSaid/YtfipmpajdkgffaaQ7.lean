/- What follows is laid together from several texts of mine, in their order. -/
import Derived.Test.YtfipmpajdkgffaaQ6

namespace Go.Proofs.Ytfipmpajdkgffaa
open Go.RowKit Go.MapKept Go.ChangeMaps
attribute [local go_sem] Oper.semAt_some
attribute [local simp, local go_sem] wide_fn
set_option linter.unusedVariables false
set_option linter.unusedSimpArgs false
set_option maxRecDepth 100000 in
set_option maxHeartbeats 4000000 in
theorem full_in (a c r : Nat) (ha : 1 ≤ a ∧ a ≤ 2000) (hc : 1 ≤ c ∧ c ≤ 8) (hr : r ≤ 10) (A : Option Addr) (n cap : Nat) (f : Nat → Nat → Int) (A2 : Option Addr) (n2 cap2 : Nat) (f2 : Nat → Nat → Int) (W : World) (hA : Acts W A n 4 f) (hn : n ≤ 200) (hcap : n ≤ cap) (hA2 : Acts W A2 n2 4 f2) (hn2 : n2 ≤ 200) (hcap2 : n2 ≤ cap2) :
    Calls Try.prog 6 #[.int .i64 a, .int .i64 c, .slice A n cap, .int .i64 r, .slice A2 n2 cap2] W fun e w' => e = .returned (.bool true) ∧ Below W.heap.size W w' := by
  have HK := Lib.hid (known_any W)
  have HBe : Hid (∀ u, Calls Try.prog 9 #[.int .i64 a, .int .i64 16, .int .i64 c] u fun e w' => ∃ Wb Mb Sb Hb T, e = .returned (.pointer (some ⟨Wb, 0, none⟩)) ∧ WdIs w' u.heap.size Wb Mb Sb Hb T [] (Sm.new a 16 c) sh0 (fun _ => 0) ∧ Below u.heap.size u w') := fun u => begun_any u a 16 c ⟨ha.1, by omega⟩ (by decide) ⟨hc.1, by omega⟩
  have HAc := Lib.hid hA
  have HAc2 := Lib.hid hA2
  clear hA hA2
  obtain ⟨ha1, ha2⟩ := ha
  obtain ⟨hc1, hc2⟩ := hc
  go_enter Try.func6, Try.ntmps6
  go_wp2_with fail
  refine HK.out.mono ?_
  rintro e w1 ⟨rfl, hb1'⟩
  have HB1 := Lib.hid hb1'
  clear hb1' HK
  go_wp2_with fail
  refine (HBe.out w1).mono ?_
  rintro e w2 ⟨Wb, Mb, Sb, Hb, T, rfl, hi, hb2'⟩
  have HW2 : Hid (Wst w1.heap.size w2 Wb Sb Hb a 16 c 0 0) := ⟨Mb, T, [], Sm.new a 16 c, sh0, fun _ => 0, hi, ⟨rfl, rfl, rfl⟩, rfl, by simp [sh0], by simp [Sm.new]⟩
  have HB3 : Hid (Below W.heap.size W w2) := HB1.out.trans (hb2'.mono HB1.out.size)
  have HBz := Lib.hid HB1.out.size
  clear hi hb2' HBe
  go_wp2
  go_loopw [12] (fun v wr => ∃ k : Nat, v = .int .i64 k ∧ k ≤ n ∧ Wst w1.heap.size wr Wb Sb Hb a 16 c (k * k + k) (2 * k) ∧ Below W.heap.size W wr) (fun v _ => n - (intOf v).toNat)
  case atStart => exact ⟨0, rfl, by omega, HW2.out, HB3.out⟩
  case round =>
    obtain ⟨k, rfl, hk, hw, hb⟩ := hrel
    have HW := Lib.hid hw
    have HB := Lib.hid hb
    clear hw hb HW2 HB3
    by_cases hkn : k < n
    · have hkk : k * k ≤ 39601 := Nat.mul_le_mul (show k ≤ 199 by omega) (show k ≤ 199 by omega)
      obtain ⟨bb, off, rfl⟩ := HAc.out.addr (show 0 < n by omega)
      have y0 := keep_below HB.out _ _ (HAc.out.cells k 0 hkn (by omega))
      have y1 := keep_below HB.out _ _ (HAc.out.cells k 1 hkn (by omega))
      have y2 := keep_below HB.out _ _ (HAc.out.cells k 2 hkn (by omega))
      have y3 := keep_below HB.out _ _ (HAc.out.cells k 3 hkn (by omega))
      rw [Nat.add_zero] at y0
      rw [← Nat.add_assoc] at y1 y2 y3
      have HSt := Lib.hid (step_any wr w1.heap.size Wb Sb Hb a 16 c (k * k + k) (2 * k) HW.out (by omega) (by omega) ⟨f k 0, f k 1, f k 2, f k 3⟩)
      generalize f k 0 = f0 at *
      generalize f k 1 = f1 at *
      generalize f k 2 = f2 at *
      generalize f k 3 = f3 at *
      clear hkk
      go_wp2_with fail
      refine HSt.out.mono ?_
      rintro e w4 ⟨rfl, hw4, hb4⟩
      have HW4 : Hid (Wst w1.heap.size w4 Wb Sb Hb a 16 c ((k + 1) * (k + 1) + (k + 1)) (2 * (k + 1))) := hw4.mono (by rw [Nat.add_mul, Nat.mul_add]; omega) (by omega)
      have HB4 : Hid (Below W.heap.size W w4) := HB.out.trans (hb4.mono HBz.out)
      clear hw4 hb4 y0 y1 y2 y3 HSt
      go_wp2
      go_roundw
      case rel => exact ⟨k + 1, by go_num, by omega, HW4.out, HB4.out⟩
      case measure => simp [intOf]; omega
    · obtain rfl : k = n := by omega
      have HW4 : Hid (Wst w1.heap.size wr Wb Sb Hb a 16 c 40200 400) := HW.out.mono (by have := Nat.mul_le_mul hn hn; omega) (by omega)
      obtain ⟨⟨v2, hv2⟩, hf2, hs3, hw5, hBS⟩ := HW4.out.wsf r (by omega)
      have HW5 := Lib.hid hw5
      have HB5 : Hid (Below W.heap.size W (wr.setCell ⟨Sb, 2, none⟩ (.int .i64 r))) := HB.out.setCell (Nat.le_trans HBz.out hBS) _
      clear HW HW4 hw5
      go_wp2
      clear hv2 hf2 hs3
      go_loopw [13] (fun v wr => ∃ k : Nat, v = .int .i64 k ∧ k ≤ n2 ∧ Wsf w1.heap.size wr Wb Sb Hb a 16 c (40200 + k) (400 + k) ∧ Below W.heap.size W wr) (fun v _ => n2 - (intOf v).toNat)
      case atStart => exact ⟨0, rfl, by omega, HW5.out, HB5.out⟩
      case round =>
        obtain ⟨k, rfl, hk, hw, hb⟩ := hrel
        have HW := Lib.hid hw
        have HBr := Lib.hid hb
        clear hw hb HW5 HB5
        by_cases hkn : k < n2
        · obtain ⟨bb, off, rfl⟩ := HAc2.out.addr (show 0 < n2 by omega)
          have y0 := keep_below HBr.out _ _ (HAc2.out.cells k 0 hkn (by omega))
          have y1 := keep_below HBr.out _ _ (HAc2.out.cells k 1 hkn (by omega))
          have y2 := keep_below HBr.out _ _ (HAc2.out.cells k 2 hkn (by omega))
          have y3 := keep_below HBr.out _ _ (HAc2.out.cells k 3 hkn (by omega))
          rw [Nat.add_zero] at y0
          rw [← Nat.add_assoc] at y1 y2 y3
          generalize f2 k 0 = f0 at *
          generalize f2 k 1 = sc at *
          generalize f2 k 2 = pb at *
          generalize f2 k 3 = pp at *
          obtain ⟨w5, hw5⟩ : ∃ w5, w5 = wr.alloc (.cells #[.int .i64 f0, .int .i64 sc, .int .i64 pb, .int .i64 pp] 30) := ⟨_, rfl⟩
          have HB5 : Hid (Below wr.heap.size wr w5) := by unfold Hid; rw [hw5]; exact (Below.refl _ _).alloc (Nat.le_refl _) _
          have HBW5 : Hid (Below W.heap.size W w5) := HBr.out.trans (HB5.out.mono HBr.out.size)
          obtain ⟨Mb, T, F, S, sh, hs, hi, hss, hlp, hcp⟩ := HW.out
          have HD5 := Lib.hid (hi.below HB5.out)
          have HSS := Lib.hid hss
          have HLp := Lib.hid hlp
          have HCp := Lib.hid hcp
          have HXT : Hid (wr.heap.size ∉ T ∧ wr.heap.size ≠ Hb) := ⟨fun hm => by
            obtain ⟨_, _, _, _, h1⟩ := hi.sm
            have := h1.lt _ (.inl hm); omega, by have := hi.has.lt; omega⟩
          clear hi hss hlp hcp
          have HX : Hid (Row w5 wr.heap.size 30 #[.int .i64 f0, .int .i64 sc, .int .i64 pb, .int .i64 pp]) := by unfold Hid; rw [hw5]; exact Row.fresh _ _ _
          have HWn : Hid (Wsf w1.heap.size w5 Wb Sb Hb a 16 c (40200 + (k + 1)) (400 + (k + 1))) := by
            have := HLp.out
            have := HCp.out
            exact ⟨Mb, T, F, S, sh, hs, HD5.out, HSS.out, by omega, by omega⟩
          have HRi : Hid (∀ u, Calls Try.prog 10 #[.agg #[.int .i64 pb, .int .i64 pp]] u fun e w' => e = .returned (.bool (rightB pb pp)) ∧ Below u.heap.size u w') := fun u => lright_any pb pp u
          have x1 := HX.out.cell 1
          have x2 := HX.out.cell 2
          have x3 := HX.out.cell 3
          simp only [List.getElem?_toArray, List.getElem?_cons_zero, List.getElem?_cons_succ] at x1 x2 x3
          rw [hw5] at x1 x2 x3
          have HW5e := Lib.hid hw5
          clear hw5
          by_cases i0 : sc < 0
          · go_wp2
            go_roundw
            case rel => exact ⟨k + 1, by go_num, by omega, by rw [← HW5e.out]; exact HWn.out, by rw [← HW5e.out]; exact HBW5.out⟩
            case measure => simp [intOf]; omega
          · by_cases i1 : (a : Int) ≤ sc
            · go_wp2
              go_roundw
              case rel => exact ⟨k + 1, by go_num, by omega, by rw [← HW5e.out]; exact HWn.out, by rw [← HW5e.out]; exact HBW5.out⟩
              case measure => simp [intOf]; omega
            · go_wp2_with fail
              rw [← HW5e.out]
              refine (HRi.out _).mono ?_
              rintro e w6 ⟨rfl, hb6⟩
              have HB6 : Hid (Below W.heap.size W w6) := HBW5.out.trans (hb6.mono HBW5.out.size)
              have HD := Lib.hid (HD5.out.below hb6)
              have HWn6 := Lib.hid (HWn.out.below hb6)
              have HX6 := Lib.hid (HX.out.below hb6 HX.out.lt)
              clear hb6 x1 x2 x3 HRi HWn HX HW HD5
              cases hrb : rightB pb pp with
              | false =>
                go_wp2
                go_roundw
                case rel => exact ⟨k + 1, by go_num, by omega, HWn6.out, HB6.out⟩
                case measure => simp [intOf]; omega
              | true =>
                have hr0 := of_decide_eq_true hrb
                generalize wr.heap.size = X at *
                obtain ⟨s, hsn⟩ : ∃ s : Nat, sc = s := ⟨sc.toNat, by omega⟩
                obtain ⟨b, hbn⟩ : ∃ b : Nat, pb = b := ⟨pb.toNat, by omega⟩
                obtain ⟨p, hpn⟩ : ∃ p : Nat, pp = p := ⟨pp.toNat, by omega⟩
                have HS : Hid (Calls Try.prog 11 #[.pointer (some ⟨Mb, 0, none⟩), .int .i64 sc, .agg #[.int .i64 pb, .int .i64 pp]] w6.drew fun e w' => FSetP w6.drew w1.heap.size Wb Mb Sb Hb T F S sh hs s (b * 256 + p + 1) e w' ∧ Turns w6.drew w' T) := by
                  rw [hsn, hbn, hpn]
                  exact full_set (HD.out.below (below_drewN0 (Below.refl _ _) 1)) s b p (by have := HSS.out.1; omega) (by omega) (by omega) (by have := HLp.out; omega)
                have HSn := Lib.hid hsn
                have HR0 : Hid (0 ≤ sc ∧ sc < a) := by unfold Hid; omega
                have HNv : Hid (numV (b * 256 + p + 1) = .agg #[.int .i64 pb, .int .i64 pp]) := by
                  unfold Hid numV
                  rw [hbn, hpn]
                  rw [if_neg (by omega), if_neg (by omega), show (b * 256 + p + 1 - 1) / 256 = b by omega, show (b * 256 + p + 1 - 1) % 256 = p by omega]
                have HVl : Hid (b * 256 + p + 1 ≤ 262144) := by unfold Hid; omega
                clear hsn hbn hpn hr0 hrb
                go_wp2
                have k1 : ∀ t : Kept w6 T, t.u.cell? ⟨Wb, 4, none⟩ = some (.pointer (some ⟨Mb, 0, none⟩)) := fun t => (t.h.row HD.out.row HD.out.sepW.1).cell 4
                have k2 : ∀ t : Kept w6 T, t.u.cell? ⟨X, 1, none⟩ = some (.int .i64 sc) := fun t => (t.h.row HX6.out HXT.out.1).cell 1
                have k3 : ∀ t : Kept w6 T, t.u.cell? ⟨X, 2, none⟩ = some (.int .i64 pb) := fun t => (t.h.row HX6.out HXT.out.1).cell 2
                have k4 : ∀ t : Kept w6 T, t.u.cell? ⟨X, 3, none⟩ = some (.int .i64 pp) := fun t => (t.h.row HX6.out HXT.out.1).cell 3
                (refine region_kept (T) [0, 1, 2, 3, 4, 5, 6, 7] [8, 9] (by kernel_rfl) (by kernel_rfl) (fun _ _ _ _ _ h => h) ?_; simp only [List.filterMap_cons, List.getElem?_cons_zero, List.getElem?_cons_succ, List.filterMap_nil]; (repeat ((show wpQuiet _ _ _ _ (_ :: _) _); go_big_quiet_step (fail))); refine wpQuiet_nil ?_)
                clear k1 k2 k3 k4
                refine wpSeqS_step ?_
                go_wp2_with fail
                refine HS.out.mono ?_
                rintro e w7 ⟨hp7, ht7⟩
                have HT7 : Hid (Turns w6 w7 T) := ((Turns.refl w6 T).drew).trans ht7 (fun q hq => .inl hq)
                have HB7 : Hid (Below W.heap.size W w7) := HT7.out.below HB6.out HB6.out.size (fun q hq => Nat.le_trans HBz.out (HD.out.low.2.2 q hq))
                clear ht7 HS
                rcases hp7 with ⟨rfl, S2, sh2, hto, hset⟩ | ⟨rfl, T2, F2, S2, sh2, hi2, hss2, hl2, hc2⟩
                · have HTo := Lib.hid hto
                  have HSe : Hid ((S2.sectors = S.sectors ∧ S2.page = S.page ∧ S2.held = S.held) ∧ sh2.L.length ≤ sh.L.length + 1 ∧ S2.cnt ≤ S.cnt + 1) := ⟨⟨hset.sectors, hset.page, hset.held⟩, hset.puts.2, hset.cnt⟩
                  have HPw := Lib.hid (HD.out.pw.sets (s := s) (v := b * 256 + p + 1) (by have := HR0.out; have := HSn.out; have := HSS.out.1; omega) HVl.out hset)
                  have HX7 := Lib.hid (HT7.out.row HX6.out HXT.out.1)
                  have HR7 := Lib.hid (HT7.out.row HD.out.row HD.out.sepW.1)
                  have HHa : Hid (HasIs w7 Hb hs) := HD.out.has.turns HT7.out HD.out.sepH.1
                  clear hto hset
                  go_wp2_with fail
                  refine outQ_normal HT7.out ?_
                  refine wpSeqS_last ?_
                  go_wp2
                  have k1 : ∀ t : Kept w7 [], t.u.cell? ⟨Wb, 5, none⟩ = some (.map (some Hb)) := fun t => (t.h.row HR7.out (by simp)).cell 5
                  have k2 : ∀ t : Kept w7 [], t.u.cell? ⟨X, 1, none⟩ = some (.int .i64 sc) := fun t => (t.h.row HX7.out (by simp)).cell 1
                  have k3 : ∀ t : Kept w7 [], t.u.cell? ⟨X, 2, none⟩ = some (.int .i64 pb) := fun t => (t.h.row HX7.out (by simp)).cell 2
                  have k4 : ∀ t : Kept w7 [], t.u.cell? ⟨X, 3, none⟩ = some (.int .i64 pp) := fun t => (t.h.row HX7.out (by simp)).cell 3
                  (refine region_kept ([]) [0, 1, 2, 3, 4, 5, 6, 7] [8] (by kernel_rfl) (by kernel_rfl) (fun _ _ _ _ _ h => h) ?_; simp only [List.filterMap_cons, List.getElem?_cons_zero, List.getElem?_cons_succ, List.filterMap_nil]; (repeat ((show wpQuiet _ _ _ _ (_ :: _) _); go_big_quiet_step (fail))); refine wpQuiet_nil ?_)
                  clear k1 k2 k3 k4
                  refine wpSeqS_last ?_
                  obtain ⟨w8, hup, hh8, ht8⟩ := (HHa.out.turns ((Turns.refl w7 []).drew) (by simp)).set s (b * 256 + p + 1) (by have := HR0.out; have := HSn.out; omega) (by omega)
                  rw [HNv.out, ← HSn.out] at hup
                  obtain ⟨T2, F2, hd8, _⟩ := (HD.out.below (below_drewN0 (Below.refl _ _) 1)).update HTo.out HSe.out.1.1 HSe.out.1.2.1 HSe.out.1.2.2 (((Turns.refl w7 [Hb]).drew).trans ht8 (fun q hq => .inl hq)) hh8 HPw.out
                  have HW8 : Hid (Wsf w1.heap.size w8 Wb Sb Hb a 16 c (40200 + (k + 1)) (400 + (k + 1))) := ⟨Mb, T2, F2, S2, sh2, _, hd8, ⟨HSe.out.1.1.trans HSS.out.1, HSe.out.1.2.1.trans HSS.out.2.1, HSe.out.1.2.2.trans HSS.out.2.2⟩, by have := HSe.out.2.1; have := HLp.out; omega, by have := HSe.out.2.2; have := HCp.out; omega⟩
                  have HB8 : Hid (Below W.heap.size W w8) := (((Turns.refl w7 [Hb]).drew).trans ht8 (fun q hq => .inl hq)).below HB7.out HB7.out.size (fun q hq => by rw [List.mem_singleton.1 hq]; exact Nat.le_trans HBz.out HD.out.low.2.1)
                  clear hd8 hh8 ht8
                  go_wp2
                  go_roundw
                  case rel => exact ⟨k + 1, by go_num, by omega, HW8.out, HB8.out⟩
                  case measure => simp [intOf]; omega
                · have HW7 : Hid (Wsf w1.heap.size w7 Wb Sb Hb a 16 c (40200 + (k + 1)) (400 + (k + 1))) := ⟨Mb, T2, F2, S2, sh2, hs, hi2, ⟨hss2.1.trans HSS.out.1, hss2.2.1.trans HSS.out.2.1, hss2.2.2.trans HSS.out.2.2⟩, by have := HLp.out; omega, by have := HCp.out; omega⟩
                  clear hi2 hss2 hl2 hc2
                  go_wp2_with fail
                  refine outQ_normal HT7.out ?_
                  refine wpSeqS_last ?_
                  go_wp2
                  go_roundw
                  case rel => exact ⟨k + 1, by go_num, by omega, HW7.out, HB7.out⟩
                  case measure => simp [intOf]; omega
        · obtain rfl : k = n2 := by omega
          obtain ⟨⟨v2, hv2⟩, hf2, hs3, hw5, hBS⟩ := HW.out.wst
          have HW5 : Hid (Wst w1.heap.size (wr.setCell ⟨Sb, 2, none⟩ (.int .i64 (-1))) Wb Sb Hb a 16 c 40400 600) := hw5.mono (by omega) (by omega)
          have HB5 : Hid (Below W.heap.size W (wr.setCell ⟨Sb, 2, none⟩ (.int .i64 (-1)))) := HBr.out.setCell (Nat.le_trans HBz.out hBS) _
          obtain ⟨q, hq⟩ : ∃ q : Nat, (a : Int) / 200 = (q : Int) := ⟨a / 200, by omega⟩
          have hq6 : q ≤ 10 := by omega
          clear HW hw5
          go_wp2
          clear hv2 hf2 hs3
          go_loopw [16] (fun v wr => ∃ i : Nat, v = .int .i64 i ∧ i ≤ 3000 ∧ Wst w1.heap.size wr Wb Sb Hb a 16 c (40400 + i) (600 + i) ∧ Below W.heap.size W wr) (fun v _ => a - (intOf v).toNat)
          case atStart => exact ⟨0, rfl, by omega, HW5.out, HB5.out⟩
          case round =>
            obtain ⟨i, rfl, hi, hw, hb⟩ := hrel
            have HWx := Lib.hid hw
            have HBx := Lib.hid hb
            clear hw hb HW5 HB5
            by_cases hia : i < a
            · have HG := Lib.hid (wget_any wr w1.heap.size Wb Sb Hb a 16 c _ _ HWx.out (by omega) i)
              go_wp2_with fail
              refine HG.out.mono ?_
              rintro e w5 ⟨rfl, hw5, hb5⟩
              have HW5 : Hid (Wst w1.heap.size w5 Wb Sb Hb a 16 c (40400 + (i + 1 + q)) (600 + (i + 1 + q))) := hw5.mono (by omega) (by omega)
              have HB5 : Hid (Below W.heap.size W w5) := HBx.out.trans (hb5.mono HBz.out)
              clear hw5 hb5 HG
              go_wp2
              go_roundw
              case rel => exact ⟨i + 1 + q, by go_num, by omega, HW5.out, HB5.out⟩
              case measure => simp [intOf]; omega
            · clear hq
              go_wp2
              go_ret
              exact ⟨rfl, HBx.out⟩
set_option maxRecDepth 100000 in
set_option maxHeartbeats 4000000 in
theorem full_no (a c r : Int) (A A2 : Option Addr) (n cap n2 cap2 : Nat) (W : World) (hm : n ≤ 9223372036854775807 ∧ n2 ≤ 9223372036854775807) (h : ¬ (n ≤ 200 ∧ n2 ≤ 200 ∧ 1 ≤ a ∧ a ≤ 2000 ∧ 1 ≤ c ∧ c ≤ 8 ∧ 0 ≤ r ∧ r ≤ 10)) :
    Calls Try.prog 6 #[.int .i64 a, .int .i64 c, .slice A n cap, .int .i64 r, .slice A2 n2 cap2] W fun e w' => e = .returned (.bool true) ∧ Below W.heap.size W w' := by
  have HK := Lib.hid (known_any W)
  obtain ⟨hm1, hm2⟩ := hm
  by_cases h0 : n ≤ 200
  · by_cases h1 : n2 ≤ 200
    · by_cases h2 : 1 ≤ a
      · by_cases h3 : a ≤ 2000
        · by_cases h4 : 1 ≤ c
          · by_cases h5 : c ≤ 8
            · by_cases h6 : 0 ≤ r
              · by_cases h7 : r ≤ 10
                · exact absurd ⟨h0, h1, h2, h3, h4, h5, h6, h7⟩ h
                · clear h
                  go_enter Try.func6, Try.ntmps6
                  go_wp2_with fail
                  refine HK.out.mono ?_
                  rintro e w1 ⟨rfl, hb1'⟩
                  have HB1 := Lib.hid hb1'
                  clear hb1' HK
                  go_wp2
                  go_ret
                  exact ⟨by first | (simp; done) | rfl, HB1.out⟩
              · clear h
                go_enter Try.func6, Try.ntmps6
                go_wp2_with fail
                refine HK.out.mono ?_
                rintro e w1 ⟨rfl, hb1'⟩
                have HB1 := Lib.hid hb1'
                clear hb1' HK
                go_wp2
                go_ret
                exact ⟨by first | (simp; done) | rfl, HB1.out⟩
            · clear h
              go_enter Try.func6, Try.ntmps6
              go_wp2_with fail
              refine HK.out.mono ?_
              rintro e w1 ⟨rfl, hb1'⟩
              have HB1 := Lib.hid hb1'
              clear hb1' HK
              go_wp2
              go_ret
              exact ⟨by first | (simp; done) | rfl, HB1.out⟩
          · clear h
            go_enter Try.func6, Try.ntmps6
            go_wp2_with fail
            refine HK.out.mono ?_
            rintro e w1 ⟨rfl, hb1'⟩
            have HB1 := Lib.hid hb1'
            clear hb1' HK
            go_wp2
            go_ret
            exact ⟨by first | (simp; done) | rfl, HB1.out⟩
        · clear h
          go_enter Try.func6, Try.ntmps6
          go_wp2_with fail
          refine HK.out.mono ?_
          rintro e w1 ⟨rfl, hb1'⟩
          have HB1 := Lib.hid hb1'
          clear hb1' HK
          go_wp2
          go_ret
          exact ⟨by first | (simp; done) | rfl, HB1.out⟩
      · clear h
        go_enter Try.func6, Try.ntmps6
        go_wp2_with fail
        refine HK.out.mono ?_
        rintro e w1 ⟨rfl, hb1'⟩
        have HB1 := Lib.hid hb1'
        clear hb1' HK
        go_wp2
        go_ret
        exact ⟨by first | (simp; done) | rfl, HB1.out⟩
    · clear h
      go_enter Try.func6, Try.ntmps6
      go_wp2_with fail
      refine HK.out.mono ?_
      rintro e w1 ⟨rfl, hb1'⟩
      have HB1 := Lib.hid hb1'
      clear hb1' HK
      go_wp2
      go_ret
      exact ⟨by first | (simp; done) | rfl, HB1.out⟩
  · clear h
    go_enter Try.func6, Try.ntmps6
    go_wp2_with fail
    refine HK.out.mono ?_
    rintro e w1 ⟨rfl, hb1'⟩
    have HB1 := Lib.hid hb1'
    clear hb1' HK
    go_wp2
    go_ret
    exact ⟨by first | (simp; done) | rfl, HB1.out⟩
theorem full_walk (a c r : Int) (A : Option Addr) (n cap : Nat) (f : Nat → Nat → Int) (A2 : Option Addr) (n2 cap2 : Nat) (f2 : Nat → Nat → Int) (W : World) (hA : Acts W A n 4 f) (hcap : n ≤ cap) (hm : cap ≤ maxLen) (hA2 : Acts W A2 n2 4 f2) (hcap2 : n2 ≤ cap2) (hm2 : cap2 ≤ maxLen) :
    Calls Try.prog 6 #[.int .i64 a, .int .i64 c, .slice A n cap, .int .i64 r, .slice A2 n2 cap2] W fun e w' => e = .returned (.bool true) ∧ Below W.heap.size W w' := by
  unfold maxLen at hm hm2
  by_cases h : n ≤ 200 ∧ n2 ≤ 200 ∧ 1 ≤ a ∧ a ≤ 2000 ∧ 1 ≤ c ∧ c ≤ 8 ∧ 0 ≤ r ∧ r ≤ 10
  · obtain ⟨h0, h1, h2, h3, h4, h5, h6, h7⟩ := h
    obtain ⟨a, rfl⟩ : ∃ x : Nat, a = x := ⟨a.toNat, by omega⟩
    obtain ⟨c, rfl⟩ : ∃ x : Nat, c = x := ⟨c.toNat, by omega⟩
    obtain ⟨r, rfl⟩ : ∃ x : Nat, r = x := ⟨r.toNat, by omega⟩
    exact full_in a c r (by omega) (by omega) (by omega) A n cap f A2 n2 cap2 f2 W hA h0 hcap hA2 h1 hcap2
  · exact full_no a c r A A2 n cap n2 cap2 W ⟨by omega, by omega⟩ h
end Go.Proofs.Ytfipmpajdkgffaa
