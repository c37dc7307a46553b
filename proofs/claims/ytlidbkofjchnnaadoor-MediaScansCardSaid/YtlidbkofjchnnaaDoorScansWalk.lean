/- MediaScans, walked. -/
import Derived.Test.YtlidbkofjchnnaaDoorScans
namespace Go.Proofs.YtlidbkofjchnnaaDoor
open Go.RowKit
set_option linter.unusedVariables false
set_option linter.unusedSimpArgs false

set_option maxRecDepth 100000 in
set_option maxHeartbeats 4000000 in
theorem scans_in (p c m a : Nat) (er : Bool) (hp : 2 ≤ p ∧ p ≤ 20 ∧ p % 2 = 0) (hc : 1 ≤ c ∧ c ≤ 8) (hm : m ≤ p) (ha : 1 ≤ a ∧ a ≤ 200) (w : World) (hT : Tab w) : Calls Tryd.prog 3 #[.int .i64 p, .int .i64 c, .int .i64 m, .int .i64 a, .bool er] w fun e w' => e = .returned (.bool true) ∧ Below w.heap.size w w' := by
  have HK := Lib.hid (known_any w hT)
  have HT := Lib.hid hT
  have hrem : (p : Int).tmod 2 = 0 := by rw [Int.tmod_eq_emod_of_nonneg (by omega)]; have := hp.2.2; omega
  have hrem2 : (p : Int) % 2 = 0 := by have := hp.2.2; omega
  have hp' : 2 ≤ p ∧ p ≤ 20 := ⟨hp.1, hp.2.1⟩
  have h1 : ¬ (p : Int) < 2 := by omega
  have h2 : ¬ (p : Int) > 20 := by omega
  have h4 : ¬ (c : Int) < 1 := by omega
  have h5 : ¬ (c : Int) > 8 := by omega
  have h6 : ¬ (m : Int) < 0 := by omega
  have h7 : ¬ (m : Int) > p := by omega
  have h8 : ¬ (a : Int) < 1 := by omega
  have h9 : ¬ (a : Int) > 200 := by omega
  obtain ⟨n, hn⟩ : ∃ n, n = 64 * c := ⟨_, rfl⟩
  have hw64 : IntKind.i64.wrap (64 * (c : Int)) = (n : Int) := by rw [IntKind.wrap_i64]; omega
  have HBg : Hid (∀ w1, Below w.heap.size w w1 → Calls Tryd.prog 8 #[.int .i64 2, .int .i64 p, .int .i64 c, .int .i64 n] w1 fun e w' => ∃ W M Q F L P g, e = .returned (.pointer (some ⟨W, 0, none⟩)) ∧ LSt w w' W M Q F L P g (Fl.new 2 p c) n (inL []) 0 p 2) := fun w1 hb => by
    refine (begun_any 2 p c n (by omega) ⟨hp.1, by omega, hp.2.2⟩ hc (by omega) w1 (HT.out.keep (keep_below hb))).mono fun e w' ⟨W, M, Q, F, L, P, g, w2, he, hmed, hrow, _, hb12, hb2, hW, _⟩ => ?_
    have hs := hb.size
    have hs2 := hb12.size
    exact ⟨W, M, Q, F, L, P, g, he, hmed.low HT.out.lt hs, hrow, hb.trans (hb2.mono hs), by omega⟩
  have HC := Lib.hid hc
  have HM := Lib.hid hm
  have HA := Lib.hid ha
  have HN := Lib.hid hn
  clear hT hp hc hm ha hn hp'
  go_enter Tryd.func3, Tryd.ntmps3
  go_wp2_with fail
  refine (HK.out).mono ?_
  rintro e w1 ⟨rfl, hb⟩
  have HB1 := Lib.hid (HBg.out w1 hb)
  clear HK hb HBg
  go_wp2_with fail
  refine HB1.out.mono ?_
  rintro e w2 ⟨W, M, Q, F, L, P, g, rfl, hl⟩
  have HL := Lib.hid hl
  have HAr := Lib.hid (hl.arm a (by omega))
  obtain ⟨c0, c1⟩ := hl.cells
  clear HB1 hl h1 h2 h4 h5 h6 h7
  go_wp2_with fail
  refine HAr.out.mono ?_
  rintro e w3 ⟨rfl, hl⟩
  have HL3 : Hid (∃ S md, LSt w w3 W M Q F L P g S n (inL []) md p 2 ∧ Wr S p c a 0 (laid (List.replicate n 0) c)) := ⟨_, _, hl, ⟨rfl, rfl, rfl, rfl, rfl, rfl, .inl ⟨rfl, by have := HA.out; omega, by show (a : Int).toNat = a - 0 * c; omega, rfl, fun h => by omega⟩⟩⟩
  obtain ⟨i1, ji, jz0, jz1, jz2⟩ := info_parts u8_info
  have hnb : n ≤ 512 := by have := HC.out; have := HN.out; omega
  have hbk : Hid (i1.bytes * n ≤ 281474976710656) := by unfold Hid; rw [jz2]; omega
  clear HL HAr hl c0 c1 h8 h9
  go_wp2_with fail
  go_loopw [12] (fun iv wr => ∃ (i : Nat) (S : Fl) (md : Int), iv = .int .i64 i ∧ i ≤ m ∧ LSt w wr W M Q F L P g S n (inL []) md p 2 ∧ Wr S p c a i (laid (List.replicate n 0) c)) (fun i _ => m - (intOf i).toNat)
  case atStart => obtain ⟨S, md, h1, h2⟩ := HL3.out; exact ⟨0, S, md, rfl, by omega, h1, h2⟩
  case round =>
    obtain ⟨i, S, md, rfl, hi, hl, hw⟩ := hrel
    have HLr := Lib.hid hl
    have HWr := Lib.hid hw
    clear HL3
    by_cases him : i < m
    · have HSt := Lib.hid (LSt.write_step hl HN.out HC.out.1 (by have := HM.out; omega) hw)
      have k1 : ∀ t : Kept wr [], t.u.cell? ⟨W, 1, none⟩ = some (.pointer (some ⟨M, 0, none⟩)) := fun t => (hl.keep t.h).cells.2
      have HSt2 : Hid (Calls Tryd.prog 10 #[.pointer (some ⟨M, 0, none⟩), .int .i64 1, .slice (some ⟨wr.heap.size, 0, none⟩) n n] (wr.drew.alloc (.cells (madeCells #[.int .u8 0] n) 5)) fun e w' => (∃ v, e = .returned v) ∧ ∃ S' md', LSt w w' W M Q F L P g S' n (inL []) md' p 2 ∧ Wr S' p c a (i + 1) (laid (List.replicate n 0) c)) := LSt.write_step (hl.drewN 1) HN.out HC.out.1 (by have := HM.out; omega) hw
      clear hl hw HSt
      go_wp2
      (refine region_kept ([]) [0, 1, 2, 3, 4, 5] [6, 7] (by kernel_rfl) (by kernel_rfl) (fun _ _ _ _ _ h => h) ?_; simp only [List.filterMap_cons, List.getElem?_cons_zero, List.getElem?_cons_succ, List.filterMap_nil]; (repeat ((show wpQuiet _ _ _ _ (_ :: _) _); go_big_quiet_step (fail))); refine wpQuiet_nil ?_)
      refine wpSeqS_step (wpList_make_row _ rfl (.tmp 85) (.tmp 85) 46 rfl 5 i1 _ Tryd.underlying46 ji jz0 jz1 rfl .i64 .i64 n rfl rfl hbk.out (by omega) ?_)
      have HTz : Hid (Turns wr (wr.drew.alloc (.cells (madeCells #[.int .u8 0] n) 5)) []) := ((Turns.refl wr []).drew).alloc _
      refine wpList_nil (outQ_normal HTz.out ?_)
      clear k1 HTz
      refine wpSeqS_last ?_
      go_wp2_with fail
      refine HSt2.out.mono ?_
      rintro e w5 ⟨⟨v, rfl⟩, S', md', hl5, hw5⟩
      have HL5 := Lib.hid hl5
      have HW5 := Lib.hid hw5
      clear HSt2 hl5 hw5
      go_wp2
      go_roundw
      case rel => exact ⟨i + 1, S', md', by go_num, by omega, HL5.out, HW5.out⟩
      case measure => simp [intOf]; omega
    · obtain rfl : i = m := by omega
      clear hl hw
      have HD := Lib.hid (show (List.replicate n 0 : List Nat).length ≤ 64 * c by simp; exact Nat.le_of_eq HN.out)
      have hnb2 : Hid (S.nb = 2) := HWr.out.nb
      cases er
      · cases ho : S.off with
        | false =>
          have HSc : Hid (∀ o x, scanN { S with off := o, armed := x } 1 = i ∧ scanW { S with off := o, armed := x } 1 = true) := fun o x => HWr.out.scan_alive HD.out HC.out.1 ho o x
          clear HWr HT HA HN HD hbk hnb
          have HLo : Hid (LSt w wr W M Q F L P g { S with off := false } n (inL []) md p 2) := by have := HLr.out; rw [← ho]; exact this
          clear HLr ho
          have HOf := Lib.hid (HLo.out.off0 rfl)
          have HOn := Lib.hid HLo.out.on
          obtain ⟨c0, c1⟩ := HLo.out.cells
          go_wp2_with fail
          refine HOf.out.mono ?_
          rintro e w6 ⟨rfl, rfl⟩
          clear HOf
          go_wp2_with fail
          refine HOn.out.mono ?_
          rintro e w7 ⟨rfl, hl7⟩
          have HAr7 := Lib.hid (hl7.arm 1099511627776 (by omega))
          have c7 := hl7.cells.1
          clear HOn hl7 c0 c1
          go_wp2_with fail
          refine HAr7.out.mono ?_
          rintro e w8 ⟨rfl, hl8⟩
          have HSc8 := Lib.hid (hl8.scan 1 (by (rw [show _ = 2 from hnb2.out]; omega)) rfl (HSc.out _ _).1 (HSc.out _ _).2)
          obtain ⟨c80, c81⟩ := hl8.cells
          clear HAr7 hl8 c7
          go_wp2_with fail
          refine HSc8.out.mono ?_
          rintro e w9 ⟨rfl, hl9⟩
          have HSc9 := Lib.hid (hl9.scan_out 2 (by (rw [show _ = 2 from hnb2.out]; omega)))
          obtain ⟨c90, c91⟩ := hl9.cells
          clear HSc8 hl9 c80 c81
          go_wp2_with fail
          refine HSc9.out.mono ?_
          rintro e w10 ⟨rfl, hl10⟩
          have HB10 := Lib.hid hl10.bel
          clear HSc9 hl10 c90 c91
          go_wp2
          go_ret
          exact ⟨rfl, HB10.out⟩
        | true =>
          obtain ⟨q, j, hq, hj, hqa, _, _⟩ := HWr.out.scan_dead HD.out HC.out.1 ho true 0
          have HLo : Hid (LSt w wr W M Q F L P g { S with off := true } n (inL []) md p 2) := by have := HLr.out; rw [← ho]; exact this
          obtain ⟨s, hs⟩ : ∃ s, s = q * c + j := ⟨_, rfl⟩
          obtain rfl : a = s + 1 := by omega
          obtain ⟨t, ht⟩ : ∃ t, t = i * c := ⟨_, rfl⟩
          have hic : (q + 1) * c ≤ i * c := Nat.mul_le_mul_right c (by omega)
          have hic2 : (q + 1) * c = q * c + c := by rw [Nat.add_mul, Nat.one_mul]
          have hic3 : i * c ≤ 20 * 8 := Nat.mul_le_mul (by have := HM.out; omega) HC.out.2
          have hwt : IntKind.i64.wrap ((i : Int) * (c : Int)) = (t : Int) := by rw [← Int.natCast_mul, ← ht, IntKind.wrap_i64]; omega
          have hlt : (s : Int) < t := by omega
          have hts : ¬ (t : Int) ≤ s := by omega
          have hdm := Nat.div_add_mod (s + c - 1) c
          have hc1 := HC.out.1
          have hmod : s % c = j := by rw [hs, Nat.mul_comm, Nat.mul_add_mod, Nat.mod_eq_of_lt hj]
          have hmi : (s : Int) % c = (j : Int) := by rw [← hmod]; exact (Int.natCast_emod s c).symm
          by_cases hj0 : j = 0
          · subst hj0
            have hdiv : (s + c - 1) / c = q := by
              rw [show s + c - 1 = c * q + (c - 1) by rw [hs, Nat.mul_comm]; omega, Nat.mul_add_div (by omega), Nat.div_eq_of_lt (by omega)]; rfl
            have hdi : ((s : Int) + c - 1) / c = (q : Int) := by rw [← hdiv, Int.natCast_ediv]; congr 1; omega
            have HSc : Hid (∀ o x, scanN { S with off := o, armed := x } 1 = q ∧ scanW { S with off := o, armed := x } 1 = true) := fun o x => by
              obtain ⟨q2, j2, hq2, hj2, hqa2, h1, h2⟩ := HWr.out.scan_dead HD.out hc1 ho o x
              have e1 : q2 = q := by
                have f1 : (q2 * c + j2) / c = q2 := by rw [Nat.mul_comm, Nat.mul_add_div (by omega), Nat.div_eq_of_lt hj2]; rfl
                have f2 : (q * c + 0) / c = q := by rw [Nat.mul_comm, Nat.mul_add_div (by omega), Nat.div_eq_of_lt hj]; rfl
                rw [← f1, ← f2]; congr 1; omega
              subst e1
              obtain rfl : j2 = 0 := by omega
              exact ⟨h1, h2⟩
            have HS200 : Hid (s ≤ 199) := by have := HA.out; unfold Hid; omega
            have HF : Hid ((s : Int) < t ∧ ((s : Int) + c - 1) / c = (q : Int) ∧ (s : Int) % c = 0) := ⟨hlt, hdi, hmi⟩
            have HWt := Lib.hid hwt
            clear HWr HT HA HN HD hbk hnb HLr ho hs hq hj hqa hic hic2 hic3 hdm hmod hdiv ht hwt hlt hts hdi hmi
            skip
            have HOf := Lib.hid (HLo.out.off0 rfl)
            have HOn := Lib.hid HLo.out.on
            obtain ⟨c0, c1⟩ := HLo.out.cells
            go_wp2_with fail
            refine HOf.out.mono ?_
            rintro e w6 ⟨rfl, rfl⟩
            clear HOf
            go_wp2_with fail
            refine HOn.out.mono ?_
            rintro e w7 ⟨rfl, hl7⟩
            have HAr7 := Lib.hid (hl7.arm 1099511627776 (by omega))
            have c7 := hl7.cells.1
            clear HOn hl7 c0 c1
            go_wp2_with fail
            refine HAr7.out.mono ?_
            rintro e w8 ⟨rfl, hl8⟩
            have HSc8 := Lib.hid (hl8.scan 1 (by (rw [show _ = 2 from hnb2.out]; omega)) rfl (HSc.out _ _).1 (HSc.out _ _).2)
            obtain ⟨c80, c81⟩ := hl8.cells
            clear HAr7 hl8 c7
            go_wp2_with fail
            refine HSc8.out.mono ?_
            rintro e w9 ⟨rfl, hl9⟩
            have HSc9 := Lib.hid (hl9.scan_out 2 (by (rw [show _ = 2 from hnb2.out]; omega)))
            obtain ⟨c90, c91⟩ := hl9.cells
            clear HSc8 hl9 c80 c81
            go_wp2_with fail
            refine HSc9.out.mono ?_
            rintro e w10 ⟨rfl, hl10⟩
            have HB10 := Lib.hid hl10.bel
            clear HSc9 hl10 c90 c91
            have h200 := HS200.out
            have hwt := HWt.out
            have hlt := HF.out.1
            have hdi := HF.out.2.1
            go_wp2
            go_ret
            have hmi := HF.out.2.2
            exact ⟨by simp; exact hmi, HB10.out⟩
          · have hdiv : (s + c - 1) / c = q + 1 := by
              rw [show s + c - 1 = c * (q + 1) + (j - 1) by rw [hs, Nat.mul_add, Nat.mul_one, Nat.mul_comm]; omega, Nat.mul_add_div (by omega), Nat.div_eq_of_lt (by omega), Nat.add_zero]
            obtain ⟨q1, hq1⟩ : ∃ q1, q1 = q + 1 := ⟨_, rfl⟩
            rw [← hq1] at hdiv
            have hdi : ((s : Int) + c - 1) / c = (q1 : Int) := by rw [← hdiv, Int.natCast_ediv]; congr 1; omega
            have HSc : Hid (∀ o x, scanN { S with off := o, armed := x } 1 = q1 ∧ scanW { S with off := o, armed := x } 1 = false) := fun o x => by
              obtain ⟨q2, j2, hq2, hj2, hqa2, h1, h2⟩ := HWr.out.scan_dead HD.out hc1 ho o x
              have e1 : q2 = q := by
                have f1 : (q2 * c + j2) / c = q2 := by rw [Nat.mul_comm, Nat.mul_add_div (by omega), Nat.div_eq_of_lt hj2]; rfl
                have f2 : (q * c + j) / c = q := by rw [Nat.mul_comm, Nat.mul_add_div (by omega), Nat.div_eq_of_lt hj]; rfl
                rw [← f1, ← f2]; congr 1; omega
              subst e1
              obtain rfl : j2 = j := by omega
              rw [if_neg hj0] at h1
              rw [decide_eq_false hj0] at h2
              exact ⟨by rw [h1, hq1], h2⟩
            have HS200 : Hid (s ≤ 199) := by have := HA.out; unfold Hid; omega
            have HF : Hid ((s : Int) < t ∧ ((s : Int) + c - 1) / c = (q1 : Int) ∧ ¬ (s : Int) % c = 0) := ⟨hlt, hdi, by rw [hmi]; omega⟩
            have HWt := Lib.hid hwt
            clear HWr HT HA HN HD hbk hnb HLr ho hs hq hj hqa hic hic2 hic3 hdm hmod hdiv ht hwt hlt hts hdi hmi hq1
            skip
            have HOf := Lib.hid (HLo.out.off0 rfl)
            have HOn := Lib.hid HLo.out.on
            obtain ⟨c0, c1⟩ := HLo.out.cells
            go_wp2_with fail
            refine HOf.out.mono ?_
            rintro e w6 ⟨rfl, rfl⟩
            clear HOf
            go_wp2_with fail
            refine HOn.out.mono ?_
            rintro e w7 ⟨rfl, hl7⟩
            have HAr7 := Lib.hid (hl7.arm 1099511627776 (by omega))
            have c7 := hl7.cells.1
            clear HOn hl7 c0 c1
            go_wp2_with fail
            refine HAr7.out.mono ?_
            rintro e w8 ⟨rfl, hl8⟩
            have HSc8 := Lib.hid (hl8.scan 1 (by (rw [show _ = 2 from hnb2.out]; omega)) rfl (HSc.out _ _).1 (HSc.out _ _).2)
            obtain ⟨c80, c81⟩ := hl8.cells
            clear HAr7 hl8 c7
            go_wp2_with fail
            refine HSc8.out.mono ?_
            rintro e w9 ⟨rfl, hl9⟩
            have HSc9 := Lib.hid (hl9.scan_out 2 (by (rw [show _ = 2 from hnb2.out]; omega)))
            obtain ⟨c90, c91⟩ := hl9.cells
            clear HSc8 hl9 c80 c81
            go_wp2_with fail
            refine HSc9.out.mono ?_
            rintro e w10 ⟨rfl, hl10⟩
            have HB10 := Lib.hid hl10.bel
            clear HSc9 hl10 c90 c91
            have h200 := HS200.out
            have hwt := HWt.out
            have hlt := HF.out.1
            have hdi := HF.out.2.1
            go_wp2
            go_ret
            have hmi := HF.out.2.2
            exact ⟨by simp; exact hmi, HB10.out⟩
      · cases ho : S.off with
        | true =>
          obtain ⟨q, j, hq, hj, hqa, _, _⟩ := HWr.out.scan_dead HD.out HC.out.1 ho true 0
          have HLo : Hid (LSt w wr W M Q F L P g { S with off := true } n (inL []) md p 2) := by have := HLr.out; rw [← ho]; exact this
          obtain ⟨s, hs⟩ : ∃ s, s = q * c + j := ⟨_, rfl⟩
          obtain rfl : a = s + 1 := by omega
          obtain ⟨t, ht⟩ : ∃ t, t = i * c := ⟨_, rfl⟩
          have hic : (q + 1) * c ≤ i * c := Nat.mul_le_mul_right c (by omega)
          have hic2 : (q + 1) * c = q * c + c := by rw [Nat.add_mul, Nat.one_mul]
          have hic3 : i * c ≤ 20 * 8 := Nat.mul_le_mul (by have := HM.out; omega) HC.out.2
          have hwt : IntKind.i64.wrap ((i : Int) * (c : Int)) = (t : Int) := by rw [← Int.natCast_mul, ← ht, IntKind.wrap_i64]; omega
          have hlt : (s : Int) < t := by omega
          have hts : ¬ (t : Int) ≤ s := by omega
          have hdm := Nat.div_add_mod (s + c - 1) c
          have hc1 := HC.out.1
          have hmod : s % c = j := by rw [hs, Nat.mul_comm, Nat.mul_add_mod, Nat.mod_eq_of_lt hj]
          have hmi : (s : Int) % c = (j : Int) := by rw [← hmod]; exact (Int.natCast_emod s c).symm
          by_cases hj0 : j = 0
          · subst hj0
            have hdiv : (s + c - 1) / c = q := by
              rw [show s + c - 1 = c * q + (c - 1) by rw [hs, Nat.mul_comm]; omega, Nat.mul_add_div (by omega), Nat.div_eq_of_lt (by omega)]; rfl
            have hdi : ((s : Int) + c - 1) / c = (q : Int) := by rw [← hdiv, Int.natCast_ediv]; congr 1; omega
            have HSc : Hid (∀ o x, scanN { S with off := o, armed := x } 1 = q ∧ scanW { S with off := o, armed := x } 1 = true) := fun o x => by
              obtain ⟨q2, j2, hq2, hj2, hqa2, h1, h2⟩ := HWr.out.scan_dead HD.out hc1 ho o x
              have e1 : q2 = q := by
                have f1 : (q2 * c + j2) / c = q2 := by rw [Nat.mul_comm, Nat.mul_add_div (by omega), Nat.div_eq_of_lt hj2]; rfl
                have f2 : (q * c + 0) / c = q := by rw [Nat.mul_comm, Nat.mul_add_div (by omega), Nat.div_eq_of_lt hj]; rfl
                rw [← f1, ← f2]; congr 1; omega
              subst e1
              obtain rfl : j2 = 0 := by omega
              exact ⟨h1, h2⟩
            have HS200 : Hid (s ≤ 199) := by have := HA.out; unfold Hid; omega
            have HF : Hid ((s : Int) < t ∧ ((s : Int) + c - 1) / c = (q : Int) ∧ (s : Int) % c = 0) := ⟨hlt, hdi, hmi⟩
            have HWt := Lib.hid hwt
            clear HWr HT HA HN HD hbk hnb HLr ho hs hq hj hqa hic hic2 hic3 hdm hmod hdiv ht hwt hlt hts hdi hmi
            (have HOf0 := Lib.hid (HLo.out.off0 rfl); have c00 := HLo.out.cells.1; go_wp2_with fail; refine HOf0.out.mono ?_; rintro e w6 ⟨rfl, rfl⟩; clear HOf0 c00)
            have HOf := Lib.hid (HLo.out.off0 rfl)
            have HOn := Lib.hid HLo.out.on
            obtain ⟨c0, c1⟩ := HLo.out.cells
            go_wp2_with fail
            refine HOf.out.mono ?_
            rintro e w6 ⟨rfl, rfl⟩
            clear HOf
            go_wp2_with fail
            refine HOn.out.mono ?_
            rintro e w7 ⟨rfl, hl7⟩
            have HAr7 := Lib.hid (hl7.arm 1099511627776 (by omega))
            have c7 := hl7.cells.1
            clear HOn hl7 c0 c1
            go_wp2_with fail
            refine HAr7.out.mono ?_
            rintro e w8 ⟨rfl, hl8⟩
            have HSc8 := Lib.hid (hl8.scan 1 (by (rw [show _ = 2 from hnb2.out]; omega)) rfl (HSc.out _ _).1 (HSc.out _ _).2)
            obtain ⟨c80, c81⟩ := hl8.cells
            clear HAr7 hl8 c7
            go_wp2_with fail
            refine HSc8.out.mono ?_
            rintro e w9 ⟨rfl, hl9⟩
            have HSc9 := Lib.hid (hl9.scan_out 2 (by (rw [show _ = 2 from hnb2.out]; omega)))
            obtain ⟨c90, c91⟩ := hl9.cells
            clear HSc8 hl9 c80 c81
            go_wp2_with fail
            refine HSc9.out.mono ?_
            rintro e w10 ⟨rfl, hl10⟩
            have HB10 := Lib.hid hl10.bel
            clear HSc9 hl10 c90 c91
            have h200 := HS200.out
            have hwt := HWt.out
            have hlt := HF.out.1
            have hdi := HF.out.2.1
            go_wp2
            go_ret
            have hmi := HF.out.2.2
            exact ⟨by simp; exact hmi, HB10.out⟩
          · have hdiv : (s + c - 1) / c = q + 1 := by
              rw [show s + c - 1 = c * (q + 1) + (j - 1) by rw [hs, Nat.mul_add, Nat.mul_one, Nat.mul_comm]; omega, Nat.mul_add_div (by omega), Nat.div_eq_of_lt (by omega), Nat.add_zero]
            obtain ⟨q1, hq1⟩ : ∃ q1, q1 = q + 1 := ⟨_, rfl⟩
            rw [← hq1] at hdiv
            have hdi : ((s : Int) + c - 1) / c = (q1 : Int) := by rw [← hdiv, Int.natCast_ediv]; congr 1; omega
            have HSc : Hid (∀ o x, scanN { S with off := o, armed := x } 1 = q1 ∧ scanW { S with off := o, armed := x } 1 = false) := fun o x => by
              obtain ⟨q2, j2, hq2, hj2, hqa2, h1, h2⟩ := HWr.out.scan_dead HD.out hc1 ho o x
              have e1 : q2 = q := by
                have f1 : (q2 * c + j2) / c = q2 := by rw [Nat.mul_comm, Nat.mul_add_div (by omega), Nat.div_eq_of_lt hj2]; rfl
                have f2 : (q * c + j) / c = q := by rw [Nat.mul_comm, Nat.mul_add_div (by omega), Nat.div_eq_of_lt hj]; rfl
                rw [← f1, ← f2]; congr 1; omega
              subst e1
              obtain rfl : j2 = j := by omega
              rw [if_neg hj0] at h1
              rw [decide_eq_false hj0] at h2
              exact ⟨by rw [h1, hq1], h2⟩
            have HS200 : Hid (s ≤ 199) := by have := HA.out; unfold Hid; omega
            have HF : Hid ((s : Int) < t ∧ ((s : Int) + c - 1) / c = (q1 : Int) ∧ ¬ (s : Int) % c = 0) := ⟨hlt, hdi, by rw [hmi]; omega⟩
            have HWt := Lib.hid hwt
            clear HWr HT HA HN HD hbk hnb HLr ho hs hq hj hqa hic hic2 hic3 hdm hmod hdiv ht hwt hlt hts hdi hmi hq1
            (have HOf0 := Lib.hid (HLo.out.off0 rfl); have c00 := HLo.out.cells.1; go_wp2_with fail; refine HOf0.out.mono ?_; rintro e w6 ⟨rfl, rfl⟩; clear HOf0 c00)
            have HOf := Lib.hid (HLo.out.off0 rfl)
            have HOn := Lib.hid HLo.out.on
            obtain ⟨c0, c1⟩ := HLo.out.cells
            go_wp2_with fail
            refine HOf.out.mono ?_
            rintro e w6 ⟨rfl, rfl⟩
            clear HOf
            go_wp2_with fail
            refine HOn.out.mono ?_
            rintro e w7 ⟨rfl, hl7⟩
            have HAr7 := Lib.hid (hl7.arm 1099511627776 (by omega))
            have c7 := hl7.cells.1
            clear HOn hl7 c0 c1
            go_wp2_with fail
            refine HAr7.out.mono ?_
            rintro e w8 ⟨rfl, hl8⟩
            have HSc8 := Lib.hid (hl8.scan 1 (by (rw [show _ = 2 from hnb2.out]; omega)) rfl (HSc.out _ _).1 (HSc.out _ _).2)
            obtain ⟨c80, c81⟩ := hl8.cells
            clear HAr7 hl8 c7
            go_wp2_with fail
            refine HSc8.out.mono ?_
            rintro e w9 ⟨rfl, hl9⟩
            have HSc9 := Lib.hid (hl9.scan_out 2 (by (rw [show _ = 2 from hnb2.out]; omega)))
            obtain ⟨c90, c91⟩ := hl9.cells
            clear HSc8 hl9 c80 c81
            go_wp2_with fail
            refine HSc9.out.mono ?_
            rintro e w10 ⟨rfl, hl10⟩
            have HB10 := Lib.hid hl10.bel
            clear HSc9 hl10 c90 c91
            have h200 := HS200.out
            have hwt := HWt.out
            have hlt := HF.out.1
            have hdi := HF.out.2.1
            go_wp2
            go_ret
            have hmi := HF.out.2.2
            exact ⟨by simp; exact hmi, HB10.out⟩
        | false =>
          obtain ⟨hst, hal⟩ : (S.armed = a - i * c ∧ i * c < a) ∧ True := by
            rcases HWr.out.st with ⟨_, h1, h2, _⟩ | ⟨h, _⟩
            · exact ⟨⟨h2, h1⟩, trivial⟩
            · rw [ho] at h; cases h
          obtain ⟨hsa, hlt⟩ := hst
          have HLo : Hid (LSt w wr W M Q F L P g { S with off := false } n (inL []) md p 2) := by have := HLr.out; rw [← ho]; exact this
          have HOf0 := Lib.hid (HLo.out.off0 rfl)
          have hfl : ({ S with off := false } : Fl).b = S.b := rfl
          obtain ⟨s, hs⟩ : ∃ s, a = s + 1 := ⟨a - 1, by omega⟩
          obtain ⟨t, ht⟩ : ∃ t, t = i * c := ⟨_, rfl⟩
          subst hs
          have hic3 : i * c ≤ 20 * 8 := Nat.mul_le_mul (by have := HM.out; omega) HC.out.2
          have HWt : Hid (IntKind.i64.wrap ((i : Int) * (c : Int)) = (t : Int)) := by unfold Hid; rw [← Int.natCast_mul, ← ht, IntKind.wrap_i64]; omega
          have HS200 : Hid (s ≤ 199) := by have := HA.out; unfold Hid; omega
          by_cases hm1 : S.armed = 1
          · have hE := HLo.out.erase_cut (by rw [show ({ S with off := false } : Fl).nb = 2 from hnb2.out]; omega) rfl HWr.out.failed (.inl hm1)
            have hE2 : Hid (Calls Tryd.prog 12 #[.pointer (some ⟨M, 0, none⟩), .int .i64 1, .bool true] wr fun e w' => e = .returned (.int .i64 4) ∧ LSt w w' W M Q F L P g { S with off := true, armed := 0 } n (inL []) md p 2) := by
              unfold Fl.cutE at hE
              rw [if_pos hm1] at hE
              exact hE
            have HSc : Hid (∀ o x, scanN { S with off := o, armed := x } 1 = i ∧ scanW { S with off := o, armed := x } 1 = true) := fun o x => HWr.out.scan_alive HD.out HC.out.1 ho o x
            have HF : Hid (¬ (s : Int) < t ∧ (s : Int) = t) := ⟨by omega, by omega⟩
            clear HWr HT HA HN HD hbk hnb HLr ho hsa hlt hal ht hic3 hE hm1 hfl
            obtain ⟨c00, c01⟩ := HLo.out.cells
            go_wp2_with fail
            refine HOf0.out.mono ?_
            rintro e w6 ⟨rfl, rfl⟩
            clear HOf0 c00
            go_wp2_with fail
            refine hE2.out.mono ?_
            rintro e w6 ⟨rfl, hle⟩
            have HLe := Lib.hid hle
            clear hE2 hle c01 HLo
            have HOf := Lib.hid (HLe.out.off0 rfl)
            have HOn := Lib.hid HLe.out.on
            obtain ⟨c0, c1⟩ := HLe.out.cells
            go_wp2_with fail
            refine HOf.out.mono ?_
            rintro e w6 ⟨rfl, rfl⟩
            clear HOf
            go_wp2_with fail
            refine HOn.out.mono ?_
            rintro e w7 ⟨rfl, hl7⟩
            have HAr7 := Lib.hid (hl7.arm 1099511627776 (by omega))
            have c7 := hl7.cells.1
            clear HOn hl7 c0 c1
            go_wp2_with fail
            refine HAr7.out.mono ?_
            rintro e w8 ⟨rfl, hl8⟩
            have HSc8 := Lib.hid (hl8.scan 1 (by (show 1 < S.nb; rw [hnb2.out]; omega)) rfl (HSc.out _ _).1 (HSc.out _ _).2)
            obtain ⟨c80, c81⟩ := hl8.cells
            clear HAr7 hl8 c7
            go_wp2_with fail
            refine HSc8.out.mono ?_
            rintro e w9 ⟨rfl, hl9⟩
            have HSc9 := Lib.hid (hl9.scan_out 2 (by (show (S.nb : Int) ≤ 2; rw [hnb2.out]; omega)))
            obtain ⟨c90, c91⟩ := hl9.cells
            clear HSc8 hl9 c80 c81
            go_wp2_with fail
            refine HSc9.out.mono ?_
            rintro e w10 ⟨rfl, hl10⟩
            have HB10 := Lib.hid hl10.bel
            clear HSc9 hl10 c90 c91
            have h200 := HS200.out
            have hwt := HWt.out
            have hlt := HF.out
            go_wp2
            go_ret
            exact ⟨rfl, HB10.out⟩
          · by_cases hm2 : S.armed = 2
            · have hE := HLo.out.erase_cut (by rw [show ({ S with off := false } : Fl).nb = 2 from hnb2.out]; omega) rfl HWr.out.failed (.inr hm2)
              have hE2 : Hid (Calls Tryd.prog 12 #[.pointer (some ⟨M, 0, none⟩), .int .i64 1, .bool true] wr fun e w' => e = .returned (.int .i64 4) ∧ LSt w w' W M Q F L P g { (S.halfE 1) with off := true, armed := 0 } n (inL []) md p 2) := by
                unfold Fl.cutE at hE
                rw [if_neg hm1] at hE
                exact hE
              have HSc : Hid (∀ o x, scanN { (S.halfE 1) with off := o, armed := x } 1 = 0 ∧ scanW { (S.halfE 1) with off := o, armed := x } 1 = false) := fun o x => ⟨rfl, rfl⟩
              have HF : Hid (¬ (s : Int) < t ∧ ¬ (s : Int) = t) := ⟨by omega, by omega⟩
              clear HWr HT HA HN HD hbk hnb HLr ho hsa hlt hal ht hic3 hE hm1 hm2 hfl
              obtain ⟨c00, c01⟩ := HLo.out.cells
              go_wp2_with fail
              refine HOf0.out.mono ?_
              rintro e w6 ⟨rfl, rfl⟩
              clear HOf0 c00
              go_wp2_with fail
              refine hE2.out.mono ?_
              rintro e w6 ⟨rfl, hle⟩
              have HLe := Lib.hid hle
              clear hE2 hle c01 HLo
              have HOf := Lib.hid (HLe.out.off0 rfl)
              have HOn := Lib.hid HLe.out.on
              obtain ⟨c0, c1⟩ := HLe.out.cells
              go_wp2_with fail
              refine HOf.out.mono ?_
              rintro e w6 ⟨rfl, rfl⟩
              clear HOf
              go_wp2_with fail
              refine HOn.out.mono ?_
              rintro e w7 ⟨rfl, hl7⟩
              have HAr7 := Lib.hid (hl7.arm 1099511627776 (by omega))
              have c7 := hl7.cells.1
              clear HOn hl7 c0 c1
              go_wp2_with fail
              refine HAr7.out.mono ?_
              rintro e w8 ⟨rfl, hl8⟩
              have HSc8 := Lib.hid (hl8.scan 1 (by (show 1 < S.nb; rw [hnb2.out]; omega)) rfl (HSc.out _ _).1 (HSc.out _ _).2)
              obtain ⟨c80, c81⟩ := hl8.cells
              clear HAr7 hl8 c7
              go_wp2_with fail
              refine HSc8.out.mono ?_
              rintro e w9 ⟨rfl, hl9⟩
              have HSc9 := Lib.hid (hl9.scan_out 2 (by (show (S.nb : Int) ≤ 2; rw [hnb2.out]; omega)))
              obtain ⟨c90, c91⟩ := hl9.cells
              clear HSc8 hl9 c80 c81
              go_wp2_with fail
              refine HSc9.out.mono ?_
              rintro e w10 ⟨rfl, hl10⟩
              have HB10 := Lib.hid hl10.bel
              clear HSc9 hl10 c90 c91
              have h200 := HS200.out
              have hwt := HWt.out
              have hlt := HF.out
              go_wp2
              go_ret
              exact ⟨rfl, HB10.out⟩
            · have hE2 := Lib.hid (HLo.out.erase_done (by rw [show ({ S with off := false } : Fl).nb = 2 from hnb2.out]; omega) rfl HWr.out.failed ⟨hm1, hm2⟩)
              have HSc : Hid (∀ o x, scanN { (Fl.erased { S with off := false } 1 true) with off := o, armed := x } 1 = 0 ∧ scanW { (Fl.erased { S with off := false } 1 true) with off := o, armed := x } 1 = true) := fun o x => ⟨rfl, rfl⟩
              clear HWr HT HA HN HD hbk hnb HLr ho hsa hlt hal ht hic3 hm1 hm2 hfl
              obtain ⟨c00, c01⟩ := HLo.out.cells
              go_wp2_with fail
              refine HOf0.out.mono ?_
              rintro e w6 ⟨rfl, rfl⟩
              clear HOf0 c00
              go_wp2_with fail
              refine hE2.out.mono ?_
              rintro e w6 ⟨rfl, hle⟩
              have HLe := Lib.hid hle
              clear hE2 hle c01 HLo
              have HOf := Lib.hid (HLe.out.off0 rfl)
              have HOn := Lib.hid HLe.out.on
              obtain ⟨c0, c1⟩ := HLe.out.cells
              go_wp2_with fail
              refine HOf.out.mono ?_
              rintro e w6 ⟨rfl, rfl⟩
              clear HOf
              go_wp2_with fail
              refine HOn.out.mono ?_
              rintro e w7 ⟨rfl, hl7⟩
              have HAr7 := Lib.hid (hl7.arm 1099511627776 (by omega))
              have c7 := hl7.cells.1
              clear HOn hl7 c0 c1
              go_wp2_with fail
              refine HAr7.out.mono ?_
              rintro e w8 ⟨rfl, hl8⟩
              have HSc8 := Lib.hid (hl8.scan 1 (by (show 1 < S.nb; rw [hnb2.out]; omega)) rfl (HSc.out _ _).1 (HSc.out _ _).2)
              obtain ⟨c80, c81⟩ := hl8.cells
              clear HAr7 hl8 c7
              go_wp2_with fail
              refine HSc8.out.mono ?_
              rintro e w9 ⟨rfl, hl9⟩
              have HSc9 := Lib.hid (hl9.scan_out 2 (by (show (S.nb : Int) ≤ 2; rw [hnb2.out]; omega)))
              obtain ⟨c90, c91⟩ := hl9.cells
              clear HSc8 hl9 c80 c81
              go_wp2_with fail
              refine HSc9.out.mono ?_
              rintro e w10 ⟨rfl, hl10⟩
              have HB10 := Lib.hid hl10.bel
              clear HSc9 hl10 c90 c91
              go_wp2
              go_ret
              exact ⟨rfl, HB10.out⟩
end Go.Proofs.YtlidbkofjchnnaaDoor
