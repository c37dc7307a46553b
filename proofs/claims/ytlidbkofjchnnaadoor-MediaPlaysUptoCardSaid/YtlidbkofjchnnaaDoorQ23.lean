/- What follows is laid together from several texts of mine, in their order. -/
import Derived.Test.YtlidbkofjchnnaaDoorQ22

namespace Go.Proofs.YtlidbkofjchnnaaDoor
open Go.RowKit
set_option linter.unusedVariables false
set_option linter.unusedSimpArgs false

theorem torn_next (S : Fl) (k : Nat) (r : List Nat) (h : 1 ≤ S.armed) : ((S.torn k r).b k).half = (S.b k).half ∧ ((S.torn k r).b k).next = (if S.armed = 1 then (S.b k).next else (S.b k).next + 1) := by
  have e : (S.torn k r).b k = progB S k r (S.armed - 1) := by
    unfold Fl.torn
    show (S.setB k _).b k = _
    rw [Fl.setB_self]
  rw [e]
  unfold progB
  by_cases h1 : S.armed = 1
  · rw [if_pos (by omega), if_pos h1]; exact ⟨rfl, rfl⟩
  · rw [if_neg (by omega), if_neg h1]; exact ⟨rfl, rfl⟩
section
variable {w0 w : World} {W M Q F L n : Nat} {P g : Nat → Nat} {v : Nat → Value} {S : Fl} {bad : Nat → Bool} {md : Int} {m : Pm}
set_option maxRecDepth 100000 in
set_option maxHeartbeats 1000000 in
theorem write_cut (h : PSt w0 w W M Q F L P g v S n bad md m) (ha : Agr S bad n m) (x : Ac) (hxW : AcW w0 x) (k : Nat) (hk : k < S.nb) (hx : x.bl = k) (hl : (x.data n).length = n) (hb : bad k = false) (hr : S.room bad k ≠ 0) (he : S.room bad k = S.has k - (m.b k).length) (hh : m.half k = false) (hlt : (m.b k).length < S.has k) (ho : S.off = false) (hf : (S.b k).failed = false) (har : 1 ≤ S.armed ∧ S.armed ≤ S.chunks) : Calls Tryd.prog 42 #[.pointer (some ⟨W, 0, none⟩), x.val] w fun e w' => e = .returned (.bool true) ∧ PW w0 W M Q F L P g n S.nb S.pages S.chunks w' := by
  have HNb : Hid (n ≤ 64 * S.chunks) := h.med.bytes.2
  have hn1 := h.bytes512
  have HDa : Hid (∀ w1, PSt w0 w1 W M Q F L P g v S n bad md m → Calls Tryd.prog 58 #[.pointer (some ⟨W, 0, none⟩), x.val] w1 fun e w' => ∃ a c, e = .returned (.slice (some a) (x.data n).length c) ∧ DatV w0 w' a (x.data n) ∧ PSt w0 w' W M Q F L P g v S n bad md m ∧ Below w1.heap.size w1 w') := fun w1 h1 => data_any h1 hn1 x hxW
  have HA := Lib.hid ha
  clear hxW hn1
  generalize x.data n = d at *
  obtain ⟨op, bl, pg, fill, A, c, l, one, nn⟩ := x
  simp only [Ac.val, Ac.cells] at hx HDa ⊢
  generalize l.length = ln at *
  have HX : Hid (PSt w0 (w.alloc (.cells #[.int .i64 op, .int .i64 bl, .int .i64 pg, .int .u8 fill, .slice A ln c, .bool one, .int .i64 nn] 68)) W M Q F L P g v S n bad md m) := h.alloc _
  have HR := Lib.hid (Row.fresh w 68 #[.int .i64 op, .int .i64 bl, .int .i64 pg, .int .u8 fill, .slice A ln c, .bool one, .int .i64 nn])
  subst hx
  have HO : Hid (∀ w1 S' bad' md', S'.nb = S.nb → PSt w0 w1 W M Q F L P g v S' n bad' md' m → Calls Tryd.prog 45 #[.pointer (some ⟨W, 0, none⟩), .int .i64 k] w1 fun e w' => e = .returned (.bool true) ∧ w1 = w') := fun w1 S' bad' md' e h1 => h1.is_in (by rw [e]; exact hk) 0
  have HK := Lib.hid hk
  have hki : (k : Int) < S.nb := by omega
  have hle : (d.length : Int) = n := by omega
  have HMb : Hid (m.bad k = false) := by unfold Hid; rw [(ha k hk).eBad]; exact hb
  have HMf : Hid (m.fail k = false) := by unfold Hid; rw [(ha k hk).eFail]; exact hf
  have HMh := Lib.hid hh
  have HMo : Hid (hasM S.pages (m.one k) = S.has k) := by unfold Hid; rw [(ha k hk).eOne]; rfl
  have hne : ¬ ((m.b k).length : Int) = S.has k := by omega
  have hh256 : S.has k ≤ 256 := Nat.le_trans (has_le h.med.fl.ok k) h.med.fl.ok.pages.2.1
  have HLen := Lib.hid ((ha k hk).eLen hh)
  have HLt0 := Lib.hid hlt
  have HHf : Hid ((S.b k).half = false) := by unfold Hid; rw [← (ha k hk).eHalf]; exact hh
  obtain ⟨rm, hrm⟩ : ∃ rm, rm = S.has k - (m.b k).length := ⟨_, rfl⟩
  have hrw : IntKind.i64.wrap ((S.has k : Int) - (m.b k).length) = (rm : Int) := by rw [IntKind.wrap_i64]; omega
  rw [← hrm] at he
  have HRm : Hid (∀ w1, PSt w0 w1 W M Q F L P g v S n bad md m → Calls Tryd.prog 19 #[.pointer (some ⟨M, 0, none⟩), .int .i64 k] w1 fun e w' => e = .returned (.int .i64 rm) ∧ ∃ c, w' = w1.drewN c) := fun w1 h1 => h1.roomD hk he
  have HWr : Hid (∀ w1 (a : Addr) (cc : Nat), PSt w0 w1 W M Q F L P g v S n bad md m → DatV w0 w1 a d → Calls Tryd.prog 10 #[.pointer (some ⟨M, 0, none⟩), .int .i64 k, .slice (some a) d.length cc] w1 fun e w' => e = .returned (.tuple #[.int .i64 0, .int .i64 4]) ∧ PSt w0 w' W M Q F L P g v (S.torn k (laid d S.chunks)) n bad md m) := fun w1 a cc h1 hd => by
    have := h1.write_cut hk hd hl cc hr ho hf har
    rw [hl]; exact this
  obtain ⟨t1, t2⟩ := torn_next S k (laid d S.chunks) har.1
  rw [HHf.out] at t1
  have HT1 := Lib.hid t1
  have HT2 := Lib.hid t2
  have HAr := Lib.hid har
  have HA0 : Hid (S.armed = 1 → Agr (S.torn k (laid d S.chunks)) bad n m) := fun h1 => ha.torn_no k _ h1
  have HA1 : Hid (S.armed ≠ 1 → Agr (S.torn k (laid d S.chunks)) bad n { m with b := updB m.b k (m.b k ++ [none]) }) := fun h1 => ha.torn hh (by have := HNb.out; omega) (by omega)
  have HHf2 := Lib.hid hh256
  clear h ha hk hl hb hr hh hlt ho hf har t1 t2 hrm he hh256 HA HNb
  go_enter Tryd.func42, Tryd.ntmps42
  go_wp2_with fail
  refine (HDa.out _ HX.out).mono ?_
  rintro e w1 ⟨a, cc, rfl, hdv, hp1, hb1⟩
  have HDv := Lib.hid hdv
  have HP1 := Lib.hid hp1
  have cb : w1.cell? ⟨w.heap.size, 1, none⟩ = some (.int .i64 k) := keep_below hb1 _ _ (HR.out.cell 1)
  have c1 := hp1.mem.cells.2.1
  have HRo := Lib.hid (HRm.out w1 hp1)
  generalize w.heap.size = X at *
  clear HDa HX HR hdv hp1 hb1 HRm
  go_wp2_with fail
  refine HRo.out.mono ?_
  rintro e w2 ⟨rfl, cN, hw2⟩
  have HP2 : Hid (PSt w0 w2 W M Q F L P g v S n bad md m) := by unfold Hid; rw [hw2]; exact HP1.out.drewN cN
  have HDv2 : Hid (DatV w0 w2 a d) := by unfold Hid; rw [hw2]; exact HDv.out.turns ((Turns.refl w1 []).drewN cN) (by simp)
  have c12 := HP2.out.mem.cells.2.1
  have HW2 := Lib.hid (HWr.out w2 a cc HP2.out HDv2.out)
  clear HRo HP1 HDv hw2 c1 cb HWr
  go_wp2_with fail
  refine HW2.out.mono ?_
  rintro e w3 ⟨rfl, hp3⟩
  have HP3 := Lib.hid hp3
  have HIs := Lib.hid (HO.out w3 (S.torn k (laid d S.chunks)) bad md rfl hp3)
  have HHs : Hid (∀ c, Calls Tryd.prog 24 #[.pointer (some ⟨W, 0, none⟩), .int .i64 k] (w3.drewN c) fun e w' => e = .returned (.int .i64 (S.has k : Nat)) ∧ w3.drewN c = w') := fun c => hp3.has_at HK.out HMo.out c
  obtain ⟨c2, c4, c6, c8, c9, k5, k9, k13, k15, A5, cp5, e5⟩ := hp3.rd HK.out
  rw [HMb.out] at k13
  rw [HMf.out] at k15
  rw [HMh.out] at k9
  rw [e5] at k5
  clear HW2 hp3 HO HDv2 HMb HMh e5
  generalize d.length = dl at *
  have hnbe : (S.torn k (laid d S.chunks)).nb = S.nb := rfl
  rw [hnbe] at c4 c6 c8 c9
  obtain ⟨nb, hnb⟩ : ∃ nb, nb = S.nb := ⟨_, rfl⟩
  rw [← hnb] at c4 c6 c8 c9 hki
  have HNB := Lib.hid hnb
  clear hnbe hnb
  obtain ⟨ln, hln⟩ : ∃ ln, ln = (m.b k).length := ⟨_, rfl⟩
  have HBl : Hid ((m.b k).length = ln) := hln.symm
  rw [← hln] at k5 hne hrw HLen
  clear hln
  have HLt : Hid (ln < S.has k) := by have := HLt0.out; rw [HBl.out] at this; exact this
  clear HLt0
  generalize S.has k = hs at *
  go_wp2_with fail
  refine HIs.out.mono ?_
  rintro e w4 ⟨rfl, rfl⟩
  clear HIs
  go_wp2
  go_quiet ((go_at_call 24; refine Calls.quiet_of_same ((HHs.out _).mono fun e w' h => ⟨h.1, h.2.symm⟩)))
  have HP4 := Lib.hid (HP3.out.drewN nq)
  generalize w3.drewN nq = w4 at *
  have HHs4 : Hid (∀ c, Calls Tryd.prog 24 #[.pointer (some ⟨W, 0, none⟩), .int .i64 k] (w4.drewN c) fun e w' => e = .returned (.int .i64 hs) ∧ w4.drewN c = w') := fun c => HP4.out.has_at HK.out HMo.out c
  clear HP3 HHs c2 c4 c6 c8 c9 k5 k9 k13 k15 HMo
  obtain ⟨c2, c4, c6, c8, c9, k5, k9, k13, k15, A5, cp5, e5⟩ := HP4.out.rd HK.out
  rw [e5, HBl.out] at k5
  rw [HMf.out] at k15
  clear c2 c6 c8 k9 k13 e5
  go_wp2
  go_quiet ((go_at_call 24; refine Calls.quiet_of_same ((HHs4.out _).mono fun e w' h => ⟨h.1, h.2.symm⟩)))
  have HP5 := Lib.hid (HP4.out.drewN nq)
  generalize w4.drewN nq = w5 at *
  clear HP4 HHs4 c4 k5
  have HTk : Hid (S.armed = 1 ∨ 2 ≤ S.armed) := by have := HAr.out; unfold Hid; omega
  have HOff : Hid ((S.torn k (laid d S.chunks)).off = true) := rfl
  have HPW : Hid (∀ w', PW w0 W M Q F L P g n (S.torn k (laid d S.chunks)).nb (S.torn k (laid d S.chunks)).pages (S.torn k (laid d S.chunks)).chunks w' → PW w0 W M Q F L P g n S.nb S.pages S.chunks w') := fun w' h => h
  have HK1 : Hid (k < (S.torn k (laid d S.chunks)).nb) := HK.out
  clear HK c9 k15
  generalize S.torn k (laid d S.chunks) = S1 at *
  obtain ⟨_, c4, _, _, _, k5, _, _, _, A6, cp6, e6⟩ := HP5.out.rd HK1.out
  have e6' := e6
  rw [HBl.out] at e6'
  rw [e6'] at k5
  have c0 := HP5.out.mem.cells.1
  have hki1 : (k : Int) < S1.nb := by have := HK1.out; omega
  generalize hnb1 : S1.nb = nb1 at c4 hki1
  clear hki
  rcases HTk.out with h1 | h1
  · have HAg := Lib.hid (HA0.out h1)
    have HNx : Hid (∀ c, Calls Tryd.prog 59 #[.pointer (some ⟨F, 0, none⟩), .int .i64 k] (w5.drewN c) fun e w' => e = .returned (.int .i64 ln) ∧ w5.drewN c = w') := fun c => by
      have := (HP5.out.drewN c).next HK1.out
      rw [HT1.out, if_neg (by simp), HT2.out, if_pos h1, ← HLen.out] at this
      exact this
    clear HA0 HA1 HTk h1 HT1 HT2 HAr HLen HHf HBl hrw hne e6 e6' hnb1
    go_wp2
    go_quiet ((go_at_call 59; refine Calls.quiet_of_same ((HNx.out _).mono fun e w' h => ⟨h.1, h.2.symm⟩)))
    have HP6 := Lib.hid (HP5.out.drewN nq)
    have HOf := Lib.hid (HP6.out.off HOff.out)
    have c06 := HP6.out.mem.cells.1
    clear HNx HP5 c0 c4 k5
    generalize w5.drewN nq = w6 at *
    go_wp2_with fail
    refine HOf.out.mono ?_
    rintro e w7 ⟨rfl, rfl⟩
    clear HOf
    go_wp2
    go_ret
    exact ⟨rfl, HPW.out _ ⟨_, _, _, _, _, HP6.out, HAg.out, rfl, rfl, rfl⟩⟩
  · have HAg := Lib.hid (HA1.out (by omega))
    have HNx : Hid (∀ c, Calls Tryd.prog 59 #[.pointer (some ⟨F, 0, none⟩), .int .i64 k] (w5.drewN c) fun e w' => e = .returned (.int .i64 (ln + 1 : Nat)) ∧ w5.drewN c = w') := fun c => by
      have := (HP5.out.drewN c).next HK1.out
      rw [HT1.out, if_neg (by simp), HT2.out, if_neg (by omega), ← HLen.out] at this
      exact this
    have hgt : ((ln + 1 : Nat) : Int) > ln := by omega
    have HL256 : Hid (ln ≤ 256) := by have := HHf2.out; have := HLt.out; unfold Hid; omega
    clear HA0 HA1 HTk h1 HT1 HT2 HAr HLen HHf hrw hne HHf2 HLt
    generalize ln + 1 = ln1 at *
    go_wp2
    go_quiet ((go_at_call 59; refine Calls.quiet_of_same ((HNx.out _).mono fun e w' h => ⟨h.1, h.2.symm⟩)))
    have HP6 := Lib.hid (HP5.out.drewN nq)
    clear HNx HP5 c0 c4 k5 hgt
    generalize w5.drewN nq = w6 at *
    obtain ⟨vs, hvs, hv2⟩ := HP6.out.mem.pgs k HK1.out
    have HVs := Lib.hid hvs
    have HV2 := Lib.hid hv2
    have m1 : ∀ t : Kept w6 (v k).ownBlock.toList, t.u.cell? ⟨W, 4, none⟩ = some (.slice (some ⟨g 5, 0, none⟩) nb1 nb1) := fun t => by
      rw [← hnb1]
      exact (t.h.row HP6.out.mem.row (fun hm => by obtain ⟨_, _, cs, hr⟩ := (HP6.out.mem.pgs k HK1.out).row (by simpa using hm); exact Row.ne_type HP6.out.mem.row hr (by decide) rfl)).cell 4
    have m2 : ∀ t : Kept w6 (v k).ownBlock.toList, t.u.cell? ⟨g 5, k, none⟩ = some (.slice A6 ln cp6) := fun t => by
      rw [← e6']
      exact ((t.h.row HP6.out.mem.b (fun hm => by obtain ⟨_, _, cs, hr⟩ := (HP6.out.mem.pgs k HK1.out).row (by simpa using hm); exact Row.ne_type HP6.out.mem.b hr (by decide) rfl)).cell k).trans (valsA_get _ _ _ HK1.out)
    obtain ⟨i0, ji, jz0, jz1, jz2⟩ := info_parts bs1_info
    have HO5 : Hid ((w6.drew.alloc (.cells #[(.slice none 0 0)] 46)).ownsRow w0.heap.size 46 1 (.slice A6 ln cp6) ln vs) := by
      unfold Hid
      have hb : Below w6.heap.size w6 (w6.drew.alloc (.cells #[(.slice none 0 0)] 46)) := (show Below w6.heap.size w6 w6.drew from (Below.refl _ _).drew).alloc (Nat.le_refl _) _
      have := own_below HVs.out hb
      rw [e6, HBl.out] at this
      exact this
    have HB5 : Hid (Below w6.heap.size w6 (w6.drew.alloc (.cells #[(.slice none 0 0)] 46))) := (show Below w6.heap.size w6 w6.drew from (Below.refl _ _).drew).alloc (Nat.le_refl _) _
    have HS5 := Lib.hid (src_new (w := w6.drew) (t := 46) (cs := [(.slice none 0 0)]) (sz := 1) rfl)
    have HSz : Hid (w0.heap.size ≤ (w6.drew.alloc (.cells #[(.slice none 0 0)] 46)).heap.size) := Nat.le_trans HP6.out.size HB5.out.size
    clear hvs hv2
    go_wp2
    (refine region_kept ((v k).ownBlock.toList) [0, 1, 2, 3, 4, 5, 6, 7, 8, 9, 10, 11] [12, 13, 14, 15] (by kernel_rfl) (by kernel_rfl) (fun _ _ _ _ _ h => h) ?_; simp only [List.filterMap_cons, List.getElem?_cons_zero, List.getElem?_cons_succ, List.filterMap_nil]; (repeat ((show wpQuiet _ _ _ _ (_ :: _) _); go_big_quiet_step (fail))); refine wpQuiet_nil ?_)
    clear m1 m2
    refine wpSeqS_step ?_
    go_wp2_with fail
    refine outQ_normal (Turns.of_below HB5.out _) ?_
    refine wpSeqS_step (wpList_append_src _ rfl (.tmp 156) (.tmp 157) 87 rfl w0.heap.size 46 i0 _ 1 24 Tryd.underlying87 ji jz0 jz1 jz2 rfl (by decide) _ ln vs rfl HO5.out (some ⟨w6.drew.heap.size, 0, none⟩) 1 1 _ rfl HS5.out (fun u hu => by rw [List.mem_singleton.1 hu]; rfl) (by have := HL256.out; unfold maxLen; omega) (by have := HL256.out; omega) HSz.out ?_)
    intro v6 w7 hown hgrow hat
    have hg' : (w6.drew.alloc (.cells #[(.slice none 0 0)] 46)).grownBy w7 (v k).ownBlock := by rw [e6']; exact hgrow
    have hat' : v6.ownBlock = (v k).ownBlock ∨ v6.ownBlock = some (w6.drew.alloc (.cells #[(.slice none 0 0)] 46)).heap.size := by rw [e6']; exact hat
    clear hgrow hat
    obtain ⟨L6, c6, rfl, _, _, _, _⟩ := own_at hown (by omega)
    have hgg := grown_twice2 (grown_below HB5.out _) hg'
    have HT7 : Hid (Turns w6 w7 (v k).ownBlock.toList) := ⟨hgg.os, hgg.tape, hgg.output, hgg.size, fun i hi hn => hgg.block i hi (fun e => hn (by rw [← e]; simp))⟩
    have HP7 := Lib.hid (HP6.out.append HK1.out HVs.out HV2.out HB5.out hg' (by rw [HBl.out]; exact hown) hat' (x := none) rfl)
    have hb7 : Row w7 (g 5) 87 (valsA S1.nb v) := HT7.out.row HP6.out.mem.b (fun hm => by obtain ⟨_, _, cs, hr⟩ := (HP6.out.mem.pgs k HK1.out).row (by simpa using hm); exact Row.ne_type HP6.out.mem.b hr (by decide) rfl)
    have cg7 : w7.cell? ⟨g 5, k, none⟩ = some (.slice A6 ln cp6) := by rw [← e6']; exact (hb7.cell k).trans (valsA_get _ _ _ HK1.out)
    have fg7 := hb7.frozen k
    clear hg' hat' hgg hb7 hown HO5 HS5 HSz HVs HV2
    refine wpList_nil (outQ_normal HT7.out ?_)
    refine wpSeqS_step ?_
    go_wp2_with fail
    refine outQ_normal HT7.out ?_
    refine wpSeqS_last ?_
    have HOf := Lib.hid (HP7.out.off HOff.out)
    have c07 := HP7.out.mem.cells.1
    clear HB5 HT7
    go_wp2_with fail
    refine HOf.out.mono ?_
    rintro e w9 ⟨rfl, rfl⟩
    clear HOf
    go_wp2
    go_ret
    exact ⟨rfl, HPW.out _ ⟨_, _, _, _, _, HP7.out, HAg.out, rfl, rfl, rfl⟩⟩
end
end Go.Proofs.YtlidbkofjchnnaaDoor
