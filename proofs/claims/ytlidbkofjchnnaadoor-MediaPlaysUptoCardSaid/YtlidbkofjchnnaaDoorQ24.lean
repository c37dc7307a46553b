/- What follows is laid together from several texts of mine, in their order. -/
import Derived.Test.YtlidbkofjchnnaaDoorQ23

namespace Go.Proofs.YtlidbkofjchnnaaDoor
open Go.RowKit
set_option linter.unusedVariables false
set_option linter.unusedSimpArgs false

section
variable {w0 w : World} {W M Q F L n : Nat} {P g : Nat → Nat} {v : Nat → Value} {S : Fl} {bad : Nat → Bool} {md : Int} {m : Pm}
theorem DatV.drewN {a : Addr} {d : List Nat} (h : DatV w0 w a d) (c : Nat) : DatV w0 (w.drewN c) a d := h.turns ((Turns.refl w []).drewN c) (by simp)
theorem DatV.own {a : Addr} {d : List Nat} (h : DatV w0 w a d) (hp : PSt w0 w W M Q F L P g v S n bad md m) {k : Nat} (hk : k < S.nb) : a.block ∉ (v k).ownBlock.toList := fun hm => by
  obtain ⟨h1, _, cs, hr⟩ := (hp.mem.pgs k hk).row (by simpa using hm)
  rcases h.src with hs | ⟨cs', hs⟩
  · omega
  · exact Row.ne_type hs hr (by decide) rfl
set_option maxRecDepth 100000 in
set_option maxHeartbeats 1000000 in
theorem write_done (h : PSt w0 w W M Q F L P g v S n bad md m) (ha : Agr S bad n m) (x : Ac) (hxW : AcW w0 x) (k : Nat) (hk : k < S.nb) (hx : x.bl = k) (hl : (x.data n).length = n) (hb : bad k = false) (hr : S.room bad k ≠ 0) (he : S.room bad k = S.has k - (m.b k).length) (hh : m.half k = false) (hlt : (m.b k).length < S.has k) (ho : S.off = false) (hf : (S.b k).failed = false) (har : S.armed = 0 ∨ S.chunks < S.armed) : Calls Tryd.prog 42 #[.pointer (some ⟨W, 0, none⟩), x.val] w fun e w' => e = .returned (.bool true) ∧ PW w0 W M Q F L P g n S.nb S.pages S.chunks w' := by
  have HNb : Hid (n ≤ 64 * S.chunks) := h.med.bytes.2
  have HCh : Hid (1 ≤ S.chunks) := h.med.fl.ok.chunks.1
  have HSm := Lib.hid (data_small x n hxW.small)
  have hn1 := h.bytes512
  have HDa : Hid (∀ w1, PSt w0 w1 W M Q F L P g v S n bad md m → Calls Tryd.prog 58 #[.pointer (some ⟨W, 0, none⟩), x.val] w1 fun e w' => ∃ a c, e = .returned (.slice (some a) (x.data n).length c) ∧ DatV w0 w' a (x.data n) ∧ PSt w0 w' W M Q F L P g v S n bad md m ∧ Below w1.heap.size w1 w') := fun w1 h1 => data_any h1 hn1 x hxW
  have HA := Lib.hid ha
  clear hxW hn1
  generalize x.data n = d at *
  obtain ⟨op, bl, pg, fill, A, c, l, one, nn⟩ := x
  simp only [Ac.val, Ac.cells] at hx HDa ⊢
  generalize l.length = ln at *
  have HX : Hid (PSt w0 (w.alloc (.cells #[.int .i64 op, .int .i64 bl, .int .i64 pg, .int .u8 fill, .slice A ln c, .bool one, .int .i64 nn] 68)) W M Q F L P g v S n bad md m) := h.alloc _
  have HR := Lib.hid (Row.fresh w 68 #[.int .i64 op, .int .i64 bl, .int .i64 pg, .int .u8 fill, .slice A ln c, .bool one, .int .i64 nn])
  subst hx
  have HO : Hid (∀ w1 S' bad' md', S'.nb = S.nb → PSt w0 w1 W M Q F L P g v S' n bad' md' m → Calls Tryd.prog 45 #[.pointer (some ⟨W, 0, none⟩), .int .i64 k] w1 fun e w' => e = .returned (.bool true) ∧ w1 = w') := fun w1 S' bad' md' e h1 => h1.is_in (by rw [e]; exact hk) 0
  have HK := Lib.hid hk
  have hki : (k : Int) < S.nb := by omega
  have hle : (d.length : Int) = n := by omega
  have HMb : Hid (m.bad k = false) := by unfold Hid; rw [(ha k hk).eBad]; exact hb
  have HMf : Hid (m.fail k = false) := by unfold Hid; rw [(ha k hk).eFail]; exact hf
  have HMh := Lib.hid hh
  have HMo : Hid (hasM S.pages (m.one k) = S.has k) := by unfold Hid; rw [(ha k hk).eOne]; rfl
  have hne : ¬ ((m.b k).length : Int) = S.has k := by omega
  have hh256 : S.has k ≤ 256 := Nat.le_trans (has_le h.med.fl.ok k) h.med.fl.ok.pages.2.1
  have HLen := Lib.hid ((ha k hk).eLen hh)
  have HLt0 := Lib.hid hlt
  have HHf : Hid ((S.b k).half = false) := by unfold Hid; rw [← (ha k hk).eHalf]; exact hh
  obtain ⟨rm, hrm⟩ : ∃ rm, rm = S.has k - (m.b k).length := ⟨_, rfl⟩
  have hrw : IntKind.i64.wrap ((S.has k : Int) - (m.b k).length) = (rm : Int) := by rw [IntKind.wrap_i64]; omega
  rw [← hrm] at he
  have HRm : Hid (∀ w1, PSt w0 w1 W M Q F L P g v S n bad md m → Calls Tryd.prog 19 #[.pointer (some ⟨M, 0, none⟩), .int .i64 k] w1 fun e w' => e = .returned (.int .i64 rm) ∧ ∃ c, w' = w1.drewN c) := fun w1 h1 => h1.roomD hk he
  have HWr : Hid (∀ w1 (a : Addr) (cc : Nat), PSt w0 w1 W M Q F L P g v S n bad md m → DatV w0 w1 a d → Calls Tryd.prog 10 #[.pointer (some ⟨M, 0, none⟩), .int .i64 k, .slice (some a) d.length cc] w1 fun e w' => e = .returned (.tuple #[.int .i64 (m.b k).length, .int .i64 0]) ∧ (∃ md', PSt w0 w' W M Q F L P g v (S.wrote k (laid d S.chunks)) n bad md' m) ∧ DatV w0 w' a d) := fun w1 a cc h1 hd => by
    have := h1.write_done hk hd hl cc hr ho hf har
    rw [← HLen.out] at this
    rw [hl]; exact this
  have HAg : Hid (Agr (S.wrote k (laid d S.chunks)) bad n { m with b := updB m.b k (m.b k ++ [some d]) }) := ha.wrote HCh.out hh hl HNb.out HSm.out
  have HHf2 := Lib.hid hh256
  clear h ha hk hl hb hr hh hlt ho hf har hrm he hh256 HA HNb HSm
  go_enter Tryd.func42, Tryd.ntmps42
  go_wp2_with fail
  refine (HDa.out _ HX.out).mono ?_
  rintro e w1 ⟨a, cc, rfl, hdv, hp1, hb1⟩
  have HDv := Lib.hid hdv
  have HP1 := Lib.hid hp1
  have cb : w1.cell? ⟨w.heap.size, 1, none⟩ = some (.int .i64 k) := keep_below hb1 _ _ (HR.out.cell 1)
  have c1 := hp1.mem.cells.2.1
  have HRo := Lib.hid (HRm.out w1 hp1)
  generalize w.heap.size = X at *
  clear HDa HX HR hdv hp1 hb1 HRm
  go_wp2_with fail
  refine HRo.out.mono ?_
  rintro e w2 ⟨rfl, cN, hw2⟩
  have HP2 : Hid (PSt w0 w2 W M Q F L P g v S n bad md m) := by unfold Hid; rw [hw2]; exact HP1.out.drewN cN
  have HDv2 : Hid (DatV w0 w2 a d) := by unfold Hid; rw [hw2]; exact HDv.out.turns ((Turns.refl w1 []).drewN cN) (by simp)
  have c12 := HP2.out.mem.cells.2.1
  have HW2 := Lib.hid (HWr.out w2 a cc HP2.out HDv2.out)
  clear HRo HP1 HDv hw2 c1 cb HWr
  go_wp2_with fail
  refine HW2.out.mono ?_
  rintro e w3 ⟨rfl, ⟨md3, hp3⟩, hdv3⟩
  have HDv3 := Lib.hid hdv3
  have HP3 := Lib.hid hp3
  have HIs := Lib.hid (HO.out w3 (S.wrote k (laid d S.chunks)) bad md3 rfl hp3)
  have HHs : Hid (∀ c, Calls Tryd.prog 24 #[.pointer (some ⟨W, 0, none⟩), .int .i64 k] (w3.drewN c) fun e w' => e = .returned (.int .i64 (S.has k : Nat)) ∧ w3.drewN c = w') := fun c => hp3.has_at HK.out HMo.out c
  obtain ⟨c2, c4, c6, c8, c9, k5, k9, k13, k15, A5, cp5, e5⟩ := hp3.rd HK.out
  rw [HMb.out] at k13
  rw [HMf.out] at k15
  rw [HMh.out] at k9
  rw [e5] at k5
  clear HW2 hp3 hdv3 HO HDv2 HMb HMh e5 HHf HLen
  generalize hdl : d.length = dl at *
  have HDl := Lib.hid hdl
  clear hdl
  have hnbe : (S.wrote k (laid d S.chunks)).nb = S.nb := rfl
  rw [hnbe] at c4 c6 c8 c9
  obtain ⟨nb, hnb⟩ : ∃ nb, nb = S.nb := ⟨_, rfl⟩
  rw [← hnb] at c4 c6 c8 c9 hki
  have HNB := Lib.hid hnb
  clear hnbe hnb
  generalize hln : (m.b k).length = ln at *
  have HBl : Hid ((m.b k).length = ln) := hln
  clear hln
  have HLt : Hid (ln < S.has k) := HLt0
  clear HLt0
  generalize S.has k = hs at *
  go_wp2_with fail
  refine HIs.out.mono ?_
  rintro e w4 ⟨rfl, rfl⟩
  clear HIs
  go_wp2
  go_quiet ((go_at_call 24; refine Calls.quiet_of_same ((HHs.out _).mono fun e w' h => ⟨h.1, h.2.symm⟩)))
  have HP4 := Lib.hid (HP3.out.drewN nq)
  have HDv4 := Lib.hid (HDv3.out.drewN nq)
  generalize w3.drewN nq = w4 at *
  have HHs4 : Hid (∀ c, Calls Tryd.prog 24 #[.pointer (some ⟨W, 0, none⟩), .int .i64 k] (w4.drewN c) fun e w' => e = .returned (.int .i64 hs) ∧ w4.drewN c = w') := fun c => HP4.out.has_at HK.out HMo.out c
  clear HP3 HHs c2 c4 c6 c8 c9 k5 k9 k13 k15 HMo
  obtain ⟨c2, c4, c6, c8, c9, k5, k9, k13, k15, A5, cp5, e5⟩ := HP4.out.rd HK.out
  rw [e5, HBl.out] at k5
  rw [HMf.out] at k15
  clear c2 c6 c8 k9 k13 e5
  go_wp2
  go_quiet ((go_at_call 24; refine Calls.quiet_of_same ((HHs4.out _).mono fun e w' h => ⟨h.1, h.2.symm⟩)))
  have HP5 := Lib.hid (HP4.out.drewN nq)
  have HDv5 := Lib.hid (HDv4.out.drewN nq)
  generalize w4.drewN nq = w5 at *
  clear HP4 HHs4 c4 k5
  clear HDv3 HDv4
  have HPW : Hid (∀ w', PW w0 W M Q F L P g n (S.wrote k (laid d S.chunks)).nb (S.wrote k (laid d S.chunks)).pages (S.wrote k (laid d S.chunks)).chunks w' → PW w0 W M Q F L P g n S.nb S.pages S.chunks w') := fun w' h => h
  have HK1 : Hid (k < (S.wrote k (laid d S.chunks)).nb) := HK.out
  clear HK c9 k15
  generalize S.wrote k (laid d S.chunks) = S1 at *
  obtain ⟨_, c4, _, _, _, k5, _, _, _, A6, cp6, e6⟩ := HP5.out.rd HK1.out
  have e6' := e6
  rw [HBl.out] at e6'
  rw [e6'] at k5
  have hki1 : (k : Int) < S1.nb := by have := HK1.out; omega
  generalize hnb1 : S1.nb = nb1 at c4 hki1
  have HL256 : Hid (ln ≤ 256) := by have := HHf2.out; have := HLt.out; unfold Hid; omega
  clear hki HHf2 HLt hrw hne
  have HP6 := HP5
  have HDv6 := HDv5
  clear HP5 HDv5 c4 k5
  generalize w5 = w6 at *
  obtain ⟨vs, hvs, hv2⟩ := HP6.out.mem.pgs k HK1.out
  have HVs := Lib.hid hvs
  have HV2 := Lib.hid hv2
  have m1 : ∀ t : Kept w6 (v k).ownBlock.toList, t.u.cell? ⟨W, 4, none⟩ = some (.slice (some ⟨g 5, 0, none⟩) nb1 nb1) := fun t => by
    rw [← hnb1]
    exact (t.h.row HP6.out.mem.row (fun hm => by obtain ⟨_, _, cs, hr⟩ := (HP6.out.mem.pgs k HK1.out).row (by simpa using hm); exact Row.ne_type HP6.out.mem.row hr (by decide) rfl)).cell 4
  have m2 : ∀ t : Kept w6 (v k).ownBlock.toList, t.u.cell? ⟨g 5, k, none⟩ = some (.slice A6 ln cp6) := fun t => by
    rw [← e6']
    exact ((t.h.row HP6.out.mem.b (fun hm => by obtain ⟨_, _, cs, hr⟩ := (HP6.out.mem.pgs k HK1.out).row (by simpa using hm); exact Row.ne_type HP6.out.mem.b hr (by decide) rfl)).cell k).trans (valsA_get _ _ _ HK1.out)
  obtain ⟨i0, ji, jz0, jz1, jz2⟩ := info_parts bs1_info
  have HO5 : Hid ((w6.drew.alloc (.cells #[(.slice (some a) dl cc)] 46)).ownsRow w0.heap.size 46 1 (.slice A6 ln cp6) ln vs) := by
    unfold Hid
    have hb : Below w6.heap.size w6 (w6.drew.alloc (.cells #[(.slice (some a) dl cc)] 46)) := (show Below w6.heap.size w6 w6.drew from (Below.refl _ _).drew).alloc (Nat.le_refl _) _
    have := own_below HVs.out hb
    rw [e6, HBl.out] at this
    exact this
  have HB5 : Hid (Below w6.heap.size w6 (w6.drew.alloc (.cells #[(.slice (some a) dl cc)] 46))) := (show Below w6.heap.size w6 w6.drew from (Below.refl _ _).drew).alloc (Nat.le_refl _) _
  have HS5 := Lib.hid (src_new (w := w6.drew) (t := 46) (cs := [(.slice (some a) dl cc)]) (sz := 1) rfl)
  have HSz : Hid (w0.heap.size ≤ (w6.drew.alloc (.cells #[(.slice (some a) dl cc)] 46)).heap.size) := Nat.le_trans HP6.out.size HB5.out.size
  clear hvs hv2
  go_wp2
  (refine region_kept ((v k).ownBlock.toList) [0, 1, 2, 3, 4, 5, 6, 7, 8, 9, 10, 11, 12] [13, 14, 15, 16] (by kernel_rfl) (by kernel_rfl) (fun _ _ _ _ _ h => h) ?_; simp only [List.filterMap_cons, List.getElem?_cons_zero, List.getElem?_cons_succ, List.filterMap_nil]; (repeat ((show wpQuiet _ _ _ _ (_ :: _) _); go_big_quiet_step (fail))); refine wpQuiet_nil ?_)
  clear m1 m2
  refine wpSeqS_step ?_
  go_wp2_with fail
  refine outQ_normal (Turns.of_below HB5.out _) ?_
  refine wpSeqS_step (wpList_append_src _ rfl (.tmp 178) (.tmp 180) 87 rfl w0.heap.size 46 i0 _ 1 24 Tryd.underlying87 ji jz0 jz1 jz2 rfl (by decide) _ ln vs rfl HO5.out (some ⟨w6.drew.heap.size, 0, none⟩) 1 1 _ rfl HS5.out (fun u hu => by rw [List.mem_singleton.1 hu]; rfl) (by have := HL256.out; unfold maxLen; omega) (by have := HL256.out; omega) HSz.out ?_)
  intro v6 w7 hown hgrow hat
  have hg' : (w6.drew.alloc (.cells #[(.slice (some a) dl cc)] 46)).grownBy w7 (v k).ownBlock := by rw [e6']; exact hgrow
  have hat' : v6.ownBlock = (v k).ownBlock ∨ v6.ownBlock = some (w6.drew.alloc (.cells #[(.slice (some a) dl cc)] 46)).heap.size := by rw [e6']; exact hat
  clear hgrow hat
  obtain ⟨L6, c6, rfl, _, _, _, _⟩ := own_at hown (by omega)
  have hgg := grown_twice2 (grown_below HB5.out _) hg'
  have HT7 : Hid (Turns w6 w7 (v k).ownBlock.toList) := ⟨hgg.os, hgg.tape, hgg.output, hgg.size, fun i hi hn => hgg.block i hi (fun e => hn (by rw [← e]; simp))⟩
  have HP7 := Lib.hid (HP6.out.append HK1.out HVs.out HV2.out HB5.out hg' (by rw [HBl.out]; exact hown) hat' (x := (some d)) (by rw [← HDl.out]; exact (HDv6.out.turns HT7.out (HDv6.out.own HP6.out HK1.out)).pg cc))
  have hb7 : Row w7 (g 5) 87 (valsA S1.nb v) := HT7.out.row HP6.out.mem.b (fun hm => by obtain ⟨_, _, cs, hr⟩ := (HP6.out.mem.pgs k HK1.out).row (by simpa using hm); exact Row.ne_type HP6.out.mem.b hr (by decide) rfl)
  have cg7 : w7.cell? ⟨g 5, k, none⟩ = some (.slice A6 ln cp6) := by rw [← e6']; exact (hb7.cell k).trans (valsA_get _ _ _ HK1.out)
  have fg7 := hb7.frozen k
  clear hg' hat' hgg hb7 hown HO5 HS5 HSz HVs HV2
  refine wpList_nil (outQ_normal HT7.out ?_)
  refine wpSeqS_step ?_
  go_wp2_with fail
  refine outQ_normal HT7.out ?_
  refine wpSeqS_last ?_
  obtain ⟨_, c4, _, _, _, k5, _⟩ := HP7.out.rd HK1.out
  rw [updB_same] at k5
  rw [hnb1] at c4
  have hw1 : IntKind.i64.wrap (((ln + 1 : Nat) : Int) - 1) = (ln : Int) := by rw [IntKind.wrap_i64]; have := HL256.out; omega
  clear HB5 HT7 HDv6
  generalize ln + 1 = ln1 at *
  go_wp2
  go_ret
  exact ⟨by simp, HPW.out _ ⟨_, _, _, _, _, HP7.out, HAg.out, rfl, rfl, rfl⟩⟩
end
end Go.Proofs.YtlidbkofjchnnaaDoor

namespace Go.Proofs.YtlidbkofjchnnaaDoor
open Go.RowKit
set_option linter.unusedVariables false
set_option linter.unusedSimpArgs false

section
variable {w0 w : World} {W M Q F L n nb pages ch : Nat} {P g : Nat → Nat} {v : Nat → Value} {S : Fl} {bad : Nat → Bool} {md : Int} {m : Pm}
theorem read_any (h : PSt w0 w W M Q F L P g v S n bad md m) {I : Nat → Array Value → Prop} (hI : ∀ x cs, I x cs → Row w x 3 cs) (ha : Agr S bad n m) (ho : S.off = false) (k p : Int) : Calls Tryd.prog 25 #[.pointer (some ⟨W, 0, none⟩), .int .i64 k, .int .i64 p] w fun e w' => e = .returned (.bool true) ∧ PRd w0 W M Q F L P g v S n bad m I w' := by
  by_cases hk : k < 0 ∨ S.nb ≤ k
  · exact read_out h hI ha k p hk
  · obtain ⟨i, rfl⟩ := Int.eq_ofNat_of_zero_le (show 0 ≤ k by omega)
    have hi : i < S.nb := by omega
    by_cases hp : 0 ≤ p ∧ p < S.has i
    · obtain ⟨q, rfl⟩ := Int.eq_ofNat_of_zero_le hp.1
      have hq : q < S.has i := by omega
      cases hh : m.half i with
      | true => exact read_blank h hI ha i q hi hq ho (.inl hh)
      | false =>
        cases hx : (m.b i)[q]? with
        | none => exact read_blank h hI ha i q hi hq ho (.inr (.inr hx))
        | some x =>
          cases x with
          | none => exact read_blank h hI ha i q hi hq ho (.inr (.inl hx))
          | some d => exact read_some h hI ha i q hi hq ho hh hx
    · exact read_page h hI ha i p hi hp
theorem write_any (h : PSt w0 w W M Q F L P g v S n bad md m) (ha : Agr S bad n m) (ho : S.off = false) (x : Ac) (hxW : AcW w0 x) : Calls Tryd.prog 42 #[.pointer (some ⟨W, 0, none⟩), x.val] w fun e w' => e = .returned (.bool true) ∧ PW w0 W M Q F L P g n S.nb S.pages S.chunks w' := by
  by_cases hk : x.bl < 0 ∨ S.nb ≤ x.bl
  · exact write_out h ha x hxW hk
  · obtain ⟨i, hi⟩ := Int.eq_ofNat_of_zero_le (show 0 ≤ x.bl by omega)
    have hin : i < S.nb := by omega
    by_cases hl : (x.data n).length = n
    · rcases WrW_any ha h.med.fl.ok hin with ⟨hb, hr⟩ | ⟨hb, hr, hf⟩ | ⟨hb, hh, hr, he, hlt⟩
      · exact write_bad h ha x hxW i hin hi hl hb hr
      · exact write_full h ha x hxW i hin hi hl hb hr hf
      · cases hf : (S.b i).failed with
        | true => exact write_failed h ha x hxW i hin hi hl hb hr hh hlt ho hf
        | false =>
          by_cases har : 1 ≤ S.armed ∧ S.armed ≤ S.chunks
          · exact write_cut h ha x hxW i hin hi hl hb hr he hh hlt ho hf har
          · exact write_done h ha x hxW i hin hi hl hb hr he hh hlt ho hf (by omega)
    · exact write_len h ha x hxW i hin hi hl
theorem erase_any (h : PSt w0 w W M Q F L P g v S n bad md m) (ha : Agr S bad n m) (ho : S.off = false) (x : Ac) : Calls Tryd.prog 43 #[.pointer (some ⟨W, 0, none⟩), x.val] w fun e w' => e = .returned (.bool true) ∧ PW w0 W M Q F L P g n S.nb S.pages S.chunks w' := by
  by_cases hk : x.bl < 0 ∨ S.nb ≤ x.bl
  · exact erase_out h ha x hk
  · obtain ⟨i, hi⟩ := Int.eq_ofNat_of_zero_le (show 0 ≤ x.bl by omega)
    have hin : i < S.nb := by omega
    rcases ErW_any S bad i with hb | ⟨hb, hf⟩ | ⟨hb, hf, har⟩ | ⟨hb, hf, har⟩
    · exact erase_bad h ha x i hin hi hb
    · exact erase_failed h ha x i hin hi hb ho hf
    · exact erase_cut h ha x i hin hi hb ho hf har
    · exact erase_done h ha x i hin hi hb ho hf har
theorem PSt.on (h : PSt w0 w W M Q F L P g v S n bad md m) : Calls Tryd.prog 13 #[.pointer (some ⟨F, 0, none⟩)] w fun e w' => e = .returned (.tuple #[]) ∧ PSt w0 w' W M Q F L P g v { S with off := false } n bad md m :=
  (On_fl h.med.fl).mono fun e w' ⟨he, hf, ht⟩ => ⟨he, h.turn (h.med.flash hf ht (by simp [flS]) rfl rfl) ht (by simp [medT, flS]) rfl rfl⟩
theorem PSt.arm (h : PSt w0 w W M Q F L P g v S n bad md m) (a : Int) (ha : a < 9223372036854775808) : Calls Tryd.prog 9 #[.pointer (some ⟨F, 0, none⟩), .int .i64 a] w fun e w' => e = .returned (.tuple #[]) ∧ PSt w0 w' W M Q F L P g v { S with armed := (max a 1).toNat } n bad md m :=
  (Arm_fl h.med.fl a ha).mono fun e w' ⟨he, hf, ht⟩ => ⟨he, h.turn (h.med.flash hf ht (by simp [flS]) rfl rfl) ht (by simp [medT, flS]) rfl rfl⟩
theorem PSt.fail (h : PSt w0 w W M Q F L P g v S n bad md m) {k : Nat} (hk : k < S.nb) : Calls Tryd.prog 20 #[.pointer (some ⟨F, 0, none⟩), .int .i64 k] w fun e w' => e = .returned (.bool true) ∧ PSt w0 w' W M Q F L P g v (S.setB k { S.b k with failed := true }) n bad md m :=
  (Fail_in h.med.fl k hk).mono fun e w' ⟨he, hf, ht⟩ => ⟨he, h.turn (h.med.flash hf ht (by simp [flS]) rfl rfl) ht (by simp [medT, flS]) rfl rfl⟩
theorem PSt.fail_out (h : PSt w0 w W M Q F L P g v S n bad md m) {k : Int} (hk : k < 0 ∨ S.nb ≤ k) : Calls Tryd.prog 20 #[.pointer (some ⟨F, 0, none⟩), .int .i64 k] w fun e w' => e = .returned (.bool false) ∧ PSt w0 w' W M Q F L P g v S n bad md m :=
  (Fail_out h.med.fl k hk).mono fun e w' ⟨he, hw⟩ => ⟨he, hw ▸ h⟩
set_option maxRecDepth 100000 in
set_option maxHeartbeats 1000000 in
theorem step_off (h : PSt w0 w W M Q F L P g v S n bad md m) (ha : Agr S bad n m) (ho : S.off = true) (x : Ac) (hin : True) (hop : x.op ≠ 7) : Calls Tryd.prog 23 #[.pointer (some ⟨W, 0, none⟩), x.val] w fun e w' => e = .returned (.bool true) ∧ PW w0 W M Q F L P g n S.nb S.pages S.chunks w' := by
  obtain ⟨op, bl, pg, fill, A, c, l, one, nn⟩ := x
  simp only [Ac.val, Ac.cells] at hop hin ⊢
  generalize l.length = ln at *
  have HA := Lib.hid ha
  have HX : Hid (PSt w0 (w.alloc (.cells #[.int .i64 op, .int .i64 bl, .int .i64 pg, .int .u8 fill, .slice A ln c, .bool one, .int .i64 nn] 68)) W M Q F L P g v S n bad md m) := h.alloc _
  have HR := Lib.hid (Row.fresh w 68 #[.int .i64 op, .int .i64 bl, .int .i64 pg, .int .u8 fill, .slice A ln c, .bool one, .int .i64 nn])
  have HOf := Lib.hid (HX.out.off ho)
  have c0 := HX.out.mem.cells.1
  have r0 := HR.out.cell 0
  have r1 := HR.out.cell 1
  have r2 := HR.out.cell 2
  have r5 := HR.out.cell 5
  have r6 := HR.out.cell 6
  simp only [List.getElem?_toArray, List.getElem?_cons_zero, List.getElem?_cons_succ] at r0 r1 r2 r5 r6
  clear h ha ho
  go_enter Tryd.func23, Tryd.ntmps23
  go_wp2_with fail
  refine HOf.out.mono ?_
  rintro e w1 ⟨rfl, rfl⟩
  clear HOf
  go_wp2
  go_ret
  exact ⟨rfl, ⟨_, _, _, _, _, HX.out, HA.out, rfl, rfl, rfl⟩⟩
set_option maxRecDepth 100000 in
set_option maxHeartbeats 1000000 in
theorem step_on (h : PSt w0 w W M Q F L P g v S n bad md m) (ha : Agr S bad n m) {o : Bool} (ho : S.off = o) (x : Ac) (hin : True) (hop : x.op = 7) : Calls Tryd.prog 23 #[.pointer (some ⟨W, 0, none⟩), x.val] w fun e w' => e = .returned (.bool true) ∧ PW w0 W M Q F L P g n S.nb S.pages S.chunks w' := by
  obtain ⟨op, bl, pg, fill, A, c, l, one, nn⟩ := x
  simp only [Ac.val, Ac.cells] at hop hin ⊢
  generalize l.length = ln at *
  have HA := Lib.hid ha
  have HX : Hid (PSt w0 (w.alloc (.cells #[.int .i64 op, .int .i64 bl, .int .i64 pg, .int .u8 fill, .slice A ln c, .bool one, .int .i64 nn] 68)) W M Q F L P g v S n bad md m) := h.alloc _
  have HR := Lib.hid (Row.fresh w 68 #[.int .i64 op, .int .i64 bl, .int .i64 pg, .int .u8 fill, .slice A ln c, .bool one, .int .i64 nn])
  have HOf := Lib.hid (HX.out.off ho)
  have c0 := HX.out.mem.cells.1
  have r0 := HR.out.cell 0
  have r1 := HR.out.cell 1
  have r2 := HR.out.cell 2
  have r5 := HR.out.cell 5
  have r6 := HR.out.cell 6
  simp only [List.getElem?_toArray, List.getElem?_cons_zero, List.getElem?_cons_succ] at r0 r1 r2 r5 r6
  clear h ha ho
  subst hop
  have HOn := Lib.hid HX.out.on
  cases o
  all_goals
    go_enter Tryd.func23, Tryd.ntmps23
    go_wp2_with fail
    refine HOf.out.mono ?_
    rintro e w1 ⟨rfl, rfl⟩
    clear HOf
    go_wp2_with fail
    refine HOn.out.mono ?_
    rintro e w2 ⟨rfl, h2⟩
    have HP2 := Lib.hid h2
    clear HOn h2
    go_wp2
    go_ret
    exact ⟨rfl, ⟨_, _, _, _, _, HP2.out, HA.out, rfl, rfl, rfl⟩⟩
set_option maxRecDepth 100000 in
set_option maxHeartbeats 1000000 in
theorem step_none (h : PSt w0 w W M Q F L P g v S n bad md m) (ha : Agr S bad n m) (ho : S.off = false) (x : Ac) (hin : True) (hop : x.op ≠ 1 ∧ x.op ≠ 2 ∧ x.op ≠ 3 ∧ x.op ≠ 4 ∧ x.op ≠ 5 ∧ x.op ≠ 6 ∧ x.op ≠ 7) : Calls Tryd.prog 23 #[.pointer (some ⟨W, 0, none⟩), x.val] w fun e w' => e = .returned (.bool true) ∧ PW w0 W M Q F L P g n S.nb S.pages S.chunks w' := by
  obtain ⟨op, bl, pg, fill, A, c, l, one, nn⟩ := x
  simp only [Ac.val, Ac.cells] at hop hin ⊢
  generalize l.length = ln at *
  have HA := Lib.hid ha
  have HX : Hid (PSt w0 (w.alloc (.cells #[.int .i64 op, .int .i64 bl, .int .i64 pg, .int .u8 fill, .slice A ln c, .bool one, .int .i64 nn] 68)) W M Q F L P g v S n bad md m) := h.alloc _
  have HR := Lib.hid (Row.fresh w 68 #[.int .i64 op, .int .i64 bl, .int .i64 pg, .int .u8 fill, .slice A ln c, .bool one, .int .i64 nn])
  have HOf := Lib.hid (HX.out.off ho)
  have c0 := HX.out.mem.cells.1
  have r0 := HR.out.cell 0
  have r1 := HR.out.cell 1
  have r2 := HR.out.cell 2
  have r5 := HR.out.cell 5
  have r6 := HR.out.cell 6
  simp only [List.getElem?_toArray, List.getElem?_cons_zero, List.getElem?_cons_succ] at r0 r1 r2 r5 r6
  clear h ha ho
  obtain ⟨n1, n2, n3, n4, n5, n6, n7⟩ := hop
  go_enter Tryd.func23, Tryd.ntmps23
  go_wp2_with fail
  refine HOf.out.mono ?_
  rintro e w1 ⟨rfl, rfl⟩
  clear HOf
  go_wp2
  go_ret
  exact ⟨rfl, ⟨_, _, _, _, _, HX.out, HA.out, rfl, rfl, rfl⟩⟩
set_option maxRecDepth 100000 in
set_option maxHeartbeats 1000000 in
theorem step_write (h : PSt w0 w W M Q F L P g v S n bad md m) (ha : Agr S bad n m) (ho : S.off = false) (x : Ac) (hin : AcW w0 x) (hop : x.op = 1) : Calls Tryd.prog 23 #[.pointer (some ⟨W, 0, none⟩), x.val] w fun e w' => e = .returned (.bool true) ∧ PW w0 W M Q F L P g n S.nb S.pages S.chunks w' := by
  have HWr : Hid (∀ w1, PSt w0 w1 W M Q F L P g v S n bad md m → Calls Tryd.prog 42 #[.pointer (some ⟨W, 0, none⟩), x.val] w1 fun e w' => e = .returned (.bool true) ∧ PW w0 W M Q F L P g n S.nb S.pages S.chunks w') := fun w1 h1 => write_any h1 ha ho x hin
  clear hin
  obtain ⟨op, bl, pg, fill, A, c, l, one, nn⟩ := x
  simp only [Ac.val, Ac.cells] at hop HWr ⊢
  generalize l.length = ln at *
  have HX : Hid (PSt w0 (w.alloc (.cells #[.int .i64 op, .int .i64 bl, .int .i64 pg, .int .u8 fill, .slice A ln c, .bool one, .int .i64 nn] 68)) W M Q F L P g v S n bad md m) := h.alloc _
  have HOf := Lib.hid (HX.out.off ho)
  have c0 := HX.out.mem.cells.1
  subst hop
  have HW1 := Lib.hid (HWr.out _ HX.out)
  clear h ha ho HWr
  go_enter Tryd.func23, Tryd.ntmps23
  go_wp2_with fail
  refine HOf.out.mono ?_
  rintro e w1 ⟨rfl, rfl⟩
  clear HOf
  go_wp2_with fail
  refine HW1.out.mono ?_
  rintro e w2 ⟨rfl, h2⟩
  have HP2 := Lib.hid h2
  clear HW1 h2
  go_wp2
  go_ret
  exact ⟨rfl, HP2.out⟩
set_option maxRecDepth 100000 in
set_option maxHeartbeats 1000000 in
theorem step_erase (h : PSt w0 w W M Q F L P g v S n bad md m) (ha : Agr S bad n m) (ho : S.off = false) (x : Ac) (hop : x.op = 3) : Calls Tryd.prog 23 #[.pointer (some ⟨W, 0, none⟩), x.val] w fun e w' => e = .returned (.bool true) ∧ PW w0 W M Q F L P g n S.nb S.pages S.chunks w' := by
  have HWr : Hid (∀ w1, PSt w0 w1 W M Q F L P g v S n bad md m → Calls Tryd.prog 43 #[.pointer (some ⟨W, 0, none⟩), x.val] w1 fun e w' => e = .returned (.bool true) ∧ PW w0 W M Q F L P g n S.nb S.pages S.chunks w') := fun w1 h1 => erase_any h1 ha ho x
  obtain ⟨op, bl, pg, fill, A, c, l, one, nn⟩ := x
  simp only [Ac.val, Ac.cells] at hop HWr ⊢
  generalize l.length = ln at *
  have HX : Hid (PSt w0 (w.alloc (.cells #[.int .i64 op, .int .i64 bl, .int .i64 pg, .int .u8 fill, .slice A ln c, .bool one, .int .i64 nn] 68)) W M Q F L P g v S n bad md m) := h.alloc _
  have HOf := Lib.hid (HX.out.off ho)
  have c0 := HX.out.mem.cells.1
  subst hop
  have HW1 := Lib.hid (HWr.out _ HX.out)
  clear h ha ho HWr
  go_enter Tryd.func23, Tryd.ntmps23
  go_wp2_with fail
  refine HOf.out.mono ?_
  rintro e w1 ⟨rfl, rfl⟩
  clear HOf
  go_wp2_with fail
  refine HW1.out.mono ?_
  rintro e w2 ⟨rfl, h2⟩
  have HP2 := Lib.hid h2
  clear HW1 h2
  go_wp2
  go_ret
  exact ⟨rfl, HP2.out⟩
set_option maxRecDepth 100000 in
set_option maxHeartbeats 1000000 in
theorem step_read (h : PSt w0 w W M Q F L P g v S n bad md m) (ha : Agr S bad n m) (ho : S.off = false) (x : Ac) (hin : True) (hop : x.op = 2) : Calls Tryd.prog 23 #[.pointer (some ⟨W, 0, none⟩), x.val] w fun e w' => e = .returned (.bool true) ∧ PW w0 W M Q F L P g n S.nb S.pages S.chunks w' := by
  have HRd : Hid (∀ w1, PSt w0 w1 W M Q F L P g v S n bad md m → Calls Tryd.prog 25 #[.pointer (some ⟨W, 0, none⟩), .int .i64 x.bl, .int .i64 x.pg] w1 fun e w' => e = .returned (.bool true) ∧ PRd w0 W M Q F L P g v S n bad m (fun _ _ => False) w') := fun w1 h1 => read_any h1 (fun _ _ hf => hf.elim) ha ho _ _
  obtain ⟨op, bl, pg, fill, A, c, l, one, nn⟩ := x
  simp only [Ac.val, Ac.cells] at hop hin ⊢
  generalize l.length = ln at *
  have HA := Lib.hid ha
  have HX : Hid (PSt w0 (w.alloc (.cells #[.int .i64 op, .int .i64 bl, .int .i64 pg, .int .u8 fill, .slice A ln c, .bool one, .int .i64 nn] 68)) W M Q F L P g v S n bad md m) := h.alloc _
  have HR := Lib.hid (Row.fresh w 68 #[.int .i64 op, .int .i64 bl, .int .i64 pg, .int .u8 fill, .slice A ln c, .bool one, .int .i64 nn])
  have HOf := Lib.hid (HX.out.off ho)
  have c0 := HX.out.mem.cells.1
  have r0 := HR.out.cell 0
  have r1 := HR.out.cell 1
  have r2 := HR.out.cell 2
  have r5 := HR.out.cell 5
  have r6 := HR.out.cell 6
  simp only [List.getElem?_toArray, List.getElem?_cons_zero, List.getElem?_cons_succ] at r0 r1 r2 r5 r6
  clear h ha ho
  subst hop
  have HR1 := Lib.hid (HRd.out _ HX.out)
  clear HRd
  go_enter Tryd.func23, Tryd.ntmps23
  go_wp2_with fail
  refine HOf.out.mono ?_
  rintro e w1 ⟨rfl, rfl⟩
  clear HOf
  go_wp2_with fail
  refine HR1.out.mono ?_
  rintro e w2 ⟨rfl, ⟨md2, h2⟩, _⟩
  have HP2 := Lib.hid h2
  clear HR1 h2
  go_wp2
  go_ret
  exact ⟨rfl, ⟨_, _, _, _, _, HP2.out, HA.out, rfl, rfl, rfl⟩⟩
end
end Go.Proofs.YtlidbkofjchnnaaDoor
