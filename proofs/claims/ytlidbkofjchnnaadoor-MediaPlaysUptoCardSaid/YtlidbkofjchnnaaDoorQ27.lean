/- What follows is laid together from several texts of mine, in their order. -/
import Derived.Test.YtlidbkofjchnnaaDoorQ26

namespace Go.Proofs.YtlidbkofjchnnaaDoor
open Go.RowKit
set_option linter.unusedVariables false
set_option linter.unusedSimpArgs false

section
variable {w0 w : World} {W M Q F L n nb pages ch : Nat} {P g : Nat → Nat} {v : Nat → Value} {S : Fl} {bad : Nat → Bool} {md : Int} {m : Pm}
theorem step_flip_any (h : PSt w0 w W M Q F L P g v S n bad md m) (ha : Agr S bad n m) (ho : S.off = false) (x : Ac) (hx : AcW w0 x) (hop : x.op = 5) : Calls Tryd.prog 23 #[.pointer (some ⟨W, 0, none⟩), x.val] w fun e w' => e = .returned (.bool true) ∧ PW w0 W M Q F L P g n S.nb S.pages S.chunks w' := by
  by_cases hn : x.n < 0
  · exact step_flip_neg h ha ho x hn hop
  · obtain ⟨b, hb⟩ := Int.eq_ofNat_of_zero_le (show 0 ≤ x.n by omega)
    have hnn := hx.n
    unfold R64 at hnn
    have hb1 : b < 9223372036854775808 := by omega
    have hs : spotOf (b / 8) ≤ b / 8 / 73 * 9 + 72 := by
      unfold spotOf
      split
      · omega
      · split <;> omega
    have hR : R64 x.bl ∧ R64 x.pg ∧ R64 ((spotOf (b / 8) : Nat) : Int) := ⟨hx.bl, hx.pg, by unfold R64; omega⟩
    cases ht : tnZ m.tn x.bl x.pg (spotOf (b / 8) : Nat) with
    | true => exact step_flip_turned h ha ho x b _ rfl hb1 hR ht hb hop
    | false =>
      by_cases hf : ∃ i : Nat, x.bl = i ∧ i < S.nb ∧ S.flips i x.pg b
      · obtain ⟨k, hk, hkn, hfl⟩ := hf
        obtain ⟨p, hp⟩ := Int.eq_ofNat_of_zero_le hfl.1.1
        rw [hp] at hfl
        have h1 := h.med.fl.ok.nb
        have h2 := h.med.fl.ok.pages
        have h3 := h.med.fl.ok.chunks
        have h4 : S.has k ≤ S.pages := by unfold Fl.has hasOf; split <;> omega
        have h5 := hfl.1.2
        have h6 := hfl.2.2.2.2
        refine step_flip_yes h ha ho x k p b _ rfl hb1 hk hp hkn ⟨by omega, by omega, by omega⟩ ?_ hb hop hfl h.med.bytes.2
        rw [hk, hp] at ht
        unfold tnZ at ht
        simpa using ht
      · exact step_flip_no h ha ho x b _ rfl hb1 hR ht hb hop (fun i hi hin hfl => hf ⟨i, hi, hin, hfl⟩)
theorem step_any (h : PSt w0 w W M Q F L P g v S n bad md m) (ha : Agr S bad n m) (x : Ac) (hx : AcW w0 x) : Calls Tryd.prog 23 #[.pointer (some ⟨W, 0, none⟩), x.val] w fun e w' => e = .returned (.bool true) ∧ PW w0 W M Q F L P g n S.nb S.pages S.chunks w' := by
  by_cases h7 : x.op = 7
  · exact step_on h ha rfl x trivial h7
  · cases ho : S.off with
    | true => exact step_off h ha ho x trivial h7
    | false =>
      by_cases h1 : x.op = 1
      · exact step_write h ha ho x hx h1
      by_cases h2 : x.op = 2
      · exact step_read h ha ho x trivial h2
      by_cases h3 : x.op = 3
      · exact step_erase h ha ho x h3
      by_cases h4 : x.op = 4
      · by_cases hk : x.bl < 0 ∨ S.nb ≤ x.bl
        · exact step_fail_out h ha ho x hk h4
        · obtain ⟨i, hi⟩ := Int.eq_ofNat_of_zero_le (show 0 ≤ x.bl by omega)
          exact step_fail h ha ho x i (by omega) hi h4
      by_cases h5 : x.op = 5
      · exact step_flip_any h ha ho x hx h5
      by_cases h6 : x.op = 6
      · exact step_arm h ha ho x hx h6
      exact step_none h ha ho x trivial ⟨h1, h2, h3, h4, h5, h6, h7⟩
end
set_option maxRecDepth 100000 in
set_option maxHeartbeats 4000000 in
theorem begun_apart (nb pages ch n : Nat) (h1 : 1 ≤ nb ∧ nb ≤ 1024) (h2 : 2 ≤ pages ∧ pages ≤ 256 ∧ pages % 2 = 0) (h3 : 1 ≤ ch ∧ ch ≤ 8) (h4 : 1 ≤ n ∧ n ≤ 64 * ch) (w : World) (hT : Tab w) :
    Calls Tryd.prog 8 #[.int .i64 nb, .int .i64 pages, .int .i64 ch, .int .i64 n] w fun e w' => ∃ W M Q F L P g w1, e = .returned (.pointer (some ⟨W, 0, none⟩)) ∧ MedIs w' w.heap.size M Q F L P (Fl.new nb pages ch) n (inL []) 0 ∧ Row w' W 31 (wcells F M n pages nb g) ∧ MFacts w1 w' (wmks nb) g ∧ Below w.heap.size w w1 ∧ Below w.heap.size w w' ∧ w1.heap.size ≤ W ∧ (∀ m ∈ wmks nb, g m.i < W) ∧ Q < w1.heap.size := by
  have HN := Lib.hid (New_any nb pages ch h1 h2 h3 w)
  obtain ⟨i1, ji, jz0, jz1, jz2⟩ := info_parts bool_info
  obtain ⟨i2, ki, kz0, kz1, kz2⟩ := info_parts bss_info
  have hb1 : Hid (i1.bytes * nb ≤ 281474976710656) := by unfold Hid; rw [jz2]; omega
  have hb2 : Hid (i2.bytes * nb ≤ 281474976710656) := by unfold Hid; rw [kz2]; omega
  have hmb : ∀ v : World, (Instr.makeSlice 28 (.int .i64 nb) (.int .i64 nb)).run Tryd.prog v = .ok (.slice (some ⟨v.heap.size, 0, none⟩) nb nb) (v.alloc (.cells (madeCells #[.bool false] nb) 4)) := fun v => run_make_row (P := Tryd.prog) 28 4 i1 _ Tryd.underlying28 ji jz0 jz1 rfl .i64 .i64 nb hb1.out (by omega) v
  have hms : ∀ v : World, (Instr.makeSlice 27 (.int .i64 nb) (.int .i64 nb)).run Tryd.prog v = .ok (.slice (some ⟨v.heap.size, 0, none⟩) nb nb) (v.alloc (.cells (madeCells #[.slice none 0 0] nb) 87)) := fun v => run_make_row (P := Tryd.prog) 27 87 i2 _ Tryd.underlying27 ki kz0 kz1 rfl .i64 .i64 nb hb2.out (by omega) v
  have HMb := Lib.hid hmb
  have HMs := Lib.hid hms
  have HT := Lib.hid hT
  have H4 := Lib.hid h4
  clear hT hmb hms hb1 hb2 ji jz0 jz1 jz2 ki kz0 kz1 kz2 h2 h3 h4
  go_enter Tryd.func8, Tryd.ntmps8
  go_wp2_with fail
  refine HN.out.mono ?_
  rintro e w1 ⟨F, L, P, rfl, hf, hb⟩
  have HB1 := Lib.hid hb
  have HT1 := Lib.hid (HT.out.keep (keep_below hb))
  have HM1 := Lib.hid (New_yes hf HT.out.lt HT1.out n H4.out none [] (by decide) 0 (fun i h => absurd h (by simp)) (by decide) rfl)
  clear hf hb HN
  go_wp2_with fail
  refine HM1.out.mono ?_
  rintro e w2 ⟨M, Q, rfl, hm, hb, _, _⟩
  have HM2 := Lib.hid hm
  have HQ2 : Hid (Q < w2.drew.heap.size) := hm.bad.lt
  have HB2 : Hid (Below w.heap.size w w2) := HB1.out.trans (hb.mono HB1.out.size)
  clear hm hb HM1 HB1 HT1
  go_wp2
  refine region_makes [] [0, 1, 2, 3, 4, 6, 8, 10, 12, 14] [5, 7, 9, 11, 13, 15, 16] [17, 18, 19] (by kernel_rfl) (by kernel_rfl) (fun _ _ _ _ _ h => h) ?_
  simp only [List.filterMap_cons, List.getElem?_cons_zero, List.getElem?_cons_succ, List.filterMap_nil]
  (repeat ((show wpQuiet _ _ _ _ (_ :: _) _); go_big_quiet_step (fail)))
  refine wpQuiet_nil ?_
  refine ⟨wmks nb, rfl, ⟨by unfold wmks; simp, by unfold wmks; simp, fun m hm => ?_⟩, fun g u hf => ?_⟩
  · unfold wmks at hm
    simp only [List.mem_cons, List.not_mem_nil, or_false] at hm
    rcases hm with rfl | rfl | rfl | rfl | rfl | rfl | rfl
    · exact ⟨_, rfl, (by show (5 : Nat) < 19; omega), rfl, rfl, fun a v h => exec_mk rfl ((h 41 (by unfold wmks; simp)).trans rfl) (HMs.out v)⟩
    · exact ⟨_, rfl, (by show (7 : Nat) < 19; omega), rfl, rfl, fun a v h => exec_mk rfl ((h 43 (by unfold wmks; simp)).trans rfl) (HMb.out v)⟩
    · exact ⟨_, rfl, (by show (9 : Nat) < 19; omega), rfl, rfl, fun a v h => exec_mk rfl ((h 45 (by unfold wmks; simp)).trans rfl) (HMb.out v)⟩
    · exact ⟨_, rfl, (by show (11 : Nat) < 19; omega), rfl, rfl, fun a v h => exec_mk rfl ((h 47 (by unfold wmks; simp)).trans rfl) (HMb.out v)⟩
    · exact ⟨_, rfl, (by show (13 : Nat) < 19; omega), rfl, rfl, fun a v h => exec_mk rfl ((h 49 (by unfold wmks; simp)).trans rfl) (HMb.out v)⟩
    · exact ⟨_, rfl, (by show (15 : Nat) < 19; omega), rfl, rfl, fun a v h => exec_mk rfl ((h 51 (by unfold wmks; simp)).trans rfl) (HMb.out v)⟩
    · exact ⟨_, rfl, by decide, rfl, rfl, fun a v h => exec_mkmap rfl⟩
  · have HF := Lib.hid hf
    have HTu : Hid (Turns w2 u []) := ⟨hf.below.os, hf.below.tape, hf.below.output, hf.below.size, fun k hk _ => hf.below.block k hk⟩
    have HBu : Hid (Below w.heap.size w u) := HB2.out.trans (show Below w.heap.size w2 u from ⟨hf.below.os, hf.below.tape, hf.below.output, hf.below.size, fun k hk => hf.below.block k (Nat.lt_of_lt_of_le hk HB2.out.size)⟩)
    have HMu : Hid (MedIs u w.heap.size M Q F L P (Fl.new nb pages ch) n (inL []) 0) := HM2.out.keep HTu.out
    have HGl : Hid (∀ m ∈ wmks nb, g m.i < u.heap.size) := fun m hm => (Array.getElem?_eq_some_iff.1 (hf.at' m hm).2).1
    clear hf
    have e0 : ∀ a : Act, putsM a (wmks nb) g = ((((((a.put (some 42) (.slice (some ⟨g 5, 0, none⟩) nb nb)).put (some 44) (.slice (some ⟨g 7, 0, none⟩) nb nb)).put (some 46) (.slice (some ⟨g 9, 0, none⟩) nb nb)).put (some 48) (.slice (some ⟨g 11, 0, none⟩) nb nb)).put (some 50) (.slice (some ⟨g 13, 0, none⟩) nb nb)).put (some 52) (.slice (some ⟨g 15, 0, none⟩) nb nb)).put (some 53) (.map (some (g 16))) := fun a => rfl
    rw [e0]
    clear e0
    simp only [Act.put, List.setIfInBounds_toArray, List.set_cons_zero, List.set_cons_succ]
    refine wpSeqS_step ?_
    go_wp2_with fail
    refine outQ_normal HTu.out ?_
    refine wpSeqS_step ?_
    go_wp2_with fail
    refine outQ_normal (HTu.out.alloc _) ?_
    refine wpSeqS_last ?_
    go_wp2
    go_ret
    refine ⟨u.heap.size, M, Q, F, L, P, g, w2.drew, rfl, HMu.out.alloc _, Row.fresh _ _ _, ?_, HB2.out.drew, HBu.out.alloc HBu.out.size _, HF.out.below.size, HGl.out, HQ2.out⟩
    exact ⟨fun m hm => ⟨(HF.out.at' m hm).1, (Below.heap_alloc u _ _ (HGl.out m hm)).trans (HF.out.at' m hm).2⟩, HF.out.ne, HF.out.below.alloc HF.out.below.size _⟩
theorem valsA_start (nb : Nat) (u : Value) : madeCells #[u] nb = valsA nb (fun _ => u) := by
  apply Array.ext_getElem?
  intro i
  by_cases h : i < nb
  · rw [made_at _ _ _ h, valsA_get nb _ i h]
  · rw [Array.getElem?_eq_none (by rw [size_madeCells]; omega), Array.getElem?_eq_none (by simp [valsA]; omega)]
def pm0 : Pm := ⟨fun _ => [], fun _ => false, fun _ => false, fun _ => false, fun _ => false, fun _ _ _ => false⟩
theorem agr0 (nb pages ch n : Nat) : Agr (Fl.new nb pages ch) (inL []) n pm0 := fun k hk =>
  ⟨rfl, rfl, rfl, rfl, fun _ => rfl, fun p d _ hp => by simp [pm0] at hp, fun p _ hp => by simp [pm0] at hp, fun p s _ ht => by cases ht⟩
theorem begun_pst (w0 w : World) (hb : Below w0.heap.size w0 w) (hT : Tab w0) (nb pages ch n : Nat) (h1 : 1 ≤ nb ∧ nb ≤ 1024) (h2 : 2 ≤ pages ∧ pages ≤ 256 ∧ pages % 2 = 0) (h3 : 1 ≤ ch ∧ ch ≤ 8) (h4 : 1 ≤ n ∧ n ≤ 64 * ch) :
    Calls Tryd.prog 8 #[.int .i64 nb, .int .i64 pages, .int .i64 ch, .int .i64 n] w fun e w' => ∃ W M Q F L P g, e = .returned (.pointer (some ⟨W, 0, none⟩)) ∧ PW w0 W M Q F L P g n nb pages ch w' := by
  refine (begun_apart nb pages ch n h1 h2 h3 h4 w (hT.keep (keep_below hb))).mono fun e w' ⟨W, M, Q, F, L, P, g, w1, he, hmed, hrow, hm, hb1, hb2, hW, _, hQ⟩ => ?_
  have hs := hb.size
  have hs1 := hb1.size
  have at' := fun (x : Mk) (hx : x ∈ wmks nb) => hm.at' x hx
  have ne := fun (x y : Mk) (hx : x ∈ wmks nb) (hy : y ∈ wmks nb) (e : x.i ≠ y.i) => hm.ne x hx y hy e
  unfold wmks at at' ne
  obtain ⟨a5, r5⟩ := at' _ (.head _)
  obtain ⟨a9, r9⟩ := at' _ (.tail _ (.tail _ (.head _)))
  obtain ⟨a11, r11⟩ := at' _ (.tail _ (.tail _ (.tail _ (.head _))))
  obtain ⟨a13, r13⟩ := at' _ (.tail _ (.tail _ (.tail _ (.tail _ (.head _)))))
  obtain ⟨a15, r15⟩ := at' _ (.tail _ (.tail _ (.tail _ (.tail _ (.tail _ (.head _))))))
  obtain ⟨a16, r16⟩ := at' _ (.tail _ (.tail _ (.tail _ (.tail _ (.tail _ (.tail _ (.head _)))))))
  rw [isA_start] at r9 r11 r13 r15
  rw [valsA_start] at r5
  refine ⟨W, M, Q, F, L, P, g, he, ⟨_, _, _, _, pm0, ⟨hmed.low hT.lt hs, ⟨hrow, r5, r9, r11, r13, r15, TnIs.of_heap r16, fun k _ => PgsIs.nil _ _, fun k k' x _ _ e _ => (by cases e), ⟨?_, ?_, ?_, ?_, ?_, ?_⟩, ⟨by omega, by simp only at a5; omega, by simp only at a9; omega, by simp only at a11; omega, by simp only at a13; omega, by simp only at a15; omega, by simp only at a16; omega⟩⟩,
    fun x ⟨k, _, e⟩ => (by cases e), by simp only at a16; omega, hb.trans (hb2.mono hs)⟩, agr0 nb pages ch n, rfl, rfl, rfl⟩⟩
  · exact ne _ _ (.tail _ (.tail _ (.head _))) (.tail _ (.tail _ (.tail _ (.head _)))) (by simp)
  · exact ne _ _ (.tail _ (.tail _ (.head _))) (.tail _ (.tail _ (.tail _ (.tail _ (.head _))))) (by simp)
  · exact ne _ _ (.tail _ (.tail _ (.head _))) (.tail _ (.tail _ (.tail _ (.tail _ (.tail _ (.head _)))))) (by simp)
  · exact ne _ _ (.tail _ (.tail _ (.tail _ (.head _)))) (.tail _ (.tail _ (.tail _ (.tail _ (.head _))))) (by simp)
  · exact ne _ _ (.tail _ (.tail _ (.tail _ (.head _)))) (.tail _ (.tail _ (.tail _ (.tail _ (.tail _ (.head _)))))) (by simp)
  · exact ne _ _ (.tail _ (.tail _ (.tail _ (.tail _ (.head _))))) (.tail _ (.tail _ (.tail _ (.tail _ (.tail _ (.head _)))))) (by simp)
end Go.Proofs.YtlidbkofjchnnaaDoor
