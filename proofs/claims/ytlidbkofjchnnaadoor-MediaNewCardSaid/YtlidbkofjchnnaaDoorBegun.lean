/- locketlaw6.begun. -/
import Derived.Test.YtlidbkofjchnnaaDoorKnown
import Derived.Test.YtlidbkofjchnnaaDoorMakes
namespace Go.Proofs.YtlidbkofjchnnaaDoor
open Go.RowKit
set_option linter.unusedVariables false
set_option linter.unusedSimpArgs false

theorem bool_info : (Tryd.prog.info? 4).map (fun i => (i.zero, i.size, i.bytes)) = some (some (.bool false), 1, 1) := by kernel_rfl
theorem bss_info : (Tryd.prog.info? 87).map (fun i => (i.zero, i.size, i.bytes)) = some (some (.slice none 0 0), 1, 24) := by kernel_rfl
/-- The law's own World: its cells. -/
def wcells (F M n pages nb : Nat) (g : Nat → Nat) : Array Value :=
  #[.pointer (some ⟨F, 0, none⟩), .pointer (some ⟨M, 0, none⟩), .int .i64 n, .int .i64 pages, .slice (some ⟨g 5, 0, none⟩) nb nb, .slice (some ⟨g 7, 0, none⟩) nb nb, .slice (some ⟨g 9, 0, none⟩) nb nb, .slice (some ⟨g 11, 0, none⟩) nb nb, .slice (some ⟨g 13, 0, none⟩) nb nb, .slice (some ⟨g 15, 0, none⟩) nb nb, .map (some (g 16))]
def wmks (nb : Nat) : List Mk :=
  [⟨5, 42, fun g => .slice (some ⟨g, 0, none⟩) nb nb, .cells (madeCells #[.slice none 0 0] nb) 87⟩, ⟨7, 44, fun g => .slice (some ⟨g, 0, none⟩) nb nb, .cells (madeCells #[.bool false] nb) 4⟩, ⟨9, 46, fun g => .slice (some ⟨g, 0, none⟩) nb nb, .cells (madeCells #[.bool false] nb) 4⟩, ⟨11, 48, fun g => .slice (some ⟨g, 0, none⟩) nb nb, .cells (madeCells #[.bool false] nb) 4⟩,
   ⟨13, 50, fun g => .slice (some ⟨g, 0, none⟩) nb nb, .cells (madeCells #[.bool false] nb) 4⟩, ⟨15, 52, fun g => .slice (some ⟨g, 0, none⟩) nb nb, .cells (madeCells #[.bool false] nb) 4⟩, ⟨16, 53, fun g => .map (some g), .map #[] 0⟩]
set_option maxRecDepth 100000 in
set_option maxHeartbeats 4000000 in
theorem begun_any (nb pages ch n : Nat) (h1 : 1 ≤ nb ∧ nb ≤ 1024) (h2 : 2 ≤ pages ∧ pages ≤ 256 ∧ pages % 2 = 0) (h3 : 1 ≤ ch ∧ ch ≤ 8) (h4 : 1 ≤ n ∧ n ≤ 64 * ch) (w : World) (hT : Tab w) :
    Calls Tryd.prog 8 #[.int .i64 nb, .int .i64 pages, .int .i64 ch, .int .i64 n] w fun e w' => ∃ W M Q F L P g w1, e = .returned (.pointer (some ⟨W, 0, none⟩)) ∧ MedIs w' w.heap.size M Q F L P (Fl.new nb pages ch) n (inL []) 0 ∧ Row w' W 31 (wcells F M n pages nb g) ∧ MFacts w1 w' (wmks nb) g ∧ Below w.heap.size w w1 ∧ Below w.heap.size w w' ∧ w1.heap.size ≤ W ∧ (∀ m ∈ wmks nb, g m.i < W) := by
  have HN := Lib.hid (New_any nb pages ch h1 h2 h3 w)
  obtain ⟨i1, ji, jz0, jz1, jz2⟩ := info_parts bool_info
  obtain ⟨i2, ki, kz0, kz1, kz2⟩ := info_parts bss_info
  have hb1 : Hid (i1.bytes * nb ≤ 281474976710656) := by unfold Hid; rw [jz2]; omega
  have hb2 : Hid (i2.bytes * nb ≤ 281474976710656) := by unfold Hid; rw [kz2]; omega
  have hmb : ∀ v : World, (Instr.makeSlice 28 (.int .i64 nb) (.int .i64 nb)).run Tryd.prog v = .ok (.slice (some ⟨v.heap.size, 0, none⟩) nb nb) (v.alloc (.cells (madeCells #[.bool false] nb) 4)) := fun v => run_make_row (P := Tryd.prog) 28 4 i1 _ Tryd.underlying28 ji jz0 jz1 rfl .i64 .i64 nb hb1.out (by omega) v
  have hms : ∀ v : World, (Instr.makeSlice 27 (.int .i64 nb) (.int .i64 nb)).run Tryd.prog v = .ok (.slice (some ⟨v.heap.size, 0, none⟩) nb nb) (v.alloc (.cells (madeCells #[.slice none 0 0] nb) 87)) := fun v => run_make_row (P := Tryd.prog) 27 87 i2 _ Tryd.underlying27 ki kz0 kz1 rfl .i64 .i64 nb hb2.out (by omega) v
  have HMb := Lib.hid hmb
  have HMs := Lib.hid hms
  have HT := Lib.hid hT
  have H4 := Lib.hid h4
  clear hT hmb hms hb1 hb2 ji jz0 jz1 jz2 ki kz0 kz1 kz2 h2 h3 h4
  go_enter Tryd.func8, Tryd.ntmps8
  go_wp2_with fail
  refine HN.out.mono ?_
  rintro e w1 ⟨F, L, P, rfl, hf, hb⟩
  have HB1 := Lib.hid hb
  have HT1 := Lib.hid (HT.out.keep (keep_below hb))
  have HM1 := Lib.hid (New_yes hf HT.out.lt HT1.out n H4.out none [] (by decide) 0 (fun i h => absurd h (by simp)) (by decide) rfl)
  clear hf hb HN
  go_wp2_with fail
  refine HM1.out.mono ?_
  rintro e w2 ⟨M, Q, rfl, hm, hb, _, _⟩
  have HM2 := Lib.hid hm
  have HB2 : Hid (Below w.heap.size w w2) := HB1.out.trans (hb.mono HB1.out.size)
  clear hm hb HM1 HB1 HT1
  go_wp2
  refine region_makes [] [0, 1, 2, 3, 4, 6, 8, 10, 12, 14] [5, 7, 9, 11, 13, 15, 16] [17, 18, 19] (by kernel_rfl) (by kernel_rfl) (fun _ _ _ _ _ h => h) ?_
  simp only [List.filterMap_cons, List.getElem?_cons_zero, List.getElem?_cons_succ, List.filterMap_nil]
  (repeat ((show wpQuiet _ _ _ _ (_ :: _) _); go_big_quiet_step (fail)))
  refine wpQuiet_nil ?_
  refine ⟨wmks nb, rfl, ⟨by unfold wmks; simp, by unfold wmks; simp, fun m hm => ?_⟩, fun g u hf => ?_⟩
  · unfold wmks at hm
    simp only [List.mem_cons, List.not_mem_nil, or_false] at hm
    rcases hm with rfl | rfl | rfl | rfl | rfl | rfl | rfl
    · exact ⟨_, rfl, (by show (5 : Nat) < 19; omega), rfl, rfl, fun a v h => exec_mk rfl ((h 41 (by unfold wmks; simp)).trans rfl) (HMs.out v)⟩
    · exact ⟨_, rfl, (by show (7 : Nat) < 19; omega), rfl, rfl, fun a v h => exec_mk rfl ((h 43 (by unfold wmks; simp)).trans rfl) (HMb.out v)⟩
    · exact ⟨_, rfl, (by show (9 : Nat) < 19; omega), rfl, rfl, fun a v h => exec_mk rfl ((h 45 (by unfold wmks; simp)).trans rfl) (HMb.out v)⟩
    · exact ⟨_, rfl, (by show (11 : Nat) < 19; omega), rfl, rfl, fun a v h => exec_mk rfl ((h 47 (by unfold wmks; simp)).trans rfl) (HMb.out v)⟩
    · exact ⟨_, rfl, (by show (13 : Nat) < 19; omega), rfl, rfl, fun a v h => exec_mk rfl ((h 49 (by unfold wmks; simp)).trans rfl) (HMb.out v)⟩
    · exact ⟨_, rfl, (by show (15 : Nat) < 19; omega), rfl, rfl, fun a v h => exec_mk rfl ((h 51 (by unfold wmks; simp)).trans rfl) (HMb.out v)⟩
    · exact ⟨_, rfl, by decide, rfl, rfl, fun a v h => exec_mkmap rfl⟩
  · have HF := Lib.hid hf
    have HTu : Hid (Turns w2 u []) := ⟨hf.below.os, hf.below.tape, hf.below.output, hf.below.size, fun k hk _ => hf.below.block k hk⟩
    have HBu : Hid (Below w.heap.size w u) := HB2.out.trans (show Below w.heap.size w2 u from ⟨hf.below.os, hf.below.tape, hf.below.output, hf.below.size, fun k hk => hf.below.block k (Nat.lt_of_lt_of_le hk HB2.out.size)⟩)
    have HMu : Hid (MedIs u w.heap.size M Q F L P (Fl.new nb pages ch) n (inL []) 0) := HM2.out.keep HTu.out
    have HGl : Hid (∀ m ∈ wmks nb, g m.i < u.heap.size) := fun m hm => (Array.getElem?_eq_some_iff.1 (hf.at' m hm).2).1
    clear hf
    have e0 : ∀ a : Act, putsM a (wmks nb) g = ((((((a.put (some 42) (.slice (some ⟨g 5, 0, none⟩) nb nb)).put (some 44) (.slice (some ⟨g 7, 0, none⟩) nb nb)).put (some 46) (.slice (some ⟨g 9, 0, none⟩) nb nb)).put (some 48) (.slice (some ⟨g 11, 0, none⟩) nb nb)).put (some 50) (.slice (some ⟨g 13, 0, none⟩) nb nb)).put (some 52) (.slice (some ⟨g 15, 0, none⟩) nb nb)).put (some 53) (.map (some (g 16))) := fun a => rfl
    rw [e0]
    clear e0
    simp only [Act.put, List.setIfInBounds_toArray, List.set_cons_zero, List.set_cons_succ]
    refine wpSeqS_step ?_
    go_wp2_with fail
    refine outQ_normal HTu.out ?_
    refine wpSeqS_step ?_
    go_wp2_with fail
    refine outQ_normal (HTu.out.alloc _) ?_
    refine wpSeqS_last ?_
    go_wp2
    go_ret
    refine ⟨u.heap.size, M, Q, F, L, P, g, w2.drew, rfl, HMu.out.alloc _, Row.fresh _ _ _, ?_, HB2.out.drew, HBu.out.alloc HBu.out.size _, HF.out.below.size, HGl.out⟩
    exact ⟨fun m hm => ⟨(HF.out.at' m hm).1, (Below.heap_alloc u _ _ (HGl.out m hm)).trans (HF.out.at' m hm).2⟩, HF.out.ne, HF.out.below.alloc HF.out.below.size _⟩
end Go.Proofs.YtlidbkofjchnnaaDoor
