/- What follows is laid together from several texts of mine, in their order. -/
import Derived.Test.YtlidbkofjchnnaaDoorQ15

namespace Go.Proofs.YtlidbkofjchnnaaDoor
open Go.RowKit
set_option linter.unusedVariables false
set_option linter.unusedSimpArgs false

def kS0 : Fl := Fl.new 2 4 2
def kS1 : Fl := kS0.wrote 1 (laid zs 2)
def kS2 : Fl := kS1.flipped 1 0 9
theorem kS1_raw : kS1.raw 1 0 = laid zs 2 := by
  unfold kS1
  exact wrote_raw kS0 1 (laid zs 2) (by decide) (laid_raw (by decide) (by decide)).1
theorem kS2_raw : kS2.raw 1 0 = kr := by
  unfold kS2
  rw [← kr_eq, ← kS1_raw]
  rfl
theorem kS2_raw1 : kS2.raw 1 1 = List.replicate 146 255 := rfl
theorem zs_lt : ∀ u ∈ zs, u < 256 := by decide
theorem blank_how : howOf (List.replicate 146 255) 2 = 0 := by decide +kernel
theorem blank_cnt : cntOf (List.replicate 146 255) 2 = 0 := by
  unfold cntOf
  rw [if_neg (fun h => by have : stateOf (List.replicate 146 255) 2 = 0 := by decide +kernel
                          rw [this] at h; cases h.1)]
/-- A row of noughts, fresh. -/
theorem zeros_cells (w : World) (n : Nat) : Cells8 (w.alloc (.cells (madeCells #[.int .u8 0] n) 5)) (some ⟨w.heap.size, 0, none⟩) (List.replicate n 0) :=
  Cells8.of_row (t := 5) (by rw [← made_zero]; exact Row.fresh w _ _)
section
variable {w : World} {B M Q F L n : Nat} {P : Nat → Nat} {S : Fl} {bad : Nat → Bool} {md : Int}
theorem MedIs.alloc (h : MedIs w B M Q F L P S n bad md) (o : Obj) : MedIs (w.alloc o) B M Q F L P S n bad md := h.keep ((Turns.refl w []).alloc o)
theorem MedIs.md_eq (h : MedIs w B M Q F L P S n bad md) {md' : Int} (e : md = md') : MedIs w B M Q F L P S n bad md' := e ▸ h
theorem MedIs.below {w' : World} (h : MedIs w B M Q F L P S n bad md) (hb : Below w.heap.size w w') : MedIs w' B M Q F L P S n bad md := h.keep (Turns.of_below hb [])
theorem MedIs.size (h : MedIs w B M Q F L P S n bad md) : B ≤ w.heap.size := by have := h.row.lt; have := h.hM; omega
/-- What turns a media's own blocks leaves all that was there ahead of it. -/
theorem MedIs.behind {w0 w' : World} {T : List Nat} (h : MedIs w w0.heap.size M Q F L P S n bad md) (hb : Below w0.heap.size w0 w) (ht : Turns w w' T) (hT : ∀ g ∈ T, g ∈ medT M Q F L P S.nb) : Below w0.heap.size w0 w' :=
  ht.below hb hb.size (fun g hg => h.at_least g (hT g hg))
end
section
variable {w0 w : World} {M Q F L : Nat} {P : Nat → Nat}
theorem known_write (h : MedIs w w0.heap.size M Q F L P kS0 100 (inL []) 0) (hb : Below w0.heap.size w0 w) :
    Calls Tryd.prog 10 #[.pointer (some ⟨M, 0, none⟩), .int .i64 1, .slice (some ⟨w.heap.size, 0, none⟩) 100 100] (w.alloc (.cells (madeCells #[.int .u8 0] 100) 5)) fun e w' => e = .returned (.tuple #[.int .i64 0, .int .i64 0]) ∧ MedIs w' w0.heap.size M Q F L P kS1 100 (inL []) 0 ∧ Below w0.heap.size w0 w' := by
  have h1 := h.alloc (.cells (madeCells #[.int .u8 0] 100) 5)
  have hA : ∀ a, some (⟨w.heap.size, 0, none⟩ : Addr) = some a → a.block ∉ medT M Q F L P kS0.nb := fun a e => by
    injection e with e; subst e
    exact h1.no_bytes (Row.fresh w 5 _)
  refine (MWrite_done h1 1 (by decide) _ 100 zs (by decide) zs_lt (zeros_cells w 100) hA (by decide) rfl rfl (.inl rfl)).mono fun e w' ⟨ht, h3, _⟩ => ?_
  obtain ⟨he, hm⟩ := h3 (.inl rfl)
  exact ⟨he, hm.md_eq (by decide), h1.behind (hb.alloc hb.size _) ht (fun g hg => hg)⟩
theorem known_flip (h : MedIs w w0.heap.size M Q F L P kS1 100 (inL []) 0) (hb : Below w0.heap.size w0 w) :
    Calls Tryd.prog 26 #[.pointer (some ⟨F, 0, none⟩), .int .i64 1, .int .i64 0, .int .i64 9] w fun e w' => e = .returned (.bool true) ∧ MedIs w' w0.heap.size M Q F L P kS2 100 (inL []) 0 ∧ Below w0.heap.size w0 w' := by
  refine (Flip_yes h.fl 1 (by decide) 0 9 ⟨⟨by decide, by decide⟩, rfl, by decide, by decide, by decide⟩).mono fun e w' ⟨he, hf, ht⟩ => ?_
  have hT : ∀ g ∈ [P 1], g ∈ flS F L P kS1.nb := fun g hg => mem_flS.2 (.inr (.inr ⟨1, by decide, List.mem_singleton.1 hg⟩))
  exact ⟨he, h.flash hf ht hT rfl rfl, h.behind hb ht (fun g hg => fl_med (hT g hg))⟩
theorem known_read (h : MedIs w w0.heap.size M Q F L P kS2 100 (inL []) 0) (hb : Below w0.heap.size w0 w) :
    Calls Tryd.prog 21 #[.pointer (some ⟨M, 0, none⟩), .int .i64 1, .int .i64 0] w fun e w' => ∃ A q, e = .returned (.tuple #[.slice A 100 q, .int .i64 0]) ∧ w'.ownsRow w.heap.size 5 1 (.slice A 100 q) 100 (intsV .u8 zs) ∧ MedIs w' w0.heap.size M Q F L P kS2 100 (inL []) 1 ∧ Below w0.heap.size w0 w' := by
  refine (MRead_core h 1 (by decide) 0 (by decide) rfl rfl).mono fun e w' ⟨hm, ht, _, _, h4⟩ => ?_
  rw [kS2_raw] at hm h4
  obtain ⟨A, q, he, ho⟩ := h4 kr_how
  rw [show kS2.chunks = 2 from rfl, kr_bytes] at ho
  exact ⟨A, q, he, ho, hm.md_eq (by rw [show kS2.chunks = 2 from rfl, kr_cntOf]; decide), h.behind hb ht (by simp [medT, flS])⟩
theorem known_blank (h : MedIs w w0.heap.size M Q F L P kS2 100 (inL []) 1) (hb : Below w0.heap.size w0 w) :
    Calls Tryd.prog 21 #[.pointer (some ⟨M, 0, none⟩), .int .i64 1, .int .i64 1] w fun e w' => e = .returned (.tuple #[.slice none 0 0, .int .i64 9]) ∧ MedIs w' w0.heap.size M Q F L P kS2 100 (inL []) 1 ∧ Below w0.heap.size w0 w' ∧ Turns w w' [M, F] := by
  refine (MRead_core h 1 (by decide) 1 (by decide) rfl rfl).mono fun e w' ⟨hm, ht, h3, _, _⟩ => ?_
  rw [kS2_raw1] at hm h3
  exact ⟨h3 (.inl blank_how), hm.md_eq (by rw [show kS2.chunks = 2 from rfl, blank_cnt]; decide), h.behind hb ht (by simp [medT, flS]), ht⟩
end
set_option maxRecDepth 100000 in
set_option maxHeartbeats 4000000 in
theorem known_any (w : World) (hT : Tab w) : Calls Tryd.prog 7 #[] w fun e w' => e = .returned (.bool true) ∧ Below w.heap.size w w' := by
  have HN := Lib.hid (New_any 2 4 2 (by omega) (by omega) (by omega) w)
  obtain ⟨i1, ji, jz0, jz1, jz2⟩ := info_parts u8_info
  have hb1 : Hid (i1.bytes * 100 ≤ 281474976710656) := by unfold Hid; rw [jz2]; decide
  have HT := Lib.hid hT
  clear hT
  go_enter Tryd.func7, Tryd.ntmps7
  go_wp2_with fail
  refine HN.out.mono ?_
  rintro e w1 ⟨F, L, P, rfl, hf, hb⟩
  have HB1 := Lib.hid hb
  have HT1 := Lib.hid (HT.out.keep (keep_below hb))
  have HM1 := Lib.hid (New_yes hf HT.out.lt HT1.out 100 (by decide) none [] (by decide) 0 (fun i h => absurd h (by simp)) (by decide) (by decide))
  clear hf hb HN
  go_wp2_with fail
  refine HM1.out.mono ?_
  rintro e w2 ⟨M, Q, rfl, hm, hb, _, _⟩
  have HB2 : Hid (Below w.heap.size w w2) := HB1.out.trans (hb.mono HB1.out.size)
  have HW := Lib.hid (known_write hm HB2.out)
  clear hm hb HM1 HB1 HT1
  go_wp2_with (with_reducible refine wpList_make_row _ (o := ⟨some 33, .makeSlice 46 (.const (.int .i64 100)) (.const (.int .i64 100)), _, _, _, _⟩) rfl (.const (.int .i64 100)) (.const (.int .i64 100)) 46 rfl 5 i1 _ Tryd.underlying46 ji jz0 jz1 rfl .i64 .i64 100 rfl rfl hb1.out (by decide) ?_)
  refine HW.out.mono ?_
  rintro e w3 ⟨rfl, hm, hb⟩
  have HFl := Lib.hid (known_flip hm hb)
  clear hm hb HW HB2
  go_wp2_with fail
  refine HFl.out.mono ?_
  rintro e w4 ⟨rfl, hm, hb⟩
  have HRd := Lib.hid (known_read hm hb)
  clear hm hb HFl
  go_wp2_with fail
  refine HRd.out.mono ?_
  rintro e w5 ⟨A, q, rfl, ho, hm, hb⟩
  have HO := Lib.hid ho
  have HM5 := Lib.hid hm
  have HBl := Lib.hid (known_blank hm hb)
  clear hm hb ho HRd
  go_wp2_with fail
  refine HBl.out.mono ?_
  rintro e w6 ⟨rfl, hm, hb, ht⟩
  have HO6 := Lib.hid (HM5.out.own ht (by simp [medT, flS]) HO.out)
  have HM6 := Lib.hid hm
  have HB6 := Lib.hid hb
  have HMd : Hid (∀ t : Later w6, Calls Tryd.prog 27 #[.pointer (some ⟨M, 0, none⟩)] t.u fun e w' => e = .returned (.int .i64 1) ∧ t.u = w') := fun t => Mended_any (HM6.out.below t.h)
  have HRo : Hid (∀ t : Later w6, Calls Tryd.prog 19 #[.pointer (some ⟨M, 0, none⟩), .int .i64 1] t.u fun e w' => e = .returned (.int .i64 3) ∧ ∃ m, w' = t.u.drewN m) := fun t => Room_in (HM6.out.below t.h) 1 (by decide)
  have HCv : Hid (∀ t : Later w6, (convert 46 9 (.slice A 100 q)).run Tryd.prog t.u = .ok (.string (textOf zs)) t.u) := fun t => conv_text (l := zs) ((Cells8.of_own HO6.out).2.keep (keep_below t.h))
  have HCz : Hid (∀ v : World, (convert 46 9 (.slice (some ⟨v.heap.size, 0, none⟩) 100 100)).run Tryd.prog (v.alloc (.cells (madeCells #[.int .u8 0] 100) 5)) = .ok (.string (textOf zs)) (v.alloc (.cells (madeCells #[.int .u8 0] 100) 5))) := fun v => conv_text (l := zs) (zeros_cells v 100)
  clear hm hb ht HBl HO HM5 HM6 HO6
  generalize textOf zs = tx at *
  have hmk : ∀ v : World, (Instr.makeSlice 46 (.int .i64 100) (.int .i64 100)).run Tryd.prog v = .ok (.slice (some ⟨v.heap.size, 0, none⟩) 100 100) (v.alloc (.cells (madeCells #[.int .u8 0] 100) 5)) := fun v => run_make_row (P := Tryd.prog) 46 5 i1 _ Tryd.underlying46 ji jz0 jz1 rfl .i64 .i64 100 hb1.out (by decide) v
  have hcv0 := HCv.out ⟨w6.drew, (Below.refl _ _).drew⟩
  have HTa : Hid (Below w6.heap.size w6 (w6.alloc (.cells (madeCells #[.int .u8 0] 100) 5)).drew) := ((Below.refl _ _).alloc (Nat.le_refl _) _).drew
  have hcv1 := HCv.out ⟨(w6.alloc (.cells (madeCells #[.int .u8 0] 100) 5)).drew, HTa.out⟩
  have hcz0 : (convert 46 9 (.slice (some ⟨w6.heap.size, 0, none⟩) 100 100)).run Tryd.prog (w6.alloc (.cells (madeCells #[.int .u8 0] 100) 5)).drew = .ok (.string tx) (w6.alloc (.cells (madeCells #[.int .u8 0] 100) 5)).drew := HCz.out w6.drew
  go_wp2
  go_region_held_law (fun w' => True) (fail)
    (first | (go_at_call 27; refine (HMd.out ⟨_, HTa.out⟩).mono ?_; rintro e w' ⟨rfl, rfl⟩) | (go_at_call 19; refine (HRo.out ⟨_, HTa.out⟩).mono ?_; rintro e w' ⟨rfl, mm, rfl⟩))
  all_goals
    have HX : Hid (Below w.heap.size w ((w6.alloc (.cells (madeCells #[.int .u8 0] 100) 5)).drewN (1 + mm))) := below_drewN0 (HB6.out.alloc HB6.out.size _) _
    clear hcv0 hcv1 hcz0 hmk HTa
    go_wp2
    go_ret
    exact ⟨rfl, HX.out⟩
end Go.Proofs.YtlidbkofjchnnaaDoor
