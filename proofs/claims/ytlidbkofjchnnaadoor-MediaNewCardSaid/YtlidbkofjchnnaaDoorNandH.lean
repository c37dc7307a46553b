/- nand: Program at a flash, walked. -/
import Derived.Test.YtlidbkofjchnnaaDoorNandF
namespace Go.Proofs.YtlidbkofjchnnaaDoor
open Go.RowKit
set_option linter.unusedVariables false
set_option linter.unusedSimpArgs false

theorem curL_put (cur : Array Value) (k m j : Nat) : (curL cur k m j).setIfInBounds (k * 5 + 1) (.int .i64 (m + 1 : Nat)) = curL cur k m (j + 1) := by
  by_cases h : j = 0
  · simp [curL, h]
  · simp [curL, h]
theorem curP_put (cur : Array Value) (m g n j : Nat) : (curP cur m g n j).setIfInBounds m (.slice (some ⟨g, 0, none⟩) n n) = curP cur m g n (j + 1) := by
  by_cases h : j = 0
  · simp [curP, h]
  · simp [curP, h]
theorem curL_at {cur : Array Value} {k i : Nat} {v : Value} (m j : Nat) (h : cur[k * 5]? = some v) : (curL cur k m j)[k * 5]? = some v := by
  unfold curL
  split
  · exact h
  · rw [Array.getElem?_setIfInBounds, if_neg (by omega)]; exact h
theorem curL_size (cur : Array Value) (k m j : Nat) : (curL cur k m j).size = cur.size := by unfold curL; split <;> simp
theorem curP_size (cur : Array Value) (m g n j : Nat) : (curP cur m g n j).size = cur.size := by unfold curP; split <;> simp
theorem Row.some {w : World} {g i : Nat} {t : TypeId} {cs : Array Value} (h : Row w g t cs) (hi : i < cs.size) : ∃ v, w.cell? ⟨g, i, none⟩ = some v := ⟨cs[i], by rw [h.cell, Array.getElem?_eq_getElem hi]⟩
theorem Turns.row1 {w w' : World} {T : List Nat} {g : Nat} {t : TypeId} {cs : Array Value} (hr : Row w g t cs) (ht : Turns w w' T) (hn : ∀ k ∈ T, g ≠ k) : Row w' g t cs := ht.row hr (fun hm => hn g hm rfl)
section
variable {w : World} {B F L : Nat} {P : Nat → Nat} {S : Fl}
/-- What Program leaves. -/
def ProgPost (w : World) (B F L : Nat) (P : Nat → Nat) (S : Fl) (k : Nat) (r : List Nat) (e : Ending) (w' : World) : Prop :=
  Turns w w' [F, L, P k] ∧ ((S.armed = 0 ∨ S.chunks < S.armed) → e = .returned (.int .i64 0) ∧ FlIs w' B F L P { S.setB k (progB S k r S.chunks) with off := false, armed := S.armed - S.chunks }) ∧
    (1 ≤ S.armed → S.armed ≤ S.chunks → e = .returned (.int .i64 4) ∧ FlIs w' B F L P { S.setB k (progB S k r (S.armed - 1)) with off := true, armed := 0 })
set_option maxRecDepth 100000 in
set_option maxHeartbeats 4000000 in
theorem Program_any (h : FlIs w B F L P S) (k : Nat) (hk : k < S.nb) (ho : S.off = false) (hf : (S.b k).failed = false) (hh : (S.b k).half = false) (hn : (S.b k).next < S.has k) (r : List Nat) (hr : Raw S.chunks r) (rb rc : Nat) (hrc : 73 * S.chunks ≤ rc)
    (hown : w.ownsRow 0 5 1 (.slice (some ⟨rb, 0, none⟩) (73 * S.chunks) rc) (73 * S.chunks) (intsV .u8 r)) :
    Calls Tryd.prog 116 #[.pointer (some ⟨F, 0, none⟩), .int .i64 k, .int .i64 ((S.b k).next : Nat), .slice (some ⟨rb, 0, none⟩) (73 * S.chunks) rc] w (ProgPost w B F L P S k r) := by
  have HBl := Lib.hid (block_in h k hk)
  have hpg0 := page_in h k hk ((S.b k).next : Nat)
  rw [decide_eq_true (by omega)] at hpg0
  have HPg := Lib.hid hpg0
  have hmy0 := may_in h k hk true
  rw [ho, hf] at hmy0
  have HMy := Lib.hid hmy0
  have hhas := has_le h.ok k
  have hnp : (S.b k).next < S.pages := by omega
  have HRw := Lib.hid (raw_new h k (S.b k).next hk hnp ((h.ok.wf k hk).none _ (Nat.le_refl _)))
  obtain ⟨_, _, c4, c5⟩ := h.fcell
  obtain ⟨d0, d1, d2, _, _⟩ := h.cells hk
  rw [hh] at d2
  obtain ⟨s0, p0, r0, e0, hrow0⟩ := h.row
  obtain ⟨cL, hrL, hLs, hLc⟩ := h.bl
  obtain ⟨cP, hrP, hPs, hPc⟩ := h.pg k hk
  have hch := h.ok.chunks
  have hpp := h.ok.pages
  have harm := h.ok.armed
  have hne := h.ne
  have hno := h.no3 hk
  have HH := Lib.hid h
  have HD0 : Hid (cL[k * 5]? = some (.slice (some ⟨P k, 0, none⟩) S.pages S.pages)) := hLc k hk 0 _ rfl
  have HD1 : Hid (k * 5 + 1 < cL.size) := by unfold Hid; omega
  have HRe : Hid (∀ (j : Nat), j ≤ S.chunks → ∀ (g : Nat) (w' : World), Turns w w' [F, L, P k] → ∀ (o : Bool) (a : Nat), a < 9223372036854775808 → (∃ s p r e : Int, Row w' F 42 (fcells o a s [.slice (some ⟨L, 0, none⟩) S.nb S.nb, .int .i64 S.pages, .int .i64 S.chunks, .int .i64 p, .int .i64 r, .int .i64 e])) → Row w' L 89 (curL cL k (S.b k).next j) → Row w' (P k) 46 (curP cP (S.b k).next g (73 * S.chunks) j) → Row w' g 5 (intsV .u8 (part r S.chunks j)).toArray → FlIs w' B F L P { S.setB k (progB S k r j) with off := o, armed := a }) :=
    fun j hj g w' ht o a ha hF hL hP hg => prog_rebuild h hk hn hh hr hj hLs hLc hPs hPc ht o a ha hF hL hP hg
  have HRo : Hid (∀ w', Turns w w' [F, L, P k] → Cells8 w' (some ⟨rb, 0, none⟩) r) := fun w' ht => by
    have hp : PgIs w (.slice (some ⟨rb, 0, none⟩) (73 * S.chunks) rc) (some r) := by show w.ownsRow 0 _ 1 _ r.length _; rw [hr.1]; exact hown
    have h2 : w'.ownsRow 0 _ 1 _ r.length _ := hp.turns ht hno
    rw [hr.1] at h2
    have h3 : r.length = 73 * S.chunks := hr.1
    rw [← h3] at h2
    exact (Cells8.of_own h2).2
  have HRlen := Lib.hid hr.1
  have HPost : Hid (∀ e w', Turns w w' [F, L, P k] → ((S.armed = 0 ∨ S.chunks < S.armed) → e = .returned (.int .i64 0) ∧ FlIs w' B F L P { S.setB k (progB S k r S.chunks) with off := false, armed := S.armed - S.chunks }) → (1 ≤ S.armed → S.armed ≤ S.chunks → e = .returned (.int .i64 4) ∧ FlIs w' B F L P { S.setB k (progB S k r (S.armed - 1)) with off := true, armed := 0 }) → ProgPost w B F L P S k r e w') := fun e w' a b c => ⟨a, b, c⟩
  have HOff : Hid (S.off = false) := ho
  obtain ⟨n, hn73⟩ : ∃ n, n = 73 * S.chunks := ⟨_, rfl⟩
  have HN := Lib.hid hn73
  rw [← hn73] at HRw HRe hrc ⊢
  have hw : IntKind.i64.wrap ((S.chunks : Int) * 73) = (n : Int) := by rw [IntKind.wrap_i64]; omega
  have hn5 : 73 ≤ n ∧ n ≤ 584 := by omega
  have HHas := Lib.hid hn
  obtain ⟨ch, hch0⟩ : ∃ ch, ch = S.chunks := ⟨_, rfl⟩
  obtain ⟨a, ha0⟩ : ∃ a, a = S.armed := ⟨_, rfl⟩
  obtain ⟨m, hm0⟩ : ∃ m, m = (S.b k).next := ⟨_, rfl⟩
  have HHr := Lib.hid hrow0
  have HLr := Lib.hid hrL
  have HPr := Lib.hid hrP
  have hcP : m < cP.size := by omega
  have HcP := Lib.hid hcP
  have hneg : Hid (F ≠ L ∧ F ≠ P k ∧ L ≠ P k) := ⟨hne.1, hne.2.1 k hk, hne.2.2 k hk⟩
  rw [ho] at HHr
  rw [← hch0, ← ha0] at HHr HPost
  rw [← hch0] at HRe
  rw [← hch0] at HRlen HN hch c5 hw
  rw [← hm0] at HPg HRw HRe d1 hnp ⊢
  rw [← ha0] at harm
  have HCh := Lib.hid hch0
  have HAr := Lib.hid ha0
  have HNx := Lib.hid hm0
  clear h hpg0 hmy0 hch0 ha0 hm0 ho hf hh hn hhas hrow0 hrL hLs hLc hrP hPs hPc hne hno hown hn73 hr hcP
  go_enter Tryd.func116, Tryd.ntmps116
  go_wp2_with fail
  refine HBl.out.mono ?_
  rintro e w' ⟨rfl, rfl⟩
  clear HBl
  go_wp2_with fail
  refine HPg.out.mono ?_
  rintro e w' ⟨rfl, rfl⟩
  clear HPg
  go_wp2_with fail
  refine HMy.out.mono ?_
  rintro e w' ⟨rfl, rfl⟩
  clear HMy
  go_wp2_with fail
  refine HRw.out.mono ?_
  rintro e w1 ⟨g, rfl, hg1, hgs, hb1⟩
  have c5w := keep_below hb1 _ _ c5
  have HG1 := Lib.hid hg1
  have HB1 := Lib.hid hb1
  clear HRw hg1 hb1 c4 c5 d0 d1 d2
  go_wp2
  go_loopw [56] (fun iv wr => ∃ j : Nat, iv = .int .i64 j ∧ j ≤ ch ∧ (a = 0 ∨ j < a) ∧ Turns w wr [F, L, P k] ∧ (∃ s, Row wr F 42 (fcells false (a - j : Nat) s [.slice (some ⟨L, 0, none⟩) S.nb S.nb, .int .i64 S.pages, .int .i64 ch, .int .i64 p0, .int .i64 r0, .int .i64 e0])) ∧ Row wr L 89 (curL cL k m j) ∧ Row wr (P k) 46 (curP cP m g n j) ∧ Row wr g 5 (intsV .u8 (part r ch j)).toArray) (fun i _ => ch - (intOf i).toNat)
  case atStart =>
    refine ⟨0, rfl, by omega, by omega, Turns.of_below HB1.out _, ⟨s0, ?_⟩, ?_, ?_, ?_⟩
    · exact HHr.out.below HB1.out HHr.out.lt
    · exact HLr.out.below HB1.out HLr.out.lt
    · exact HPr.out.below HB1.out HPr.out.lt
    · rw [part_zero, ← HN.out]; exact HG1.out
  case round =>
    obtain ⟨j, rfl, hj, hja, ht, ⟨s, hF⟩, hL, hP, hg⟩ := hrel
    have HT := Lib.hid ht
    have HFr := Lib.hid hF
    have HLw := Lib.hid hL
    have HPw := Lib.hid hP
    have HGw := Lib.hid hg
    clear ht hF hL hP hg HG1 HB1 c5w
    by_cases hlt : j < ch
    · by_cases hcut : a = j + 1
      · have e1 : a - j = 1 := by omega
        have hF1 := HFr.out
        rw [e1] at hF1
        have HSt := Lib.hid (step_cut F false s _ wr hF1)
        clear hF1 e1
        go_wp2_with fail
        refine HSt.out.mono ?_
        rintro e w2 ⟨rfl, hF2, ht2⟩
        have HF2 := Lib.hid hF2
        have HT2 := Lib.hid ht2
        clear HSt hF2 ht2
        go_wp2
        have HE : Hid (FlIs w2 B F L P { S.setB k (progB S k r j) with off := true, armed := 0 }) :=
          HRe.out j hj g w2 (HT.out.trans HT2.out (by simp)) true 0 (by omega) ⟨_, _, _, _, HF2.out⟩ (Turns.row1 HLw.out HT2.out (by simp; exact Ne.symm hneg.out.1)) (Turns.row1 HPw.out HT2.out (by simp; exact Ne.symm hneg.out.2.1)) (Turns.row1 HGw.out HT2.out (by simp; exact HGw.out.ne_type HFr.out (by decide)))
        refine bodyPost_ret (v := .int .i64 4) (by simp [results, Tryd.results116, go_sem]) rfl (HPost.out _ _ (HT.out.trans HT2.out (by simp)) (fun h => by omega) (fun _ _ => ⟨rfl, by rw [show a - 1 = j by omega]; exact HE.out⟩))
      · have ha1 : a - j ≠ 1 := by omega
        have ha2 : a - j < 9223372036854775808 := by omega
        have HSt := Lib.hid (step_done F false (a - j) s _ ha1 ha2 wr HFr.out)
        obtain ⟨q, hq⟩ : ∃ q, q = 73 * j := ⟨_, rfl⟩
        have HQ := Lib.hid hq
        have hqn : q + 73 ≤ n := by have := HN.out; omega
        have hqi : (q : Int) ≤ n := by omega
        have hw1 : IntKind.i64.wrap ((j : Int) * 73) = (q : Int) := by rw [IntKind.wrap_i64]; omega
        have hw2 : IntKind.i64.wrap ((j : Int) + 1) = (j : Int) + 1 := by rw [IntKind.wrap_i64]; omega
        have hw3 : IntKind.i64.wrap (((j : Int) + 1) * 73) = ((q + 73 : Nat) : Int) := by rw [IntKind.wrap_i64]; omega
        have hwm : IntKind.i64.wrap ((m : Int) + 1) = ((m + 1 : Nat) : Int) := by rw [IntKind.wrap_i64]; omega
        clear ha1 ha2 hq
        go_wp2_with fail
        refine HSt.out.mono ?_
        rintro e w2 ⟨rfl, ⟨s', hF2⟩, ht2⟩
        have hgF : g ≠ F := HGw.out.ne_type HFr.out (by decide)
        have hgL : g ≠ L := HGw.out.ne_type HLw.out (by decide)
        have hgP : g ≠ P k := HGw.out.ne_type HPw.out (by decide)
        have HF2 := Lib.hid hF2
        have HT2 : Hid (Turns w w2 [F, L, P k]) := HT.out.trans ht2 (by simp)
        have HL2 := Lib.hid (Turns.row1 HLw.out ht2 (by simp; exact Ne.symm hneg.out.1))
        have HP2 := Lib.hid (Turns.row1 HPw.out ht2 (by simp; exact Ne.symm hneg.out.2.1))
        have HG2 := Lib.hid (Turns.row1 HGw.out ht2 (by simp; exact hgF))
        have HC2 := (((HRo.out w2 HT2.out).drop q).take 73)
        rw [Nat.zero_add] at HC2
        have hcl : ((r.drop q).take 73).length = 73 := by rw [List.length_take, List.length_drop, HRlen.out]; have := HQ.out; omega
        have hS := Src.bytes HC2
        rw [hcl] at hS
        have HSr : Hid (Src w2.drew 1 (some ⟨rb, q, none⟩) 73 (intsV .u8 ((r.drop q).take 73))) := hS.keep (fun _ _ h => h)
        have HGt : Hid (w.heap.size ≤ g) := hgs
        have HNe : Hid (g ≠ F ∧ g ≠ L ∧ g ≠ P k) := ⟨hgF, hgL, hgP⟩
        clear HSt hF2 ht2 HFr HLw HPw HGw HC2 hS hcl HT hgF hgL hgP
        go_wp2
        (refine region_kept ([g]) [0, 1, 2, 3, 4, 5, 6, 7, 8, 9, 10] [11] (by kernel_rfl) (by kernel_rfl) (fun _ _ _ _ _ h => h) ?_; simp only [List.filterMap_cons, List.getElem?_cons_zero, List.getElem?_cons_succ, List.filterMap_nil]; (repeat ((show wpQuiet _ _ _ _ (_ :: _) _); go_big_quiet_step (fail))); refine wpQuiet_nil ?_)
        try rw [show q + 73 - q = 73 from Nat.add_sub_cancel_left q 73]
        refine wpSeqS_last (wpList_copy_grown rfl (.tmp 67) (.tmp 74) 46 46 rfl 5 Tryd.underlying46 u8_size1 (some ⟨rb, q, none⟩) (n - q) (n - q) 73 (rc - q) g q rfl rfl (intsV .u8 (part r ch j)) 5 HG2.out _ HSr.out (intsV_one .u8 _) (by rw [intsV_length, part_length r ch j HRlen.out hj, ← HN.out]; omega) ?_)
        intro w3 hr3 hg3
        have HT3 : Hid (Turns w2 w3 [g]) := Turns.of_grown (show w2.grownBy w3 (some g) from ⟨hg3.out.os, hg3.out.tape, hg3.out.output, hg3.out.size, hg3.out.block⟩)
        have HG3 : Hid (Row w3 g 5 (intsV .u8 (part r ch (j + 1))).toArray) := by
          unfold Hid
          have h := hr3.out
          rw [List.take_of_length_le (by rw [intsV_length, List.length_take]; omega), HQ.out, part_splice r ch j HRlen.out hlt] at h
          exact h
        have HL3 := Lib.hid (Turns.row1 HL2.out HT3.out (by simp; exact Ne.symm HNe.out.2.1))
        have HP3 := Lib.hid (Turns.row1 HP2.out HT3.out (by simp; exact Ne.symm HNe.out.2.2))
        have HF3 := Lib.hid (Turns.row1 HF2.out HT3.out (by simp; exact Ne.symm HNe.out.1))
        have k0 : w3.cell? ⟨L, k * 5, none⟩ = some (.slice (some ⟨P k, 0, none⟩) S.pages S.pages) := by rw [HL3.out.cell]; exact curL_at (i := 0) m j HD0.out
        obtain ⟨v1, k1⟩ := Row.some HP3.out (i := m) (by rw [curP_size]; exact HcP.out)
        have f1 := HP3.out.frozen m
        have HPa := Lib.hid (HP3.out.put m (.slice (some ⟨g, 0, none⟩) n n))
        rw [curP_put] at HPa
        have HLa := Lib.hid (HL3.out.far (p := ⟨P k, m, none⟩) hneg.out.2.2 (.slice (some ⟨g, 0, none⟩) n n))
        have HFa := Lib.hid (HF3.out.far (p := ⟨P k, m, none⟩) hneg.out.2.1 (.slice (some ⟨g, 0, none⟩) n n))
        have HGa := Lib.hid (HG3.out.far (p := ⟨P k, m, none⟩) HNe.out.2.2 (.slice (some ⟨g, 0, none⟩) n n))
        obtain ⟨v2, k2⟩ := Row.some HLa.out (i := k * 5 + 1) (by rw [curL_size]; exact HD1.out)
        have f2 := HLa.out.frozen (k * 5 + 1)
        have HLb := Lib.hid (HLa.out.put (k * 5 + 1) (.int .i64 (m + 1 : Nat)))
        rw [curL_put] at HLb
        have HPb := Lib.hid (HPa.out.far (p := ⟨L, k * 5 + 1, none⟩) (Ne.symm hneg.out.2.2) (.int .i64 (m + 1 : Nat)))
        have HFb := Lib.hid (HFa.out.far (p := ⟨L, k * 5 + 1, none⟩) hneg.out.1 (.int .i64 (m + 1 : Nat)))
        have HGb := Lib.hid (HGa.out.far (p := ⟨L, k * 5 + 1, none⟩) HNe.out.2.1 (.int .i64 (m + 1 : Nat)))
        have HTb : Hid (Turns w ((w3.setCell ⟨P k, m, none⟩ (.slice (some ⟨g, 0, none⟩) n n)).setCell ⟨L, k * 5 + 1, none⟩ (.int .i64 (m + 1 : Nat))) [F, L, P k]) :=
          ((HT2.out.trans HT3.out (fun x hx => by simp at hx; subst hx; exact .inr HGt.out)).setCell (by simp) _).setCell (by simp) _
        rw [show (a - j - 1 : Nat) = a - (j + 1) by omega] at HFb
        have hmi : (m : Int) < S.pages := by omega
        clear hr3 hg3 HT3 HG3 HL3 HP3 HF3 HPa HLa HFa HGa HF2 HL2 HP2 HG2 HSr HT2
        go_wp2
        go_roundw
        case rel => exact ⟨j + 1, by go_num, by omega, by omega, HTb.out, ⟨_, HFb.out⟩, HLb.out, HPb.out, HGb.out⟩
        case measure => simp [intOf]; omega
    · obtain rfl : j = ch := by omega
      have hE := HRe.out j (Nat.le_refl _) g wr HT.out false (a - j) (by omega) ⟨_, _, _, _, HFr.out⟩ HLw.out HPw.out HGw.out
      have HAd := Lib.hid (Add_fl hE 6 (by omega))
      clear hE HFr HLw HPw HGw
      go_wp2_with fail
      refine HAd.out.mono ?_
      rintro e w2 ⟨⟨v, rfl⟩, h2, ht2⟩
      have H2 := Lib.hid h2
      have HT2 := Lib.hid ht2
      clear HAd h2 ht2
      go_wp2
      refine bodyPost_ret (v := .int .i64 0) (by simp [results, Tryd.results116, go_sem]) rfl (HPost.out _ _ (HT.out.trans HT2.out (by simp)) (fun _ => ⟨rfl, H2.out⟩) (fun h1 h2 => by omega))
end
end Go.Proofs.YtlidbkofjchnnaaDoor
