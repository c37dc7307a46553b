/- What follows is laid together from several texts of mine, in their order. -/
import Derived.Test.YtlidbkofjchnnaaDoorQ5
import Derived.Laws.IdiomCopy
import Derived.Lib.SliceRun

namespace Go.Proofs.YtlidbkofjchnnaaDoor
open Go.RowKit
set_option linter.unusedVariables false
set_option linter.unusedSimpArgs false

theorem curL_put (cur : Array Value) (k m j : Nat) : (curL cur k m j).setIfInBounds (k * 5 + 1) (.int .i64 (m + 1 : Nat)) = curL cur k m (j + 1) := by
  by_cases h : j = 0
  · simp [curL, h]
  · simp [curL, h]
theorem curP_put (cur : Array Value) (m g n j : Nat) : (curP cur m g n j).setIfInBounds m (.slice (some ⟨g, 0, none⟩) n n) = curP cur m g n (j + 1) := by
  by_cases h : j = 0
  · simp [curP, h]
  · simp [curP, h]
theorem curL_at {cur : Array Value} {k i : Nat} {v : Value} (m j : Nat) (h : cur[k * 5]? = some v) : (curL cur k m j)[k * 5]? = some v := by
  unfold curL
  split
  · exact h
  · rw [Array.getElem?_setIfInBounds, if_neg (by omega)]; exact h
theorem curL_size (cur : Array Value) (k m j : Nat) : (curL cur k m j).size = cur.size := by unfold curL; split <;> simp
theorem curP_size (cur : Array Value) (m g n j : Nat) : (curP cur m g n j).size = cur.size := by unfold curP; split <;> simp
theorem Row.some {w : World} {g i : Nat} {t : TypeId} {cs : Array Value} (h : Row w g t cs) (hi : i < cs.size) : ∃ v, w.cell? ⟨g, i, none⟩ = some v := ⟨cs[i], by rw [h.cell, Array.getElem?_eq_getElem hi]⟩
theorem Turns.row1 {w w' : World} {T : List Nat} {g : Nat} {t : TypeId} {cs : Array Value} (hr : Row w g t cs) (ht : Turns w w' T) (hn : ∀ k ∈ T, g ≠ k) : Row w' g t cs := ht.row hr (fun hm => hn g hm rfl)
section
variable {w : World} {B F L : Nat} {P : Nat → Nat} {S : Fl}
/-- What Program leaves. -/
def ProgPost (w : World) (B F L : Nat) (P : Nat → Nat) (S : Fl) (k : Nat) (r : List Nat) (e : Ending) (w' : World) : Prop :=
  Turns w w' [F, L, P k] ∧ ((S.armed = 0 ∨ S.chunks < S.armed) → e = .returned (.int .i64 0) ∧ FlIs w' B F L P { S.setB k (progB S k r S.chunks) with off := false, armed := S.armed - S.chunks }) ∧
    (1 ≤ S.armed → S.armed ≤ S.chunks → e = .returned (.int .i64 4) ∧ FlIs w' B F L P { S.setB k (progB S k r (S.armed - 1)) with off := true, armed := 0 })
set_option maxRecDepth 100000 in
set_option maxHeartbeats 4000000 in
theorem Program_any (h : FlIs w B F L P S) (k : Nat) (hk : k < S.nb) (ho : S.off = false) (hf : (S.b k).failed = false) (hh : (S.b k).half = false) (hn : (S.b k).next < S.has k) (r : List Nat) (hr : Raw S.chunks r) (rb rc : Nat) (hrc : 73 * S.chunks ≤ rc)
    (hown : w.ownsRow 0 5 1 (.slice (some ⟨rb, 0, none⟩) (73 * S.chunks) rc) (73 * S.chunks) (intsV .u8 r)) :
    Calls Tryd.prog 116 #[.pointer (some ⟨F, 0, none⟩), .int .i64 k, .int .i64 ((S.b k).next : Nat), .slice (some ⟨rb, 0, none⟩) (73 * S.chunks) rc] w (ProgPost w B F L P S k r) := by
  have HBl := Lib.hid (block_in h k hk)
  have hpg0 := page_in h k hk ((S.b k).next : Nat)
  rw [decide_eq_true (by omega)] at hpg0
  have HPg := Lib.hid hpg0
  have hmy0 := may_in h k hk true
  rw [ho, hf] at hmy0
  have HMy := Lib.hid hmy0
  have hhas := has_le h.ok k
  have hnp : (S.b k).next < S.pages := by omega
  have HRw := Lib.hid (raw_new h k (S.b k).next hk hnp ((h.ok.wf k hk).none _ (Nat.le_refl _)))
  obtain ⟨_, _, c4, c5⟩ := h.fcell
  obtain ⟨d0, d1, d2, _, _⟩ := h.cells hk
  rw [hh] at d2
  obtain ⟨s0, p0, r0, e0, hrow0⟩ := h.row
  obtain ⟨cL, hrL, hLs, hLc⟩ := h.bl
  obtain ⟨cP, hrP, hPs, hPc⟩ := h.pg k hk
  have hch := h.ok.chunks
  have hpp := h.ok.pages
  have harm := h.ok.armed
  have hne := h.ne
  have hno := h.no3 hk
  have HH := Lib.hid h
  have HD0 : Hid (cL[k * 5]? = some (.slice (some ⟨P k, 0, none⟩) S.pages S.pages)) := hLc k hk 0 _ rfl
  have HD1 : Hid (k * 5 + 1 < cL.size) := by unfold Hid; omega
  have HRe : Hid (∀ (j : Nat), j ≤ S.chunks → ∀ (g : Nat) (w' : World), Turns w w' [F, L, P k] → ∀ (o : Bool) (a : Nat), a < 9223372036854775808 → (∃ s p r e : Int, Row w' F 42 (fcells o a s [.slice (some ⟨L, 0, none⟩) S.nb S.nb, .int .i64 S.pages, .int .i64 S.chunks, .int .i64 p, .int .i64 r, .int .i64 e])) → Row w' L 89 (curL cL k (S.b k).next j) → Row w' (P k) 46 (curP cP (S.b k).next g (73 * S.chunks) j) → Row w' g 5 (intsV .u8 (part r S.chunks j)).toArray → FlIs w' B F L P { S.setB k (progB S k r j) with off := o, armed := a }) :=
    fun j hj g w' ht o a ha hF hL hP hg => prog_rebuild h hk hn hh hr hj hLs hLc hPs hPc ht o a ha hF hL hP hg
  have HRo : Hid (∀ w', Turns w w' [F, L, P k] → Cells8 w' (some ⟨rb, 0, none⟩) r) := fun w' ht => by
    have hp : PgIs w (.slice (some ⟨rb, 0, none⟩) (73 * S.chunks) rc) (some r) := by show w.ownsRow 0 _ 1 _ r.length _; rw [hr.1]; exact hown
    have h2 : w'.ownsRow 0 _ 1 _ r.length _ := hp.turns ht hno
    rw [hr.1] at h2
    have h3 : r.length = 73 * S.chunks := hr.1
    rw [← h3] at h2
    exact (Cells8.of_own h2).2
  have HRlen := Lib.hid hr.1
  have HPost : Hid (∀ e w', Turns w w' [F, L, P k] → ((S.armed = 0 ∨ S.chunks < S.armed) → e = .returned (.int .i64 0) ∧ FlIs w' B F L P { S.setB k (progB S k r S.chunks) with off := false, armed := S.armed - S.chunks }) → (1 ≤ S.armed → S.armed ≤ S.chunks → e = .returned (.int .i64 4) ∧ FlIs w' B F L P { S.setB k (progB S k r (S.armed - 1)) with off := true, armed := 0 }) → ProgPost w B F L P S k r e w') := fun e w' a b c => ⟨a, b, c⟩
  have HOff : Hid (S.off = false) := ho
  obtain ⟨n, hn73⟩ : ∃ n, n = 73 * S.chunks := ⟨_, rfl⟩
  have HN := Lib.hid hn73
  rw [← hn73] at HRw HRe hrc ⊢
  have hw : IntKind.i64.wrap ((S.chunks : Int) * 73) = (n : Int) := by rw [IntKind.wrap_i64]; omega
  have hn5 : 73 ≤ n ∧ n ≤ 584 := by omega
  have HHas := Lib.hid hn
  obtain ⟨ch, hch0⟩ : ∃ ch, ch = S.chunks := ⟨_, rfl⟩
  obtain ⟨a, ha0⟩ : ∃ a, a = S.armed := ⟨_, rfl⟩
  obtain ⟨m, hm0⟩ : ∃ m, m = (S.b k).next := ⟨_, rfl⟩
  have HHr := Lib.hid hrow0
  have HLr := Lib.hid hrL
  have HPr := Lib.hid hrP
  have hcP : m < cP.size := by omega
  have HcP := Lib.hid hcP
  have hneg : Hid (F ≠ L ∧ F ≠ P k ∧ L ≠ P k) := ⟨hne.1, hne.2.1 k hk, hne.2.2 k hk⟩
  rw [ho] at HHr
  rw [← hch0, ← ha0] at HHr HPost
  rw [← hch0] at HRe
  rw [← hch0] at HRlen HN hch c5 hw
  rw [← hm0] at HPg HRw HRe d1 hnp ⊢
  rw [← ha0] at harm
  have HCh := Lib.hid hch0
  have HAr := Lib.hid ha0
  have HNx := Lib.hid hm0
  clear h hpg0 hmy0 hch0 ha0 hm0 ho hf hh hn hhas hrow0 hrL hLs hLc hrP hPs hPc hne hno hown hn73 hr hcP
  go_enter Tryd.func116, Tryd.ntmps116
  go_wp2_with fail
  refine HBl.out.mono ?_
  rintro e w' ⟨rfl, rfl⟩
  clear HBl
  go_wp2_with fail
  refine HPg.out.mono ?_
  rintro e w' ⟨rfl, rfl⟩
  clear HPg
  go_wp2_with fail
  refine HMy.out.mono ?_
  rintro e w' ⟨rfl, rfl⟩
  clear HMy
  go_wp2_with fail
  refine HRw.out.mono ?_
  rintro e w1 ⟨g, rfl, hg1, hgs, hb1⟩
  have c5w := keep_below hb1 _ _ c5
  have HG1 := Lib.hid hg1
  have HB1 := Lib.hid hb1
  clear HRw hg1 hb1 c4 c5 d0 d1 d2
  go_wp2
  go_loopw [56] (fun iv wr => ∃ j : Nat, iv = .int .i64 j ∧ j ≤ ch ∧ (a = 0 ∨ j < a) ∧ Turns w wr [F, L, P k] ∧ (∃ s, Row wr F 42 (fcells false (a - j : Nat) s [.slice (some ⟨L, 0, none⟩) S.nb S.nb, .int .i64 S.pages, .int .i64 ch, .int .i64 p0, .int .i64 r0, .int .i64 e0])) ∧ Row wr L 89 (curL cL k m j) ∧ Row wr (P k) 46 (curP cP m g n j) ∧ Row wr g 5 (intsV .u8 (part r ch j)).toArray) (fun i _ => ch - (intOf i).toNat)
  case atStart =>
    refine ⟨0, rfl, by omega, by omega, Turns.of_below HB1.out _, ⟨s0, ?_⟩, ?_, ?_, ?_⟩
    · exact HHr.out.below HB1.out HHr.out.lt
    · exact HLr.out.below HB1.out HLr.out.lt
    · exact HPr.out.below HB1.out HPr.out.lt
    · rw [part_zero, ← HN.out]; exact HG1.out
  case round =>
    obtain ⟨j, rfl, hj, hja, ht, ⟨s, hF⟩, hL, hP, hg⟩ := hrel
    have HT := Lib.hid ht
    have HFr := Lib.hid hF
    have HLw := Lib.hid hL
    have HPw := Lib.hid hP
    have HGw := Lib.hid hg
    clear ht hF hL hP hg HG1 HB1 c5w
    by_cases hlt : j < ch
    · by_cases hcut : a = j + 1
      · have e1 : a - j = 1 := by omega
        have hF1 := HFr.out
        rw [e1] at hF1
        have HSt := Lib.hid (step_cut F false s _ wr hF1)
        clear hF1 e1
        go_wp2_with fail
        refine HSt.out.mono ?_
        rintro e w2 ⟨rfl, hF2, ht2⟩
        have HF2 := Lib.hid hF2
        have HT2 := Lib.hid ht2
        clear HSt hF2 ht2
        go_wp2
        have HE : Hid (FlIs w2 B F L P { S.setB k (progB S k r j) with off := true, armed := 0 }) :=
          HRe.out j hj g w2 (HT.out.trans HT2.out (by simp)) true 0 (by omega) ⟨_, _, _, _, HF2.out⟩ (Turns.row1 HLw.out HT2.out (by simp; exact Ne.symm hneg.out.1)) (Turns.row1 HPw.out HT2.out (by simp; exact Ne.symm hneg.out.2.1)) (Turns.row1 HGw.out HT2.out (by simp; exact HGw.out.ne_type HFr.out (by decide)))
        refine bodyPost_ret (v := .int .i64 4) (by simp [results, Tryd.results116, go_sem]) rfl (HPost.out _ _ (HT.out.trans HT2.out (by simp)) (fun h => by omega) (fun _ _ => ⟨rfl, by rw [show a - 1 = j by omega]; exact HE.out⟩))
      · have ha1 : a - j ≠ 1 := by omega
        have ha2 : a - j < 9223372036854775808 := by omega
        have HSt := Lib.hid (step_done F false (a - j) s _ ha1 ha2 wr HFr.out)
        obtain ⟨q, hq⟩ : ∃ q, q = 73 * j := ⟨_, rfl⟩
        have HQ := Lib.hid hq
        have hqn : q + 73 ≤ n := by have := HN.out; omega
        have hqi : (q : Int) ≤ n := by omega
        have hw1 : IntKind.i64.wrap ((j : Int) * 73) = (q : Int) := by rw [IntKind.wrap_i64]; omega
        have hw2 : IntKind.i64.wrap ((j : Int) + 1) = (j : Int) + 1 := by rw [IntKind.wrap_i64]; omega
        have hw3 : IntKind.i64.wrap (((j : Int) + 1) * 73) = ((q + 73 : Nat) : Int) := by rw [IntKind.wrap_i64]; omega
        have hwm : IntKind.i64.wrap ((m : Int) + 1) = ((m + 1 : Nat) : Int) := by rw [IntKind.wrap_i64]; omega
        clear ha1 ha2 hq
        go_wp2_with fail
        refine HSt.out.mono ?_
        rintro e w2 ⟨rfl, ⟨s', hF2⟩, ht2⟩
        have hgF : g ≠ F := HGw.out.ne_type HFr.out (by decide)
        have hgL : g ≠ L := HGw.out.ne_type HLw.out (by decide)
        have hgP : g ≠ P k := HGw.out.ne_type HPw.out (by decide)
        have HF2 := Lib.hid hF2
        have HT2 : Hid (Turns w w2 [F, L, P k]) := HT.out.trans ht2 (by simp)
        have HL2 := Lib.hid (Turns.row1 HLw.out ht2 (by simp; exact Ne.symm hneg.out.1))
        have HP2 := Lib.hid (Turns.row1 HPw.out ht2 (by simp; exact Ne.symm hneg.out.2.1))
        have HG2 := Lib.hid (Turns.row1 HGw.out ht2 (by simp; exact hgF))
        have HC2 := (((HRo.out w2 HT2.out).drop q).take 73)
        rw [Nat.zero_add] at HC2
        have hcl : ((r.drop q).take 73).length = 73 := by rw [List.length_take, List.length_drop, HRlen.out]; have := HQ.out; omega
        have hS := Src.bytes HC2
        rw [hcl] at hS
        have HSr : Hid (Src w2.drew 1 (some ⟨rb, q, none⟩) 73 (intsV .u8 ((r.drop q).take 73))) := hS.keep (fun _ _ h => h)
        have HGt : Hid (w.heap.size ≤ g) := hgs
        have HNe : Hid (g ≠ F ∧ g ≠ L ∧ g ≠ P k) := ⟨hgF, hgL, hgP⟩
        clear HSt hF2 ht2 HFr HLw HPw HGw HC2 hS hcl HT hgF hgL hgP
        go_wp2
        (refine region_kept ([g]) [0, 1, 2, 3, 4, 5, 6, 7, 8, 9, 10] [11] (by kernel_rfl) (by kernel_rfl) (fun _ _ _ _ _ h => h) ?_; simp only [List.filterMap_cons, List.getElem?_cons_zero, List.getElem?_cons_succ, List.filterMap_nil]; (repeat ((show wpQuiet _ _ _ _ (_ :: _) _); go_big_quiet_step (fail))); refine wpQuiet_nil ?_)
        try rw [show q + 73 - q = 73 from Nat.add_sub_cancel_left q 73]
        refine wpSeqS_last (wpList_copy_grown rfl (.tmp 67) (.tmp 74) 46 46 rfl 5 Tryd.underlying46 u8_size1 (some ⟨rb, q, none⟩) (n - q) (n - q) 73 (rc - q) g q rfl rfl (intsV .u8 (part r ch j)) 5 HG2.out _ HSr.out (intsV_one .u8 _) (by rw [intsV_length, part_length r ch j HRlen.out hj, ← HN.out]; omega) ?_)
        intro w3 hr3 hg3
        have HT3 : Hid (Turns w2 w3 [g]) := Turns.of_grown (show w2.grownBy w3 (some g) from ⟨hg3.out.os, hg3.out.tape, hg3.out.output, hg3.out.size, hg3.out.block⟩)
        have HG3 : Hid (Row w3 g 5 (intsV .u8 (part r ch (j + 1))).toArray) := by
          unfold Hid
          have h := hr3.out
          rw [List.take_of_length_le (by rw [intsV_length, List.length_take]; omega), HQ.out, part_splice r ch j HRlen.out hlt] at h
          exact h
        have HL3 := Lib.hid (Turns.row1 HL2.out HT3.out (by simp; exact Ne.symm HNe.out.2.1))
        have HP3 := Lib.hid (Turns.row1 HP2.out HT3.out (by simp; exact Ne.symm HNe.out.2.2))
        have HF3 := Lib.hid (Turns.row1 HF2.out HT3.out (by simp; exact Ne.symm HNe.out.1))
        have k0 : w3.cell? ⟨L, k * 5, none⟩ = some (.slice (some ⟨P k, 0, none⟩) S.pages S.pages) := by rw [HL3.out.cell]; exact curL_at (i := 0) m j HD0.out
        obtain ⟨v1, k1⟩ := Row.some HP3.out (i := m) (by rw [curP_size]; exact HcP.out)
        have f1 := HP3.out.frozen m
        have HPa := Lib.hid (HP3.out.put m (.slice (some ⟨g, 0, none⟩) n n))
        rw [curP_put] at HPa
        have HLa := Lib.hid (HL3.out.far (p := ⟨P k, m, none⟩) hneg.out.2.2 (.slice (some ⟨g, 0, none⟩) n n))
        have HFa := Lib.hid (HF3.out.far (p := ⟨P k, m, none⟩) hneg.out.2.1 (.slice (some ⟨g, 0, none⟩) n n))
        have HGa := Lib.hid (HG3.out.far (p := ⟨P k, m, none⟩) HNe.out.2.2 (.slice (some ⟨g, 0, none⟩) n n))
        obtain ⟨v2, k2⟩ := Row.some HLa.out (i := k * 5 + 1) (by rw [curL_size]; exact HD1.out)
        have f2 := HLa.out.frozen (k * 5 + 1)
        have HLb := Lib.hid (HLa.out.put (k * 5 + 1) (.int .i64 (m + 1 : Nat)))
        rw [curL_put] at HLb
        have HPb := Lib.hid (HPa.out.far (p := ⟨L, k * 5 + 1, none⟩) (Ne.symm hneg.out.2.2) (.int .i64 (m + 1 : Nat)))
        have HFb := Lib.hid (HFa.out.far (p := ⟨L, k * 5 + 1, none⟩) hneg.out.1 (.int .i64 (m + 1 : Nat)))
        have HGb := Lib.hid (HGa.out.far (p := ⟨L, k * 5 + 1, none⟩) HNe.out.2.1 (.int .i64 (m + 1 : Nat)))
        have HTb : Hid (Turns w ((w3.setCell ⟨P k, m, none⟩ (.slice (some ⟨g, 0, none⟩) n n)).setCell ⟨L, k * 5 + 1, none⟩ (.int .i64 (m + 1 : Nat))) [F, L, P k]) :=
          ((HT2.out.trans HT3.out (fun x hx => by simp at hx; subst hx; exact .inr HGt.out)).setCell (by simp) _).setCell (by simp) _
        rw [show (a - j - 1 : Nat) = a - (j + 1) by omega] at HFb
        have hmi : (m : Int) < S.pages := by omega
        clear hr3 hg3 HT3 HG3 HL3 HP3 HF3 HPa HLa HFa HGa HF2 HL2 HP2 HG2 HSr HT2
        go_wp2
        go_roundw
        case rel => exact ⟨j + 1, by go_num, by omega, by omega, HTb.out, ⟨_, HFb.out⟩, HLb.out, HPb.out, HGb.out⟩
        case measure => simp [intOf]; omega
    · obtain rfl : j = ch := by omega
      have hE := HRe.out j (Nat.le_refl _) g wr HT.out false (a - j) (by omega) ⟨_, _, _, _, HFr.out⟩ HLw.out HPw.out HGw.out
      have HAd := Lib.hid (Add_fl hE 6 (by omega))
      clear hE HFr HLw HPw HGw
      go_wp2_with fail
      refine HAd.out.mono ?_
      rintro e w2 ⟨⟨v, rfl⟩, h2, ht2⟩
      have H2 := Lib.hid h2
      have HT2 := Lib.hid ht2
      clear HAd h2 ht2
      go_wp2
      refine bodyPost_ret (v := .int .i64 0) (by simp [results, Tryd.results116, go_sem]) rfl (HPost.out _ _ (HT.out.trans HT2.out (by simp)) (fun _ => ⟨rfl, H2.out⟩) (fun h1 h2 => by omega))
end
end Go.Proofs.YtlidbkofjchnnaaDoor

namespace Go.Proofs.YtlidbkofjchnnaaDoor
open Go.RowKit
set_option linter.unusedVariables false
set_option linter.unusedSimpArgs false

theorem setCells_row {g : Nat} {t : TypeId} : ∀ (vs : List Value) (o : Nat) (w : World) (cs : Array Value), Row w g t cs → ∃ cs', Row (w.setCells g o vs) g t cs' ∧ cs'.size = cs.size
  | [], _, _, cs, h => ⟨cs, h, rfl⟩
  | v :: r, o, w, cs, h => by
    obtain ⟨cs', h1, h2⟩ := setCells_row r (o + 1) _ _ (h.put o v)
    exact ⟨cs', h1, by rw [h2, Array.size_setIfInBounds]⟩
theorem setCells_turns {g : Nat} : ∀ (vs : List Value) (o : Nat) (w0 w : World), Turns w0 w [g] → Turns w0 (w.setCells g o vs) [g]
  | [], _, _, _, h => h
  | v :: r, o, w0, w, h => setCells_turns r (o + 1) w0 _ (h.setCell (by simp) v)
theorem zero_bytes (w : World) : (zeroValue 46).run Tryd.prog w = .ok (.slice none 0 0) w := by kernel_rfl
section
variable {w w' : World} {B F L : Nat} {P : Nat → Nat} {S : Fl}
/-- A block whose pages are nil. -/
theorem FlIs.clear (h : FlIs w B F L P S) {k : Nat} (hk : k < S.nb) (ty : TypeId) : ∃ w', (Builtin.clear_ #[87] ty #[.slice (some ⟨P k, 0, none⟩) S.pages S.pages]).run Tryd.prog w = .ok (.tuple #[]) w' ∧ FlIs w' B F L P (S.setB k { S.b k with pg := fun _ => none }) ∧ Turns w w' [P k] := by
  obtain ⟨cur, hr, hs, hc⟩ := h.pg k hk
  have hpp := h.ok.pages
  have hne := h.ne
  have hcell : ∀ j, j < S.pages → (w.cell? ⟨P k, 0 + j, none⟩).isSome = true := fun j hj => by
    rw [Nat.zero_add, hr.cell, Array.getElem?_eq_getElem (by omega)]; rfl
  have hrun := Lib.run_clear_slice w 87 46 ty (.slice none 0 0) Tryd.underlying87 zero_bytes rfl rfl (P k) 0 S.pages S.pages (by omega) hcell (fun j _ => by rw [Nat.zero_add]; exact hr.frozen j)
  obtain ⟨cs', hr', hs'⟩ := setCells_row (List.replicate S.pages (.slice none 0 0)) 0 w cur hr
  have ht : Turns w (w.setCells (P k) 0 (List.replicate S.pages (.slice none 0 0))) [P k] := setCells_turns _ _ _ _ (Turns.refl _ _)
  refine ⟨_, hrun, ?_, ht⟩
  have hF : S.off = S.off := rfl
  have := h.prog hk (ht.mono (by simp)) S.off S.armed h.ok.armed (x := { S.b k with pg := fun _ => none }) ?_ ?_ ⟨cs', hr', by rw [hs', hs], fun j hj => ⟨.slice none 0 0, ?_, rfl⟩⟩ ⟨(h.ok.wf k hk).next, fun _ _ => rfl, fun j l hl => by cases hl⟩
  · exact this
  · obtain ⟨s, p, r, e, hr⟩ := h.row
    exact ⟨s, p, r, e, ht.row hr (by simpa using hne.2.1 k hk)⟩
  · obtain ⟨cur, hr, hs, hc⟩ := h.bl
    refine ⟨cur, ht.row hr (by simpa using hne.2.2 k hk), hs, fun i hi j v hv => hc i hi j v ?_⟩
    by_cases e : i = k
    · subst e; rw [if_pos rfl] at hv; exact hv
    · rw [if_neg e] at hv; exact hv
  · have h1 := World.cell?_setCells_in (P k) (List.replicate S.pages (.slice none 0 0)) 0 w (fun i hi => hcell i (by simpa using hi)) j (by simpa using hj)
    rw [Nat.zero_add, hr'.cell] at h1
    simpa using h1
end
end Go.Proofs.YtlidbkofjchnnaaDoor

namespace Go.Proofs.YtlidbkofjchnnaaDoor
open Go.RowKit
set_option linter.unusedVariables false
set_option linter.unusedSimpArgs false

theorem Fl.setB_setB (S : Fl) (k : Nat) (x y : Bk) : (S.setB k x).setB k y = S.setB k y := by
  unfold Fl.setB
  congr 1
  funext i
  split
  · rfl
  · rename_i h; simp [h]
/-- A block that is half erased; erased. -/
def Fl.halfE (S : Fl) (k : Nat) : Fl := S.setB k { S.b k with half := true }
def Fl.wholeE (S : Fl) (k : Nat) : Fl := S.setB k { S.b k with pg := fun _ => none, next := 0, half := false }
section
variable {w w' : World} {B F L : Nat} {P : Nat → Nat} {S : Fl}
theorem FlIs.eqv {T : Fl} (h : FlIs w B F L P S) (e : S = T) : FlIs w B F L P T := e ▸ h
theorem FlIs.half (h : FlIs w B F L P S) {k : Nat} (hk : k < S.nb) (b : Bool) : FlIs (w.setCell ⟨L, k * 5 + 2, none⟩ (.bool b)) B F L P (S.setB k { S.b k with half := b }) ∧ Turns w (w.setCell ⟨L, k * 5 + 2, none⟩ (.bool b)) [L] :=
  ⟨h.put hk (by omega) _ _ rfl rfl ⟨(h.ok.wf k hk).next, (h.ok.wf k hk).none, (h.ok.wf k hk).raw⟩, (Turns.refl _ _).setCell (by simp) _⟩
theorem FlIs.nought (h : FlIs w B F L P S) {k : Nat} (hk : k < S.nb) (hn : ∀ j, (S.b k).pg j = none) : FlIs (w.setCell ⟨L, k * 5 + 1, none⟩ (.int .i64 0)) B F L P (S.setB k { S.b k with next := 0 }) ∧ Turns w (w.setCell ⟨L, k * 5 + 1, none⟩ (.int .i64 0)) [L] :=
  ⟨h.put hk (by omega) _ _ rfl rfl ⟨Nat.zero_le _, fun j _ => hn j, (h.ok.wf k hk).raw⟩, (Turns.refl _ _).setCell (by simp) _⟩
theorem Erase_failed (h : FlIs w B F L P S) (k : Nat) (hk : k < S.nb) (ho : S.off = false) (hf : (S.b k).failed = true) :
    Calls Tryd.prog 114 #[.pointer (some ⟨F, 0, none⟩), .int .i64 k] w fun e w' => e = .returned (.int .i64 7) ∧ w = w' := by
  have HBl := Lib.hid (block_in h k hk)
  have hmy0 := may_in h k hk true
  rw [ho, hf] at hmy0
  have HMy : Hid (Calls Tryd.prog 118 #[.pointer (some ⟨F, 0, none⟩), .pointer (some ⟨L, k * 5, none⟩), .bool true] w fun e w' => e = .returned (.int .i64 7) ∧ w = w') := hmy0
  clear h hmy0 ho hf
  go_enter Tryd.func114, Tryd.ntmps114
  go_wp2_with fail
  refine HBl.out.mono ?_
  rintro e w' ⟨rfl, rfl⟩
  clear HBl
  go_wp2_with fail
  refine HMy.out.mono ?_
  rintro e w' ⟨rfl, rfl⟩
  clear HMy
  go_wp2
  go_ret
  exact ⟨rfl, rfl⟩
/-- What Erase leaves. -/
def ErasePost (w : World) (B F L : Nat) (P : Nat → Nat) (S : Fl) (k : Nat) (e : Ending) (w' : World) : Prop :=
  Turns w w' [F, L, P k] ∧ (S.armed = 1 → e = .returned (.int .i64 4) ∧ FlIs w' B F L P { S with off := true, armed := 0 }) ∧
    (S.armed = 2 → e = .returned (.int .i64 4) ∧ FlIs w' B F L P { S.halfE k with off := true, armed := 0 }) ∧
    (S.armed ≠ 1 → S.armed ≠ 2 → e = .returned (.int .i64 0) ∧ FlIs w' B F L P { S.wholeE k with armed := S.armed - 2 })
set_option maxRecDepth 100000 in
set_option maxHeartbeats 4000000 in
theorem Erase_any (h : FlIs w B F L P S) (k : Nat) (hk : k < S.nb) (ho : S.off = false) (hf : (S.b k).failed = false) :
    Calls Tryd.prog 114 #[.pointer (some ⟨F, 0, none⟩), .int .i64 k] w (ErasePost w B F L P S k) := by
  have HBl := Lib.hid (block_in h k hk)
  have hmy0 := may_in h k hk true
  rw [ho, hf] at hmy0
  have HMy : Hid (Calls Tryd.prog 118 #[.pointer (some ⟨F, 0, none⟩), .pointer (some ⟨L, k * 5, none⟩), .bool true] w fun e w' => e = .returned (.int .i64 0) ∧ w = w') := hmy0
  have HH := Lib.hid h
  have HK := Lib.hid hk
  have HPost : Hid (∀ e w', Turns w w' [F, L, P k] → (S.armed = 1 → e = .returned (.int .i64 4) ∧ FlIs w' B F L P { S with off := true, armed := 0 }) →
    (S.armed = 2 → e = .returned (.int .i64 4) ∧ FlIs w' B F L P { S.halfE k with off := true, armed := 0 }) →
    (S.armed ≠ 1 → S.armed ≠ 2 → e = .returned (.int .i64 0) ∧ FlIs w' B F L P { S.wholeE k with armed := S.armed - 2 }) → ErasePost w B F L P S k e w') := fun e w' a b c d => ⟨a, b, c, d⟩
  have HOf := Lib.hid ho
  clear h hmy0 ho hf hk
  go_enter Tryd.func114, Tryd.ntmps114
  go_wp2_with fail
  refine HBl.out.mono ?_
  rintro e w' ⟨rfl, rfl⟩
  clear HBl
  go_wp2_with fail
  refine HMy.out.mono ?_
  rintro e w' ⟨rfl, rfl⟩
  clear HMy
  go_wp2
  go_loopw [19] (fun iv wr => ∃ (j : Nat) (T : Fl), iv = .int .i64 j ∧ FlIs wr B F L P T ∧ Turns w wr [F, L, P k] ∧ ((j = 0 ∧ T = S) ∨ (j = 1 ∧ S.armed ≠ 1 ∧ T = { S.halfE k with armed := S.armed - 1 }) ∨ (j = 2 ∧ S.armed ≠ 1 ∧ S.armed ≠ 2 ∧ T = { S.setB k { S.b k with half := false } with armed := S.armed - 2 }))) (fun i _ => 2 - (intOf i).toNat)
  case atStart => exact ⟨0, S, rfl, HH.out, Turns.refl _ _, .inl ⟨rfl, rfl⟩⟩
  case round =>
    obtain ⟨j, T, rfl, hT, ht, hj⟩ := hrel
    have HT := Lib.hid ht
    have HTf := Lib.hid hT
    have HSt := Lib.hid (step_fl hT)
    clear hT ht
    rcases hj with ⟨rfl, rfl⟩ | ⟨rfl, hs1, hTe⟩ | ⟨rfl, hs1, hs2, hTe⟩
    · by_cases ha : T.armed = 1
      · rw [decide_eq_false (by omega)] at HSt
        have HA := Lib.hid ha
        clear ha
        go_wp2_with fail
        refine HSt.out.mono ?_
        rintro e w2 ⟨rfl, h2, ht2⟩
        have H2 := Lib.hid h2
        have HT2 := Lib.hid ht2
        clear HSt h2 ht2
        go_wp2
        refine bodyPost_ret (v := .int .i64 4) (by simp [results, Tryd.results114, go_sem]) rfl (HPost.out _ _ (HT.out.trans HT2.out (by simp)) (fun _ => ⟨rfl, H2.out.eqv (by unfold Fl.step; rw [if_pos HA.out])⟩) (fun h => by have := HA.out; omega) (fun h => absurd HA.out h))
      · rw [decide_eq_true ha] at HSt
        have HA := Lib.hid ha
        clear ha
        go_wp2_with fail
        refine HSt.out.mono ?_
        rintro e w2 ⟨rfl, h2, ht2⟩
        have h2' := h2.eqv (T := { T with armed := T.armed - 1 }) (by unfold Fl.step; rw [if_neg HA.out])
        have h3 := h2'.half HK.out true
        have H3 := Lib.hid h3.1
        have HT3 : Hid (Turns w _ [F, L, P k]) := (HT.out.trans ht2 (by simp)).trans h3.2 (by simp)
        have d2 := (h2'.cells HK.out).2.2.1
        have f2 := h2'.frozenL (k * 5 + 2)
        clear HSt h2 ht2 h2' h3 HTf
        go_wp2
        go_roundw
        case rel => exact ⟨1, _, rfl, H3.out, HT3.out, .inr (.inl ⟨rfl, HA.out, rfl⟩)⟩
        case measure => simp [intOf]
    · have HKT : Hid (k < T.nb) := by rw [hTe]; exact HK.out
      have hTa : T.armed = S.armed - 1 := by rw [hTe]
      have HTe := Lib.hid hTe
      have HTa := Lib.hid hTa
      have HS1 := Lib.hid hs1
      by_cases ha : T.armed = 1
      · rw [decide_eq_false (by omega)] at HSt
        have HA := Lib.hid ha
        clear ha hTe hTa hs1
        go_wp2_with fail
        refine HSt.out.mono ?_
        rintro e w2 ⟨rfl, h2, ht2⟩
        have H2 := Lib.hid (h2.eqv (T := { S.halfE k with off := true, armed := 0 }) (by unfold Fl.step; rw [if_pos HA.out, HTe.out]))
        have HT2 := Lib.hid ht2
        clear HSt h2 ht2
        go_wp2
        refine bodyPost_ret (v := .int .i64 4) (by simp [results, Tryd.results114, go_sem]) rfl (HPost.out _ _ (HT.out.trans HT2.out (by simp)) (fun h => absurd h HS1.out) (fun _ => ⟨rfl, H2.out⟩) (fun _ h => by have := HA.out; have := HTa.out; omega))
      · rw [decide_eq_true ha] at HSt
        have HA := Lib.hid ha
        clear ha hTe hTa hs1
        go_wp2_with fail
        refine HSt.out.mono ?_
        rintro e w2 ⟨rfl, h2, ht2⟩
        have h2' := h2.eqv (T := { T with armed := T.armed - 1 }) (by unfold Fl.step; rw [if_neg HA.out])
        have h3 := h2'.half HKT.out false
        have H3 := Lib.hid (h3.1.eqv (T := { S.setB k { S.b k with half := false } with armed := S.armed - 2 }) (by
          rw [HTe.out]
          simp only [Fl.halfE, Fl.setB]
          congr 1
          funext i
          by_cases h : i = k <;> simp [h]))
        have HT3 : Hid (Turns w _ [F, L, P k]) := (HT.out.trans ht2 (by simp)).trans h3.2 (by simp)
        have d2 := (h2'.cells HKT.out).2.2.1
        have f2 := h2'.frozenL (k * 5 + 2)
        clear HSt h2 ht2 h2' h3 HTf
        go_wp2
        go_roundw
        case rel => exact ⟨2, _, rfl, H3.out, HT3.out, .inr (.inr ⟨rfl, HS1.out, fun h => HA.out (by have := HTa.out; omega), rfl⟩)⟩
        case measure => simp [intOf]
    · have HKT : Hid (k < T.nb) := by rw [hTe]; exact HK.out
      have HTe := Lib.hid hTe
      have HS1 := Lib.hid hs1
      have HS2 := Lib.hid hs2
      have d0 := (HTf.out.cells HKT.out).1
      obtain ⟨w2, hrun, h2, ht2⟩ := HTf.out.clear HKT.out 0
      have h3 := h2.nought (k := k) HKT.out (fun j => by rw [Fl.setB_self])
      have d1 := (h2.cells (k := k) HKT.out).2.1
      have f1 := h2.frozenL (k * 5 + 1)
      have HAd := Lib.hid (Add_fl h3.1 8 (by omega))
      have HT3 : Hid (Turns w (w2.setCell ⟨L, k * 5 + 1, none⟩ (.int .i64 0)) [F, L, P k]) := (HT.out.trans ht2 (by simp)).trans h3.2 (by simp)
      have HEq : Hid (((T.setB k { T.b k with pg := fun _ => none }).setB k { (T.setB k { T.b k with pg := fun _ => none }).b k with next := 0 }) = { S.wholeE k with armed := S.armed - 2 }) := by
        unfold Hid
        rw [HTe.out]
        simp only [Fl.wholeE, Fl.setB]
        congr 1
        funext i
        by_cases h : i = k <;> simp [h]
      clear HSt HTf hTe hs1 hs2 h2 ht2 h3
      go_wp2_with fail
      refine HAd.out.mono ?_
      rintro e w4 ⟨⟨v, rfl⟩, h4, ht4⟩
      have H4 := Lib.hid (h4.eqv HEq.out)
      have HT4 := Lib.hid ht4
      clear HAd h4 ht4
      go_wp2
      refine bodyPost_ret (v := .int .i64 0) (by simp [results, Tryd.results114, go_sem]) rfl (HPost.out _ _ (HT3.out.trans HT4.out (by simp)) (fun h => absurd h HS1.out) (fun h => absurd h HS2.out) (fun _ _ => ⟨rfl, H4.out⟩))
end
end Go.Proofs.YtlidbkofjchnnaaDoor

namespace Go.Proofs.YtlidbkofjchnnaaDoor
open Go.RowKit
set_option linter.unusedVariables false
set_option linter.unusedSimpArgs false

theorem block_info : (Tryd.prog.info? 89).map (fun i => (i.zero, i.size, i.bytes)) = some (some (.agg #[.slice none 0 0, .int .i64 0, .bool false, .bool false, .bool false]), 5, 40) := by kernel_rfl
theorem bytes_info : (Tryd.prog.info? 46).map (fun i => (i.zero, i.size, i.bytes)) = some (some (.slice none 0 0), 1, 24) := by kernel_rfl
def bk0 : Bk := ⟨fun _ => none, 0, false, false, false⟩
/-- A new flash. -/
def Fl.new (nb pages chunks : Nat) : Fl := ⟨false, 0, nb, pages, chunks, fun _ => bk0⟩
/-- What New has laid when i blocks have their pages. -/
structure NewIs (w wr : World) (F L : Nat) (nb pages chunks i : Nat) (P : Nat → Nat) : Prop where
  row : Row wr F 42 (fcells false 0 0 [.slice (some ⟨L, 0, none⟩) nb nb, .int .i64 pages, .int .i64 chunks, .int .i64 0, .int .i64 0, .int .i64 0])
  bl : ∃ cur, Row wr L 89 cur ∧ cur.size = nb * 5 ∧ ∀ j, j < nb → ∀ m v, ((.slice (if j < i then some ⟨P j, 0, none⟩ else none) (if j < i then pages else 0) (if j < i then pages else 0) :: [.int .i64 0, .bool false, .bool false, .bool false] : List Value))[m]? = some v → cur[j * 5 + m]? = some v
  pg : ∀ j, j < i → w.heap.size ≤ P j ∧ Row wr (P j) 46 (madeCells #[.slice none 0 0] pages)
  inj : ∀ j m, j < i → m < i → P j = P m → j = m
  below : Below w.heap.size w wr
theorem made_at (v : Value) (n j : Nat) (h : j < n) : (madeCells #[v] n)[j]? = some v := by
  simp [madeCells, h, Nat.mod_one]
theorem NewIs.done {w wr : World} {F L nb pages chunks : Nat} {P : Nat → Nat} (h : NewIs w wr F L nb pages chunks nb P) (hF : w.heap.size ≤ F) (hL : w.heap.size ≤ L) (h1 : 1 ≤ nb ∧ nb ≤ 1024) (h2 : 2 ≤ pages ∧ pages ≤ 256 ∧ pages % 2 = 0) (h3 : 1 ≤ chunks ∧ chunks ≤ 8) :
    FlIs wr w.heap.size F L P (Fl.new nb pages chunks) := by
  refine ⟨hF, hL, fun i hi => (h.pg i hi).1, ⟨0, 0, 0, 0, h.row⟩, ?_, ?_, h.inj, ⟨h1, h2, h3, by show 0 < _; omega, fun i _ => ⟨Nat.zero_le _, fun _ _ => rfl, fun j l hl => by cases hl⟩⟩⟩
  · obtain ⟨cur, hr, hs, hc⟩ := h.bl
    refine ⟨cur, hr, hs, fun i hi j v hv => hc i hi j v ?_⟩
    have hi' : i < nb := hi
    rw [if_pos hi', if_pos hi']
    exact hv
  · intro i hi
    refine ⟨_, (h.pg i hi).2, by simp [madeCells]; rfl, fun j hj => ⟨_, made_at _ _ _ hj, rfl⟩⟩
end Go.Proofs.YtlidbkofjchnnaaDoor
namespace Go.Proofs.YtlidbkofjchnnaaDoor
open Go.RowKit
set_option linter.unusedVariables false
set_option linter.unusedSimpArgs false

def five : List Value := [.slice none 0 0, .int .i64 0, .bool false, .bool false, .bool false]
theorem made_get (cs : Array Value) (n i : Nat) (hi : i < n) (hs : 0 < cs.size) : (madeCells cs n)[i]? = cs[i % cs.size]? := by
  have hm : i % cs.size < cs.size := Nat.mod_lt _ hs
  simp [madeCells, hi, Array.getElem?_eq_getElem hm]
  exact getElem!_pos cs _ hm
theorem made5 (n j m : Nat) (v : Value) (hj : j < n) (hm : five[m]? = some v) : (madeCells (.agg #[.slice none 0 0, .int .i64 0, .bool false, .bool false, .bool false] : Value).cells (n * 5))[j * 5 + m]? = some v := by
  have h5 : m < 5 := by have := (List.getElem?_eq_some_iff.1 hm).1; simpa [five] using this
  have hc : (.agg #[.slice none 0 0, .int .i64 0, .bool false, .bool false, .bool false] : Value).cells = five.toArray := rfl
  rw [hc, made_get _ _ _ (by omega) (by decide), show five.toArray.size = 5 from rfl, show (j * 5 + m) % 5 = m by omega, List.getElem?_toArray]
  exact hm
theorem NewIs.step {w wr : World} {F L nb pages chunks i : Nat} {P : Nat → Nat} (h : NewIs w wr F L nb pages chunks i P) (hi : i < nb) (hF : w.heap.size ≤ F) (hL : w.heap.size ≤ L) :
    NewIs w ((wr.drew.alloc (.cells (madeCells #[.slice none 0 0] pages) 46)).setCell ⟨L, i * 5, none⟩ (.slice (some ⟨wr.drew.heap.size, 0, none⟩) pages pages)) F L nb pages chunks (i + 1) (fun x => if x = i then wr.drew.heap.size else P x) := by
  obtain ⟨cur, hrL, hs, hc⟩ := h.bl
  have hFL : F ≠ L := h.row.ne_type hrL (by decide)
  have hPL : ∀ j, j < i → P j ≠ L := fun j hj => (h.pg j hj).2.ne_type hrL (by decide)
  have hnew : wr.drew.heap.size ≠ L := Nat.ne_of_gt hrL.lt
  have hPn : ∀ j, j < i → P j ≠ wr.drew.heap.size := fun j hj => Nat.ne_of_lt (h.pg j hj).2.lt
  refine ⟨?_, ⟨_, ((show Row wr.drew L _ cur from hrL).alloc _).put (i * 5) _, by rw [Array.size_setIfInBounds]; exact hs, fun j hj m v hv => ?_⟩, fun j hj => ?_, fun j m hj hm he => ?_, ?_⟩
  · exact ((show Row wr.drew F _ _ from h.row).alloc _).far hFL _
  · have hm5 : m < 5 := by have := (List.getElem?_eq_some_iff.1 hv).1; simpa using this
    rw [Array.getElem?_setIfInBounds]
    by_cases e : j = i
    · subst e
      by_cases em : m = 0
      · subst em
        rw [if_pos (by omega), if_pos (by omega)]
        simpa using hv
      · rw [if_neg (by omega)]
        refine hc j hj m v ?_
        obtain ⟨m', rfl⟩ : ∃ m', m = m' + 1 := ⟨m - 1, by omega⟩
        simpa using hv
    · rw [if_neg (by omega)]
      refine hc j hj m v ?_
      by_cases hji : j < i
      · rw [if_pos hji, if_pos hji]
        rw [if_pos (show j < i + 1 by omega), if_pos (show j < i + 1 by omega)] at hv
        simp only [if_neg e] at hv
        exact hv
      · rw [if_neg hji, if_neg hji]
        rw [if_neg (show ¬ j < i + 1 by omega), if_neg (show ¬ j < i + 1 by omega)] at hv
        exact hv
  · by_cases e : j = i
    · subst e
      simp only [if_true]
      exact ⟨h.below.size, (Row.fresh _ _ _).far hnew _⟩
    · simp only [if_neg e]
      have := h.pg j (by omega)
      exact ⟨this.1, ((show Row wr.drew _ _ _ from this.2).alloc _).far (hPL j (by omega)) _⟩
  · by_cases ej : j = i
    · by_cases em : m = i
      · omega
      · simp only [if_pos ej, if_neg em] at he
        exact absurd he.symm (hPn m (by omega))
    · by_cases em : m = i
      · simp only [if_neg ej, if_pos em] at he
        exact absurd he (hPn j (by omega))
      · simp only [if_neg ej, if_neg em] at he
        exact h.inj j m (by omega) (by omega) he
  · exact Turns.below (S := [L]) ((((Turns.refl wr [L]).drew).alloc _).setCell (by simp) _) h.below h.below.size (by simpa using hL)
set_option maxRecDepth 100000 in
set_option maxHeartbeats 4000000 in
theorem New_any (nb pages chunks : Nat) (h1 : 1 ≤ nb ∧ nb ≤ 1024) (h2 : 2 ≤ pages ∧ pages ≤ 256 ∧ pages % 2 = 0) (h3 : 1 ≤ chunks ∧ chunks ≤ 8) (w : World) :
    Calls Tryd.prog 15 #[.int .i64 nb, .int .i64 pages, .int .i64 chunks] w fun e w' => ∃ F L P, e = .returned (.tuple #[.pointer (some ⟨F, 0, none⟩), .int .i64 0]) ∧ FlIs w' w.heap.size F L P (Fl.new nb pages chunks) ∧ Below w.heap.size w w' := by
  obtain ⟨i1, ji, jz0, jz1, jz2⟩ := info_parts block_info
  obtain ⟨i2, ki, kz0, kz1, kz2⟩ := info_parts bytes_info
  have hb1 : Hid (i1.bytes * nb ≤ 281474976710656) := by unfold Hid; rw [jz2]; omega
  have hb2 : Hid (nb ≤ maxLen) := by unfold Hid maxLen; omega
  have hb3 : Hid (i2.bytes * pages ≤ 281474976710656) := by unfold Hid; rw [kz2]; omega
  have H2 := Lib.hid h2
  have hp2 : 2 ≤ pages ∧ pages ≤ 256 := ⟨h2.1, h2.2.1⟩
  have hrem : (pages : Int).tmod 2 = 0 := by rw [Int.tmod_eq_emod_of_nonneg (by omega)]; have := h2.2.2; omega
  have hrem2 : (pages : Int) % 2 = 0 := by have := h2.2.2; omega
  clear h2
  go_enter Tryd.func15, Tryd.ntmps15
  go_wp2_with ((with_reducible refine wpList_make_full _ (o := ⟨some 38, .makeSlice 40 (.tmp 37) (.tmp 37), _, _, _, _⟩) rfl (.tmp 37) (.tmp 37) 40 rfl w.heap.size 89 i1 _ 5 Tryd.underlying40 ji jz0 jz1 .i64 .i64 _ _ nb rfl rfl rfl rfl hb1.out hb2.out (Nat.le_refl _) ?_); intro w1 ho1 hg1)
  obtain ⟨_, cL, hrL, hsL, _, _, htL⟩ := own_row ho1
  have HL0 : Hid (Row w1 w.heap.size 89 cL) := hrL
  have HLs : Hid (cL.size = nb * 5) := hsL
  have HLc : Hid (∀ j, j < nb → ∀ m v, five[m]? = some v → cL[j * 5 + m]? = some v) := fun j hj m v hv => by
    have h := made5 nb j m v hj hv
    have h5 : m < 5 := by have := (List.getElem?_eq_some_iff.1 hv).1; simpa [five] using this
    have e : cL = madeCells (.agg #[.slice none 0 0, .int .i64 0, .bool false, .bool false, .bool false] : Value).cells (nb * 5) := by
      apply Array.ext'
      rw [← htL, List.take_of_length_le (by simp [hsL])]
    rw [e]; exact h
  have HBw : Hid (Below w.heap.size w w1) := (Below.refl _ _).grown hg1 (Nat.le_refl _) (by intro k hk; cases hk)
  have hlt1 : w.heap.size < w1.heap.size := hrL.lt
  obtain ⟨wB, hwB⟩ : ∃ wB, wB = w1.alloc (.cells #[.bool false, .int .i64 0, .int .i64 0, .slice (some ⟨w.heap.size, 0, none⟩) nb nb, .int .i64 pages, .int .i64 chunks, .int .i64 0, .int .i64 0, .int .i64 0] 42) := ⟨_, rfl⟩
  have HN0 : Hid (NewIs w wB w1.heap.size w.heap.size nb pages chunks 0 (fun _ => 0)) := by
    refine ⟨by rw [hwB]; exact Row.fresh _ _ _, ⟨cL, by rw [hwB]; exact hrL.alloc _, hsL, fun j hj m v hv => HLc.out j hj m v ?_⟩, fun j hj => by omega, fun j m hj => by omega, by rw [hwB]; exact HBw.out.alloc HBw.out.size _⟩
    rw [if_neg (by omega), if_neg (by omega)] at hv
    exact hv
  rw [← hwB]
  have hbsz : w.heap.size ≤ w1.heap.size := Nat.le_of_lt hlt1
  have HLt := Lib.hid hbsz
  generalize w1.heap.size = F at *
  clear hwB HLc HLs HL0 HBw hrL hsL htL ho1 hg1 hlt1 hbsz
  go_loopw [48] (fun iv wr => ∃ (i : Nat) (P : Nat → Nat), iv = .int .i64 i ∧ i ≤ nb ∧ NewIs w wr F w.heap.size nb pages chunks i P) (fun i _ => nb - (intOf i).toNat)
  case atStart => exact ⟨0, _, rfl, by omega, HN0.out⟩
  case round =>
    obtain ⟨i, P, rfl, hi, hN⟩ := hrel
    have HN := Lib.hid hN
    clear hN HN0
    by_cases hlt : i < nb
    · obtain ⟨cur, hrL, hs, hc⟩ := HN.out.bl
      have HrL := Lib.hid hrL
      have k1 : ∀ t : Kept wr [w.heap.size], t.u.cell? ⟨F, 3, none⟩ = some (.slice (some ⟨w.heap.size, 0, none⟩) nb nb) := fun t => by
        rw [(t.h.row HN.out.row (by simp; exact HN.out.row.ne_type hrL (by decide))).cell]; rfl
      have hii : (i : Int) < nb := by omega
      have HSt := Lib.hid (HN.out.step hlt HLt.out (Nat.le_refl _))
      obtain ⟨v1, q1⟩ := Row.some ((show Row wr.drew w.heap.size _ cur from hrL).alloc (.cells (madeCells #[.slice none 0 0] pages) 46)) (i := i * 5) (by omega)
      have q2 := Row.frozen ((show Row wr.drew w.heap.size _ cur from hrL).alloc (.cells (madeCells #[.slice none 0 0] pages) 46)) (i * 5)
      have hwi : IntKind.i64.wrap ((i : Int) + 1) = (i : Int) + 1 := by rw [IntKind.wrap_i64]; omega
      clear hrL hs hc
      go_wp2
      (refine region_kept ([w.heap.size]) [0, 1, 2, 3, 4, 5] [6, 7, 8, 9] (by kernel_rfl) (by kernel_rfl) (fun _ _ _ _ _ h => h) ?_; simp only [List.filterMap_cons, List.getElem?_cons_zero, List.getElem?_cons_succ, List.filterMap_nil]; (repeat ((show wpQuiet _ _ _ _ (_ :: _) _); go_big_quiet_step (fail))); refine wpQuiet_nil ?_)
      refine wpSeqS_step (wpList_make_row _ rfl (.tmp 56) (.tmp 56) 87 rfl 46 i2 _ Tryd.underlying87 ki kz0 kz1 rfl .i64 .i64 pages rfl rfl hb3.out (by omega) ?_)
      have HTz : Hid (Turns wr (wr.drew.alloc (.cells (madeCells #[.slice none 0 0] pages) 46)) [w.heap.size]) := ((Turns.refl _ _).drew).alloc _
      refine wpList_nil (outQ_normal HTz.out ?_)
      clear k1
      generalize wr.drew.alloc (.cells (madeCells #[.slice none 0 0] pages) 46) = wz at HSt HTz q1 q2 ⊢
      refine wpSeqS_step ?_
      go_wp2_with fail
      refine outQ_normal HTz.out ?_
      refine wpSeqS_step ?_
      go_wp2_with fail
      refine outQ_normal HTz.out ?_
      refine wpSeqS_last ?_
      go_wp2
      go_roundw
      case rel => exact ⟨i + 1, _, by go_num, by omega, HSt.out⟩
      case measure => simp [intOf]; omega
    · obtain rfl : i = nb := by omega
      have HD := Lib.hid (HN.out.done HLt.out (Nat.le_refl _) h1 H2.out h3)
      go_wp2
      refine bodyPost_ret (v := .tuple #[.pointer (some ⟨F, 0, none⟩), .int .i64 0]) (by simp [results, Tryd.results15, go_sem]) rfl ⟨F, _, P, rfl, HD.out, HN.out.below⟩
end Go.Proofs.YtlidbkofjchnnaaDoor
