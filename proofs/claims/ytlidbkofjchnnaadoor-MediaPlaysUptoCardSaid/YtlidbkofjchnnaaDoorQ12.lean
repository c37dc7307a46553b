/- What follows is laid together from several texts of mine, in their order. -/
import Derived.Test.YtlidbkofjchnnaaDoorQ11

namespace Go.Proofs.YtlidbkofjchnnaaDoor
open Go.RowKit
set_option linter.unusedVariables false
set_option linter.unusedSimpArgs false

/-- A flash behind a page that was written; behind one that was cut. -/
def Fl.wrote (S : Fl) (k : Nat) (r : List Nat) : Fl := { S.setB k (progB S k r S.chunks) with off := false, armed := S.armed - S.chunks }
def Fl.torn (S : Fl) (k : Nat) (r : List Nat) : Fl := { S.setB k (progB S k r (S.armed - 1)) with off := true, armed := 0 }
theorem Cells8.turns {w w' : World} {T : List Nat} {A : Option Addr} {l : List Nat} (h : Cells8 w A l) (ht : Turns w w' T) (hA : ∀ a, A = some a → a.block ∉ T) : Cells8 w' A l := fun i hi => by
  obtain ⟨b, off, e, hc⟩ := h i hi
  exact ⟨b, off, e, ht.cell hc (show b ∉ T from hA _ e)⟩
section
variable {w : World} {B M Q F L n : Nat} {P : Nat → Nat} {S : Fl} {bad : Nat → Bool} {md : Int}
theorem wrote_b (S : Fl) (k : Nat) (r : List Nat) (hc : 1 ≤ S.chunks) (hr : r.length = 73 * S.chunks) : (S.wrote k r).b k = { S.b k with pg := fun i => if i = (S.b k).next then some r else (S.b k).pg i, next := (S.b k).next + 1 } := by
  unfold Fl.wrote
  show (S.setB k _).b k = _
  rw [Fl.setB_self]
  unfold progB
  rw [if_neg (by omega), part_all r _ hr]
theorem wrote_raw (S : Fl) (k : Nat) (r : List Nat) (hc : 1 ≤ S.chunks) (hr : r.length = 73 * S.chunks) : (S.wrote k r).raw k (S.b k).next = r := by
  unfold Fl.raw
  rw [wrote_b S k r hc hr]
  simp
theorem wrote_has (S : Fl) (k : Nat) (r : List Nat) (hc : 1 ≤ S.chunks) (hr : r.length = 73 * S.chunks) : (S.wrote k r).has k = S.has k := by
  unfold Fl.has
  rw [wrote_b S k r hc hr]
  rfl
/-- What Write leaves where it writes. -/
def MWritePost (w : World) (B M Q F L : Nat) (P : Nat → Nat) (S : Fl) (n : Nat) (bad : Nat → Bool) (md : Int) (k : Nat) (r : List Nat) (e : Ending) (w' : World) : Prop :=
  Turns w w' (medT M Q F L P S.nb) ∧ ((S.armed = 0 ∨ S.chunks < S.armed) → e = .returned (.tuple #[.int .i64 (S.b k).next, .int .i64 0]) ∧ MedIs w' B M Q F L P (S.wrote k r) n bad (IntKind.i64.wrap (md + (0 : Nat)))) ∧
    (1 ≤ S.armed → S.armed ≤ S.chunks → e = .returned (.tuple #[.int .i64 0, .int .i64 4]) ∧ MedIs w' B M Q F L P (S.torn k r) n bad md)
set_option maxRecDepth 100000 in
set_option maxHeartbeats 2000000 in
theorem MWrite_cut (h : MedIs w B M Q F L P S n bad md) (k : Nat) (hk : k < S.nb) (A : Option Addr) (c : Nat) (d : List Nat) (hd : d.length = n) (h256 : ∀ u ∈ d, u < 256) (hc : Cells8 w A d) (hA : ∀ a, A = some a → a.block ∉ medT M Q F L P S.nb) (hr : S.room bad k ≠ 0) (ho : S.off = false) (hf : (S.b k).failed = false) (ha : 1 ≤ S.armed ∧ S.armed ≤ S.chunks) :
    Calls Tryd.prog 10 #[.pointer (some ⟨M, 0, none⟩), .int .i64 k, .slice A n c] w (MWritePost w B M Q F L P S n bad md k (laid d S.chunks)) := by
  have hrw := laid_raw (d := d) (c := S.chunks) (by have := h.bytes; omega) h256
  have hch := h.fl.ok.chunks
  have ht := there_N h k 0
  rw [decide_eq_true (by omega)] at ht
  have HT := Lib.hid ht
  obtain ⟨c0, c2, c3, _⟩ := h.cells
  have hl := h.lookN hk
  obtain ⟨hb, hh, hnx⟩ := room_parts hr
  rw [hb] at hl
  have hR := Room_N h k hk
  generalize S.room bad k = rm at *
  have hrm : ¬ (rm : Int) = 0 := by omega
  have HR := Lib.hid hR
  have hO := Off_N h
  rw [ho] at hO
  have HO := Lib.hid hO
  have HSh := Lib.hid (Shape_N h)
  have HLy := Lib.hid (Lay_med h A c d hd h256 hc)
  have HNx : Hid (∀ w1, MedIs w1 B M Q F L P S n bad md → Calls Tryd.prog 59 #[.pointer (some ⟨F, 0, none⟩), .int .i64 k] w1 fun e w' => e = .returned (.int .i64 (S.b k).next) ∧ w1 = w') := fun w1 h1 => by
    have := Next_in h1.fl k hk
    rw [hh, if_neg (by simp)] at this
    exact this
  have HPr : Hid (∀ w1 rb rc, MedIs w1 B M Q F L P S n bad md → 73 * S.chunks ≤ rc → w1.ownsRow w.heap.size 5 1 (.slice (some ⟨rb, 0, none⟩) (73 * S.chunks) rc) (73 * S.chunks) (intsV .u8 (laid d S.chunks)) → Calls Tryd.prog 116 #[.pointer (some ⟨F, 0, none⟩), .int .i64 k, .int .i64 ((S.b k).next : Nat), .slice (some ⟨rb, 0, none⟩) (73 * S.chunks) rc] w1 fun e w' => e = .returned (.int .i64 4) ∧ MedIs w' B M Q F L P (S.torn k (laid d S.chunks)) n bad md ∧ Turns w1 w' [F, L, P k]) := fun w1 rb rc h1 hrc hown =>
    (Program_any h1.fl k hk ho hf hh hnx _ hrw rb rc hrc (own_mono hown (Nat.zero_le _))).mono fun e w' ⟨ht, _, h4⟩ => ⟨(h4 ha.1 ha.2).1, h1.flash (h4 ha.1 ha.2).2 ht (fun g hg => mem_flS.2 (by simp at hg; rcases hg with rfl | rfl | rfl; exact .inl rfl; exact .inr (.inl rfl); exact .inr (.inr ⟨k, hk, rfl⟩))) rfl rfl, ht⟩
  have HFa : Hid (∀ w1, Calls Tryd.prog 30 #[.pointer (some ⟨M, 0, none⟩), .int .i64 k, .int .i64 4] w1 fun e w' => e = .returned (.int .i64 4) ∧ w1 = w') := fun w1 => fail_no M k 4 (by decide) w1
  have HPost : Hid (∀ w1 w2, Below w.heap.size w w1 → Turns w1 w2 [F, L, P k] → Turns w w2 (medT M Q F L P S.nb)) := fun w1 w2 hb ht => (Turns.of_below hb _).trans ht (fun g hg => .inl (mem_medT.2 (by simp at hg; rcases hg with rfl | rfl | rfl; exact .inr (.inr (.inl rfl)); exact .inr (.inr (.inr (.inl rfl))); exact .inr (.inr (.inr (.inr ⟨k, hk, rfl⟩))))))
  have hno := nil_off F
  have hmo := met_off F
  have hns := nil_shape F
  have hms := met_shape F
  have hnn := nil_next F
  have hmn := met_next F
  have hnp := nil_program F
  have hmp := met_program F
  have HA := Lib.hid ha
  obtain ⟨nx, hnX⟩ : ∃ nx, nx = (S.b k).next := ⟨_, rfl⟩
  have HNX := Lib.hid hnX
  rw [← hnX] at HNx HPr
  clear h ht hk hb hr hR hO ho hh hnx hf hd h256 hc hrw hch ha hA hnX
  obtain ⟨r, hRr⟩ : ∃ r, r = laid d S.chunks := ⟨_, rfl⟩
  have HRr := Lib.hid hRr
  rw [← hRr] at HLy HPr
  clear hRr
  obtain ⟨ch, hcH⟩ : ∃ ch, ch = S.chunks := ⟨_, rfl⟩
  have HCH := Lib.hid hcH
  rw [← hcH] at HSh HLy HPr
  clear hcH
  go_enter Tryd.func10, Tryd.ntmps10
  go_wp2_with fail
  refine HT.out.mono ?_
  rintro e w1 ⟨rfl, m', rfl⟩
  clear HT
  go_wp2_with fail
  refine (HR.out _).mono ?_
  rintro e w1 ⟨rfl, m2, rfl⟩
  clear HR
  go_wp2_with fail
  refine (HO.out _).mono ?_
  rintro e w1 ⟨rfl, rfl⟩
  clear HO hno hmo
  go_wp2_with fail
  refine (HSh.out _).mono ?_
  rintro e w1 ⟨rfl, m3, rfl⟩
  clear HSh hns hms hl
  go_wp2_with fail
  refine (HLy.out _).mono ?_
  rintro e w1 ⟨rb, rc, rfl, hrc, how, hm1, hbl⟩
  have HRC := Lib.hid hrc
  have HOw := Lib.hid how
  have HM1 := Lib.hid hm1
  have HBl := Lib.hid hbl
  have c1 := hm1.cells.1
  clear HLy hm1 hbl c0 c2 c3 hrc how
  go_wp2_with fail
  refine (HNx.out w1 HM1.out).mono ?_
  rintro e w2 ⟨rfl, rfl⟩
  clear HNx hnn hmn
  go_wp2_with fail
  refine (HPr.out w1 rb rc HM1.out HRC.out HOw.out).mono ?_
  rintro e w2 ⟨rfl, hm2, ht2⟩
  have HM2 := Lib.hid hm2
  have HT2 := Lib.hid (HPost.out w1 w2 HBl.out ht2)
  clear HPr hnp hmp hm2 ht2
  go_wp2_with fail
  refine (HFa.out _).mono ?_
  rintro e w3 ⟨rfl, rfl⟩
  clear HFa
  go_wp2
  refine bodyPost_ret (v := .tuple #[.int .i64 0, .int .i64 4]) (by simp [results, Tryd.results10, go_sem]) rfl ⟨HT2.out, fun h => absurd h (by have := HA.out; omega), fun _ _ => ⟨rfl, by rw [← HRr.out]; exact HM2.out⟩⟩
set_option maxRecDepth 100000 in
set_option maxHeartbeats 2000000 in
theorem MWrite_done (h : MedIs w B M Q F L P S n bad md) (k : Nat) (hk : k < S.nb) (A : Option Addr) (c : Nat) (d : List Nat) (hd : d.length = n) (h256 : ∀ u ∈ d, u < 256) (hc : Cells8 w A d) (hA : ∀ a, A = some a → a.block ∉ medT M Q F L P S.nb) (hr : S.room bad k ≠ 0) (ho : S.off = false) (hf : (S.b k).failed = false) (ha : S.armed = 0 ∨ S.chunks < S.armed) :
    Calls Tryd.prog 10 #[.pointer (some ⟨M, 0, none⟩), .int .i64 k, .slice A n c] w (MWritePost w B M Q F L P S n bad md k (laid d S.chunks)) := by
  have hrw := laid_raw (d := d) (c := S.chunks) (by have := h.bytes; omega) h256
  have hch := h.fl.ok.chunks
  have ht := there_N h k 0
  rw [decide_eq_true (by omega)] at ht
  have HT := Lib.hid ht
  obtain ⟨c0, c2, c3, _⟩ := h.cells
  have hl := h.lookN hk
  obtain ⟨hb, hh, hnx⟩ := room_parts hr
  rw [hb] at hl
  have hR := Room_N h k hk
  generalize S.room bad k = rm at *
  have hrm : ¬ (rm : Int) = 0 := by omega
  have HR := Lib.hid hR
  have hO := Off_N h
  rw [ho] at hO
  have HO := Lib.hid hO
  have HSh := Lib.hid (Shape_N h)
  have HLy := Lib.hid (Lay_med h A c d hd h256 hc)
  have HNx : Hid (∀ w1, MedIs w1 B M Q F L P S n bad md → Calls Tryd.prog 59 #[.pointer (some ⟨F, 0, none⟩), .int .i64 k] w1 fun e w' => e = .returned (.int .i64 (S.b k).next) ∧ w1 = w') := fun w1 h1 => by
    have := Next_in h1.fl k hk
    rw [hh, if_neg (by simp)] at this
    exact this
  have HPr : Hid (∀ w1 rb rc, MedIs w1 B M Q F L P S n bad md → 73 * S.chunks ≤ rc → w1.ownsRow w.heap.size 5 1 (.slice (some ⟨rb, 0, none⟩) (73 * S.chunks) rc) (73 * S.chunks) (intsV .u8 (laid d S.chunks)) → Calls Tryd.prog 116 #[.pointer (some ⟨F, 0, none⟩), .int .i64 k, .int .i64 ((S.b k).next : Nat), .slice (some ⟨rb, 0, none⟩) (73 * S.chunks) rc] w1 fun e w' => e = .returned (.int .i64 0) ∧ MedIs w' B M Q F L P (S.wrote k (laid d S.chunks)) n bad md ∧ Turns w1 w' [F, L, P k]) := fun w1 rb rc h1 hrc hown =>
    (Program_any h1.fl k hk ho hf hh hnx _ hrw rb rc hrc (own_mono hown (Nat.zero_le _))).mono fun e w' ⟨ht, h4, _⟩ => ⟨(h4 ha).1, h1.flash (h4 ha).2 ht (fun g hg => mem_flS.2 (by simp at hg; rcases hg with rfl | rfl | rfl; exact .inl rfl; exact .inr (.inl rfl); exact .inr (.inr ⟨k, hk, rfl⟩))) rfl rfl, ht⟩
  have HRd : Hid (∀ w1 w2, Below w.heap.size w w1 → Turns w1 w2 [F, L, P k] → MedIs w2 B M Q F L P (S.wrote k (laid d S.chunks)) n bad md → Calls Tryd.prog 21 #[.pointer (some ⟨M, 0, none⟩), .int .i64 k, .int .i64 (S.b k).next] w2 fun e w' => ∃ B2 q, e = .returned (.tuple #[.slice B2 n q, .int .i64 0]) ∧ MedIs w' B M Q F L P (S.wrote k (laid d S.chunks)) n bad (IntKind.i64.wrap (md + (0 : Nat))) ∧ Turns w w' (medT M Q F L P S.nb) ∧ Hid (Calls Tryd.prog 31 #[.slice B2 n q, .slice A n c] w' fun e w'' => e = .returned (.bool true) ∧ w' = w'')) := fun w1 w2 hbl ht h2 => by
    have hb := wrote_b S k (laid d S.chunks) hch.1 hrw.1
    have hrr := wrote_raw S k (laid d S.chunks) hch.1 hrw.1
    have hdl : d.length ≤ 64 * S.chunks := by have := h.bytes; omega
    refine (MRead_core h2 k hk (S.b k).next (by rw [wrote_has S k _ hch.1 hrw.1]; exact hnx) rfl (by rw [hb]; exact hh)).mono fun e w' ⟨h3, ht3, _, _, h4⟩ => ?_
    rw [hrr] at h3 h4
    change MedIs w' B M Q F L P (S.wrote k (laid d S.chunks)) n bad (IntKind.i64.wrap (md + (cntOf (laid d S.chunks) S.chunks : Nat))) at h3
    obtain ⟨B2, q, he, hown⟩ := h4 (laid_how hch.1 hdl)
    rw [laid_cnt hdl] at h3
    have e1 : (rBytes (laid d S.chunks) (S.wrote k (laid d S.chunks)).chunks).take n = d := by rw [← hd]; exact laid_read hdl h256
    rw [e1] at hown
    have ht4 : Turns w w' (medT M Q F L P S.nb) := ((Turns.of_below hbl _).trans ht (fun g hg => .inl (mem_medT.2 (by simp at hg; rcases hg with rfl | rfl | rfl; exact .inr (.inr (.inl rfl)); exact .inr (.inr (.inr (.inl rfl))); exact .inr (.inr (.inr (.inr ⟨k, hk, rfl⟩))))))).trans ht3 (fun g hg => .inl (mem_medT.2 (by simp at hg; rcases hg with rfl | rfl; exact .inl rfl; exact .inr (.inr (.inl rfl)))))
    refine ⟨B2, q, he, h3, ht4, Equal_same B2 A n q c d hd w' ?_ (hc.turns ht4 hA)⟩
    exact (Cells8.of_own hown).2
  have hno := nil_off F
  have hmo := met_off F
  have hns := nil_shape F
  have hms := met_shape F
  have hnn := nil_next F
  have hmn := met_next F
  have hnp := nil_program F
  have hmp := met_program F
  have HA := Lib.hid ha
  obtain ⟨nx, hnX⟩ : ∃ nx, nx = (S.b k).next := ⟨_, rfl⟩
  have HNX := Lib.hid hnX
  rw [← hnX] at HNx HPr
  rw [← hnX] at HRd
  clear h ht hk hb hr hR hO ho hh hnx hf hd h256 hc hrw hch ha hA hnX
  obtain ⟨r, hRr⟩ : ∃ r, r = laid d S.chunks := ⟨_, rfl⟩
  have HRr := Lib.hid hRr
  rw [← hRr] at HLy HPr HRd
  clear hRr
  obtain ⟨ch, hcH⟩ : ∃ ch, ch = S.chunks := ⟨_, rfl⟩
  have HCH := Lib.hid hcH
  rw [← hcH] at HSh HLy HPr
  clear hcH
  go_enter Tryd.func10, Tryd.ntmps10
  go_wp2_with fail
  refine HT.out.mono ?_
  rintro e w1 ⟨rfl, m', rfl⟩
  clear HT
  go_wp2_with fail
  refine (HR.out _).mono ?_
  rintro e w1 ⟨rfl, m2, rfl⟩
  clear HR
  go_wp2_with fail
  refine (HO.out _).mono ?_
  rintro e w1 ⟨rfl, rfl⟩
  clear HO hno hmo
  go_wp2_with fail
  refine (HSh.out _).mono ?_
  rintro e w1 ⟨rfl, m3, rfl⟩
  clear HSh hns hms hl
  go_wp2_with fail
  refine (HLy.out _).mono ?_
  rintro e w1 ⟨rb, rc, rfl, hrc, how, hm1, hbl⟩
  have HRC := Lib.hid hrc
  have HOw := Lib.hid how
  have HM1 := Lib.hid hm1
  have HBl := Lib.hid hbl
  have c1 := hm1.cells.1
  clear HLy hm1 hbl c0 c2 c3 hrc how
  go_wp2_with fail
  refine (HNx.out w1 HM1.out).mono ?_
  rintro e w2 ⟨rfl, rfl⟩
  clear HNx hnn hmn
  go_wp2_with fail
  refine (HPr.out w1 rb rc HM1.out HRC.out HOw.out).mono ?_
  rintro e w2 ⟨rfl, hm2, ht2⟩
  have HR2 := Lib.hid (HRd.out w1 w2 HBl.out ht2 hm2)
  clear HPr hnp hmp hm2 ht2 HRd
  go_wp2_with fail
  refine HR2.out.mono ?_
  rintro e w3 ⟨B2, q, rfl, hm3, ht3, hEq⟩
  have HM3 := Lib.hid hm3
  have HT3 := Lib.hid ht3
  clear HR2 hm3 ht3
  go_wp2_with fail
  refine hEq.out.mono ?_
  rintro e w4 ⟨rfl, rfl⟩
  clear hEq
  go_wp2
  refine bodyPost_ret (v := .tuple #[.int .i64 nx, .int .i64 0]) (by simp [results, Tryd.results10, go_sem]) rfl ⟨HT3.out, fun _ => ⟨by rw [HNX.out], by rw [← HRr.out]; exact HM3.out⟩, fun h1 h2 => absurd h1 (by have := HA.out; omega)⟩
end
end Go.Proofs.YtlidbkofjchnnaaDoor
