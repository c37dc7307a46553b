/- What follows is laid together from several texts of mine, in their order. -/
import Derived.Test.YthjomnaejhehoaaGreatDoorQ10
import Derived.WalkKit

namespace Go.Proofs.YthjomnaejhehoaaGreatDoor
open Go.RowKit
set_option linter.unusedVariables false
set_option linter.unusedSimpArgs false

section
variable {w : World} {B M Q F L n : Nat} {P : Nat → Nat} {S : Fl} {bad : Nat → Bool} {md : Int}
theorem MWrite_out (h : MedIs w B M Q F L P S n bad md) (k : Int) (hk : k < 0 ∨ S.nb ≤ k) (A : Option Addr) (m c : Nat) : Calls Tryz.prog 63 #[.pointer (some ⟨M, 0, none⟩), .int .i64 k, .slice A m c] w fun e w' => e = .returned (.tuple #[.int .i64 0, .int .i64 1]) ∧ ∃ m', w' = w.drewN m' := by
  have ht := there_N h k 0
  rw [decide_eq_false (by omega)] at ht
  have HT := Lib.hid ht
  clear h ht hk
  go_enter Tryz.func63, Tryz.ntmps63
  go_wp2_with fail
  refine HT.out.mono ?_
  rintro e w1 ⟨rfl, m, rfl⟩
  clear HT
  go_wp2
  refine bodyPost_ret (v := .tuple #[.int .i64 0, .int .i64 1]) (by simp [results, Tryz.results63, go_sem]) rfl ⟨rfl, m, rfl⟩
theorem MWrite_len (h : MedIs w B M Q F L P S n bad md) (k : Nat) (hk : k < S.nb) (A : Option Addr) (m c : Nat) (hm : m ≠ n) : Calls Tryz.prog 63 #[.pointer (some ⟨M, 0, none⟩), .int .i64 k, .slice A m c] w fun e w' => e = .returned (.tuple #[.int .i64 0, .int .i64 1]) ∧ ∃ m', w' = w.drewN m' := by
  have ht := there_N h k 0
  rw [decide_eq_true (by omega)] at ht
  have HT := Lib.hid ht
  obtain ⟨c0, c2, c3, _⟩ := h.cells
  have hne : ¬ (m : Int) = n := by omega
  clear h ht hk hm
  go_enter Tryz.func63, Tryz.ntmps63
  go_wp2_with fail
  refine HT.out.mono ?_
  rintro e w1 ⟨rfl, m', rfl⟩
  clear HT
  go_wp2
  refine bodyPost_ret (v := .tuple #[.int .i64 0, .int .i64 1]) (by simp [results, Tryz.results63, go_sem]) rfl ⟨rfl, m', rfl⟩
theorem MWrite_bad (h : MedIs w B M Q F L P S n bad md) (k : Nat) (hk : k < S.nb) (A : Option Addr) (c : Nat) (hb : bad k = true) : Calls Tryz.prog 63 #[.pointer (some ⟨M, 0, none⟩), .int .i64 k, .slice A n c] w fun e w' => e = .returned (.tuple #[.int .i64 0, .int .i64 7]) ∧ ∃ m', w' = w.drewN m' := by
  have ht := there_N h k 0
  rw [decide_eq_true (by omega)] at ht
  have HT := Lib.hid ht
  obtain ⟨c0, c2, c3, _⟩ := h.cells
  have hl := h.lookN hk
  rw [hb] at hl
  clear h ht hk hb
  go_enter Tryz.func63, Tryz.ntmps63
  go_wp2_with fail
  refine HT.out.mono ?_
  rintro e w1 ⟨rfl, m', rfl⟩
  clear HT
  go_wp2
  refine bodyPost_ret (v := .tuple #[.int .i64 0, .int .i64 7]) (by simp [results, Tryz.results63, go_sem]) rfl ⟨rfl, m', rfl⟩
theorem MWrite_full (h : MedIs w B M Q F L P S n bad md) (k : Nat) (hk : k < S.nb) (A : Option Addr) (c : Nat) (hb : bad k = false) (hr : S.room bad k = 0) : Calls Tryz.prog 63 #[.pointer (some ⟨M, 0, none⟩), .int .i64 k, .slice A n c] w fun e w' => e = .returned (.tuple #[.int .i64 0, .int .i64 3]) ∧ ∃ m', w' = w.drewN m' := by
  have ht := there_N h k 0
  rw [decide_eq_true (by omega)] at ht
  have HT := Lib.hid ht
  obtain ⟨c0, c2, c3, _⟩ := h.cells
  have hl := h.lookN hk
  rw [hb] at hl
  have hR := Room_N h k hk
  rw [hr] at hR
  have HR := Lib.hid hR
  clear h ht hk hb hr hR
  go_enter Tryz.func63, Tryz.ntmps63
  go_wp2_with fail
  refine HT.out.mono ?_
  rintro e w1 ⟨rfl, m', rfl⟩
  clear HT
  go_wp2_with fail
  refine (HR.out _).mono ?_
  rintro e w1 ⟨rfl, m2, rfl⟩
  clear HR
  go_wp2
  refine bodyPost_ret (v := .tuple #[.int .i64 0, .int .i64 3]) (by simp [results, Tryz.results63, go_sem]) rfl ⟨rfl, m2, rfl⟩
theorem MWrite_off (h : MedIs w B M Q F L P S n bad md) (k : Nat) (hk : k < S.nb) (A : Option Addr) (c : Nat) (hr : S.room bad k ≠ 0) (ho : S.off = true) : Calls Tryz.prog 63 #[.pointer (some ⟨M, 0, none⟩), .int .i64 k, .slice A n c] w fun e w' => e = .returned (.tuple #[.int .i64 0, .int .i64 4]) ∧ ∃ m', w' = w.drewN m' := by
  have ht := there_N h k 0
  rw [decide_eq_true (by omega)] at ht
  have HT := Lib.hid ht
  obtain ⟨c0, c2, c3, _⟩ := h.cells
  have hl := h.lookN hk
  have hb : bad k = false := by
    cases hb : bad k with
    | false => rfl
    | true => unfold Fl.room at hr; rw [if_pos (by simp [hb])] at hr; exact absurd rfl hr
  rw [hb] at hl
  have hR := Room_N h k hk
  generalize S.room bad k = rm at *
  have hrm : ¬ (rm : Int) = 0 := by omega
  have HR := Lib.hid hR
  have hO := Off_N h
  rw [ho] at hO
  have HO := Lib.hid hO
  have hno := nil_off F
  have hmo := met_off F
  clear h ht hk hb hr hR hO ho
  go_enter Tryz.func63, Tryz.ntmps63
  go_wp2_with fail
  refine HT.out.mono ?_
  rintro e w1 ⟨rfl, m', rfl⟩
  clear HT
  go_wp2_with fail
  refine (HR.out _).mono ?_
  rintro e w1 ⟨rfl, m2, rfl⟩
  clear HR
  go_wp2_with fail
  refine (HO.out _).mono ?_
  rintro e w1 ⟨rfl, rfl⟩
  clear HO hno hmo
  go_wp2
  refine bodyPost_ret (v := .tuple #[.int .i64 0, .int .i64 4]) (by simp [results, Tryz.results63, go_sem]) rfl ⟨rfl, m2, rfl⟩
end
end Go.Proofs.YthjomnaejhehoaaGreatDoor
namespace Go.Proofs.YthjomnaejhehoaaGreatDoor
open Go.RowKit
set_option linter.unusedVariables false
set_option linter.unusedSimpArgs false

section
variable {w : World} {B M Q F L n : Nat} {P : Nat → Nat} {S : Fl} {bad : Nat → Bool} {md : Int}
theorem room_parts {k : Nat} (hr : S.room bad k ≠ 0) : bad k = false ∧ (S.b k).half = false ∧ (S.b k).next < S.has k := by
  unfold Fl.room at hr
  split at hr
  · exact absurd rfl hr
  · rename_i h
    rw [Bool.or_eq_true, not_or] at h
    exact ⟨by simpa using h.2, by simpa using h.1, by omega⟩
theorem Shape_N (h : MedIs w B M Q F L P S n bad md) (m : Nat) : Calls Tryz.prog 37 #[.pointer (some ⟨F, 0, none⟩)] (w.drewN m) fun e w' => e = .returned (.tuple #[.int .i64 S.nb, .int .i64 S.pages, .int .i64 S.chunks]) ∧ ∃ m', w' = w.drewN m' :=
  (Shape_any (h.drewN m).fl).mono fun e w' ⟨he, m', hw⟩ => ⟨he, m + m', by rw [hw, World.drewN_drewN]⟩
/-- Lay among a media's own calls. -/
theorem Lay_med (h : MedIs w B M Q F L P S n bad md) (A : Option Addr) (c : Nat) (d : List Nat) (hd : d.length = n) (h256 : ∀ u ∈ d, u < 256) (hc : Cells8 w A d) (m : Nat) :
    Calls Tryz.prog 75 #[.slice A n c, .int .i64 S.chunks] (w.drewN m) fun e w' => ∃ rb rc, e = .returned (.tuple #[.slice (some ⟨rb, 0, none⟩) (73 * S.chunks) rc, .int .i64 0]) ∧ 73 * S.chunks ≤ rc ∧ w'.ownsRow w.heap.size 5 1 (.slice (some ⟨rb, 0, none⟩) (73 * S.chunks) rc) (73 * S.chunks) (intsV .u8 (laid d S.chunks)) ∧ MedIs w' B M Q F L P S n bad md ∧ Below w.heap.size w w' := by
  have hch := h.fl.ok.chunks
  have hb := h.bytes
  subst hd
  refine (Lay_any A S.chunks c d hch.1 hch.2 hb.2 h256 (w.drewN m) hc (h.drewN m).tab).mono fun e w' ⟨Ao, co, he, ho, hbl⟩ => ?_
  obtain ⟨rb, rfl, hrc⟩ := own_addr ho (by omega)
  exact ⟨rb, co, he, hrc, ho, (h.drewN m).keep (Turns.of_below hbl []), (below_drewN0 (Below.refl _ _) m).trans (hbl.mono (Nat.le_refl _))⟩
set_option maxRecDepth 100000 in
set_option maxHeartbeats 1000000 in
theorem MWrite_failed (h : MedIs w B M Q F L P S n bad md) (k : Nat) (hk : k < S.nb) (A : Option Addr) (c : Nat) (d : List Nat) (hd : d.length = n) (h256 : ∀ u ∈ d, u < 256) (hc : Cells8 w A d) (hr : S.room bad k ≠ 0) (ho : S.off = false) (hf : (S.b k).failed = true) :
    Calls Tryz.prog 63 #[.pointer (some ⟨M, 0, none⟩), .int .i64 k, .slice A n c] w fun e w' => e = .returned (.tuple #[.int .i64 0, .int .i64 7]) ∧ MedIs w' B M Q F L P S n (setBad bad k) md ∧ Turns w w' [Q] := by
  have ht := there_N h k 0
  rw [decide_eq_true (by omega)] at ht
  have HT := Lib.hid ht
  obtain ⟨c0, c2, c3, _⟩ := h.cells
  have hl := h.lookN hk
  obtain ⟨hb, hh, hnx⟩ := room_parts hr
  rw [hb] at hl
  have hR := Room_N h k hk
  generalize S.room bad k = rm at *
  have hrm : ¬ (rm : Int) = 0 := by omega
  have HR := Lib.hid hR
  have hO := Off_N h
  rw [ho] at hO
  have HO := Lib.hid hO
  have HSh := Lib.hid (Shape_N h)
  have HLy := Lib.hid (Lay_med h A c d hd h256 hc)
  have HNx : Hid (∀ w1, MedIs w1 B M Q F L P S n bad md → Calls Tryz.prog 23 #[.pointer (some ⟨F, 0, none⟩), .int .i64 k] w1 fun e w' => e = .returned (.int .i64 (S.b k).next) ∧ w1 = w') := fun w1 h1 => by
    have := Next_in h1.fl k hk
    rw [hh, if_neg (by simp)] at this
    exact this
  have HPr : Hid (∀ w1 rb rc, MedIs w1 B M Q F L P S n bad md → Calls Tryz.prog 135 #[.pointer (some ⟨F, 0, none⟩), .int .i64 k, .int .i64 ((S.b k).next : Nat), .slice (some ⟨rb, 0, none⟩) (73 * S.chunks) rc] w1 fun e w' => e = .returned (.int .i64 7) ∧ w1 = w') := fun w1 rb rc h1 => Program_failed h1.fl k hk ho hf hnx _ rc
  have HFa : Hid (∀ w1, MedIs w1 B M Q F L P S n bad md → Calls Tryz.prog 60 #[.pointer (some ⟨M, 0, none⟩), .int .i64 k, .int .i64 7] w1 fun e w' => e = .returned (.int .i64 7) ∧ MedIs w' B M Q F L P S n (setBad bad k) md ∧ Turns w1 w' [Q]) := fun w1 h1 => fail_yes h1 k hk
  have hno := nil_off F
  have hmo := met_off F
  have hns := nil_shape F
  have hms := met_shape F
  have hnn := nil_next F
  have hmn := met_next F
  have hnp := nil_program F
  have hmp := met_program F
  generalize (S.b k).next = nx at *
  clear h ht hk hb hr hR hO ho hh hnx hf hd h256 hc
  generalize S.chunks = ch at *
  go_enter Tryz.func63, Tryz.ntmps63
  go_wp2_with fail
  refine HT.out.mono ?_
  rintro e w1 ⟨rfl, m', rfl⟩
  clear HT
  go_wp2_with fail
  refine (HR.out _).mono ?_
  rintro e w1 ⟨rfl, m2, rfl⟩
  clear HR
  go_wp2_with fail
  refine (HO.out _).mono ?_
  rintro e w1 ⟨rfl, rfl⟩
  clear HO hno hmo
  go_wp2_with fail
  refine (HSh.out _).mono ?_
  rintro e w1 ⟨rfl, m3, rfl⟩
  clear HSh hns hms hl
  go_wp2_with fail
  refine (HLy.out _).mono ?_
  rintro e w1 ⟨rb, rc, rfl, _, _, hm1, hbl⟩
  have HM1 := Lib.hid hm1
  have HBl := Lib.hid hbl
  have c1 := hm1.cells.1
  clear HLy hm1 hbl c0 c2 c3
  go_wp2_with fail
  refine (HNx.out w1 HM1.out).mono ?_
  rintro e w2 ⟨rfl, rfl⟩
  clear HNx hnn hmn
  go_wp2_with fail
  refine (HPr.out w1 rb rc HM1.out).mono ?_
  rintro e w2 ⟨rfl, rfl⟩
  clear HPr hnp hmp
  go_wp2_with fail
  refine (HFa.out w1 HM1.out).mono ?_
  rintro e w2 ⟨rfl, hm2, ht2⟩
  have HM2 := Lib.hid hm2
  have HT2 : Hid (Turns w w2 [Q]) := (Turns.of_below HBl.out [Q]).trans ht2 (fun g hg => .inl hg)
  clear hm2 ht2
  go_wp2
  refine bodyPost_ret (v := .tuple #[.int .i64 0, .int .i64 7]) (by simp [results, Tryz.results63, go_sem]) rfl ⟨rfl, HM2.out, HT2.out⟩
end
end Go.Proofs.YthjomnaejhehoaaGreatDoor

namespace Go.Proofs.YthjomnaejhehoaaGreatDoor
open Go.RowKit
set_option linter.unusedVariables false
set_option linter.unusedSimpArgs false

/-- A flash behind a page that was written; behind one that was cut. -/
def Fl.wrote (S : Fl) (k : Nat) (r : List Nat) : Fl := { S.setB k (progB S k r S.chunks) with off := false, armed := S.armed - S.chunks, progs := IntKind.i64.wrap (S.progs + 1) }
def Fl.torn (S : Fl) (k : Nat) (r : List Nat) : Fl := { S.setB k (progB S k r (S.armed - 1)) with off := true, armed := 0 }
theorem Cells8.turns {w w' : World} {T : List Nat} {A : Option Addr} {l : List Nat} (h : Cells8 w A l) (ht : Turns w w' T) (hA : ∀ a, A = some a → a.block ∉ T) : Cells8 w' A l := fun i hi => by
  obtain ⟨b, off, e, hc⟩ := h i hi
  exact ⟨b, off, e, ht.cell hc (show b ∉ T from hA _ e)⟩
section
variable {w : World} {B M Q F L n : Nat} {P : Nat → Nat} {S : Fl} {bad : Nat → Bool} {md : Int}
theorem wrote_b (S : Fl) (k : Nat) (r : List Nat) (hc : 1 ≤ S.chunks) (hr : r.length = 73 * S.chunks) : (S.wrote k r).b k = { S.b k with pg := fun i => if i = (S.b k).next then some r else (S.b k).pg i, next := (S.b k).next + 1 } := by
  unfold Fl.wrote
  show (S.setB k _).b k = _
  rw [Fl.setB_self]
  unfold progB
  rw [if_neg (by omega), part_all r _ hr]
theorem wrote_raw (S : Fl) (k : Nat) (r : List Nat) (hc : 1 ≤ S.chunks) (hr : r.length = 73 * S.chunks) : (S.wrote k r).raw k (S.b k).next = r := by
  unfold Fl.raw
  rw [wrote_b S k r hc hr]
  simp
theorem wrote_has (S : Fl) (k : Nat) (r : List Nat) (hc : 1 ≤ S.chunks) (hr : r.length = 73 * S.chunks) : (S.wrote k r).has k = S.has k := by
  unfold Fl.has
  rw [wrote_b S k r hc hr]
  rfl
/-- What Write leaves where it writes. -/
def MWritePost (w : World) (B M Q F L : Nat) (P : Nat → Nat) (S : Fl) (n : Nat) (bad : Nat → Bool) (md : Int) (k : Nat) (r : List Nat) (e : Ending) (w' : World) : Prop :=
  Turns w w' (medT M Q F L P S.nb) ∧ ((S.armed = 0 ∨ S.chunks < S.armed) → e = .returned (.tuple #[.int .i64 (S.b k).next, .int .i64 0]) ∧ MedIs w' B M Q F L P (S.wrote k r) n bad (IntKind.i64.wrap (md + (0 : Nat)))) ∧
    (1 ≤ S.armed → S.armed ≤ S.chunks → e = .returned (.tuple #[.int .i64 0, .int .i64 4]) ∧ MedIs w' B M Q F L P (S.torn k r) n bad md)
set_option maxRecDepth 100000 in
set_option maxHeartbeats 2000000 in
theorem MWrite_cut (h : MedIs w B M Q F L P S n bad md) (k : Nat) (hk : k < S.nb) (A : Option Addr) (c : Nat) (d : List Nat) (hd : d.length = n) (h256 : ∀ u ∈ d, u < 256) (hc : Cells8 w A d) (hA : ∀ a, A = some a → a.block ∉ medT M Q F L P S.nb) (hr : S.room bad k ≠ 0) (ho : S.off = false) (hf : (S.b k).failed = false) (ha : 1 ≤ S.armed ∧ S.armed ≤ S.chunks) :
    Calls Tryz.prog 63 #[.pointer (some ⟨M, 0, none⟩), .int .i64 k, .slice A n c] w (MWritePost w B M Q F L P S n bad md k (laid d S.chunks)) := by
  have hrw := laid_raw (d := d) (c := S.chunks) (by have := h.bytes; omega) h256
  have hch := h.fl.ok.chunks
  have ht := there_N h k 0
  rw [decide_eq_true (by omega)] at ht
  have HT := Lib.hid ht
  obtain ⟨c0, c2, c3, _⟩ := h.cells
  have hl := h.lookN hk
  obtain ⟨hb, hh, hnx⟩ := room_parts hr
  rw [hb] at hl
  have hR := Room_N h k hk
  generalize S.room bad k = rm at *
  have hrm : ¬ (rm : Int) = 0 := by omega
  have HR := Lib.hid hR
  have hO := Off_N h
  rw [ho] at hO
  have HO := Lib.hid hO
  have HSh := Lib.hid (Shape_N h)
  have HLy := Lib.hid (Lay_med h A c d hd h256 hc)
  have HNx : Hid (∀ w1, MedIs w1 B M Q F L P S n bad md → Calls Tryz.prog 23 #[.pointer (some ⟨F, 0, none⟩), .int .i64 k] w1 fun e w' => e = .returned (.int .i64 (S.b k).next) ∧ w1 = w') := fun w1 h1 => by
    have := Next_in h1.fl k hk
    rw [hh, if_neg (by simp)] at this
    exact this
  have HPr : Hid (∀ w1 rb rc, MedIs w1 B M Q F L P S n bad md → 73 * S.chunks ≤ rc → w1.ownsRow w.heap.size 5 1 (.slice (some ⟨rb, 0, none⟩) (73 * S.chunks) rc) (73 * S.chunks) (intsV .u8 (laid d S.chunks)) → Calls Tryz.prog 135 #[.pointer (some ⟨F, 0, none⟩), .int .i64 k, .int .i64 ((S.b k).next : Nat), .slice (some ⟨rb, 0, none⟩) (73 * S.chunks) rc] w1 fun e w' => e = .returned (.int .i64 4) ∧ MedIs w' B M Q F L P (S.torn k (laid d S.chunks)) n bad md ∧ Turns w1 w' [F, L, P k]) := fun w1 rb rc h1 hrc hown =>
    (Program_any h1.fl k hk ho hf hh hnx _ hrw rb rc hrc (own_mono hown (Nat.zero_le _))).mono fun e w' ⟨ht, _, h4⟩ => ⟨(h4 ha.1 ha.2).1, h1.flash (h4 ha.1 ha.2).2 ht (fun g hg => mem_flS.2 (by simp at hg; rcases hg with rfl | rfl | rfl; exact .inl rfl; exact .inr (.inl rfl); exact .inr (.inr ⟨k, hk, rfl⟩))) rfl rfl, ht⟩
  have HFa : Hid (∀ w1, Calls Tryz.prog 60 #[.pointer (some ⟨M, 0, none⟩), .int .i64 k, .int .i64 4] w1 fun e w' => e = .returned (.int .i64 4) ∧ w1 = w') := fun w1 => fail_no M k 4 (by decide) w1
  have HPost : Hid (∀ w1 w2, Below w.heap.size w w1 → Turns w1 w2 [F, L, P k] → Turns w w2 (medT M Q F L P S.nb)) := fun w1 w2 hb ht => (Turns.of_below hb _).trans ht (fun g hg => .inl (mem_medT.2 (by simp at hg; rcases hg with rfl | rfl | rfl; exact .inr (.inr (.inl rfl)); exact .inr (.inr (.inr (.inl rfl))); exact .inr (.inr (.inr (.inr ⟨k, hk, rfl⟩))))))
  have hno := nil_off F
  have hmo := met_off F
  have hns := nil_shape F
  have hms := met_shape F
  have hnn := nil_next F
  have hmn := met_next F
  have hnp := nil_program F
  have hmp := met_program F
  have HA := Lib.hid ha
  obtain ⟨nx, hnX⟩ : ∃ nx, nx = (S.b k).next := ⟨_, rfl⟩
  have HNX := Lib.hid hnX
  rw [← hnX] at HNx HPr
  clear h ht hk hb hr hR hO ho hh hnx hf hd h256 hc hrw hch ha hA hnX
  obtain ⟨r, hRr⟩ : ∃ r, r = laid d S.chunks := ⟨_, rfl⟩
  have HRr := Lib.hid hRr
  rw [← hRr] at HLy HPr
  clear hRr
  obtain ⟨ch, hcH⟩ : ∃ ch, ch = S.chunks := ⟨_, rfl⟩
  have HCH := Lib.hid hcH
  rw [← hcH] at HSh HLy HPr
  clear hcH
  go_enter Tryz.func63, Tryz.ntmps63
  go_wp2_with fail
  refine HT.out.mono ?_
  rintro e w1 ⟨rfl, m', rfl⟩
  clear HT
  go_wp2_with fail
  refine (HR.out _).mono ?_
  rintro e w1 ⟨rfl, m2, rfl⟩
  clear HR
  go_wp2_with fail
  refine (HO.out _).mono ?_
  rintro e w1 ⟨rfl, rfl⟩
  clear HO hno hmo
  go_wp2_with fail
  refine (HSh.out _).mono ?_
  rintro e w1 ⟨rfl, m3, rfl⟩
  clear HSh hns hms hl
  go_wp2_with fail
  refine (HLy.out _).mono ?_
  rintro e w1 ⟨rb, rc, rfl, hrc, how, hm1, hbl⟩
  have HRC := Lib.hid hrc
  have HOw := Lib.hid how
  have HM1 := Lib.hid hm1
  have HBl := Lib.hid hbl
  have c1 := hm1.cells.1
  clear HLy hm1 hbl c0 c2 c3 hrc how
  go_wp2_with fail
  refine (HNx.out w1 HM1.out).mono ?_
  rintro e w2 ⟨rfl, rfl⟩
  clear HNx hnn hmn
  go_wp2_with fail
  refine (HPr.out w1 rb rc HM1.out HRC.out HOw.out).mono ?_
  rintro e w2 ⟨rfl, hm2, ht2⟩
  have HM2 := Lib.hid hm2
  have HT2 := Lib.hid (HPost.out w1 w2 HBl.out ht2)
  clear HPr hnp hmp hm2 ht2
  go_wp2_with fail
  refine (HFa.out _).mono ?_
  rintro e w3 ⟨rfl, rfl⟩
  clear HFa
  go_wp2
  refine bodyPost_ret (v := .tuple #[.int .i64 0, .int .i64 4]) (by simp [results, Tryz.results63, go_sem]) rfl ⟨HT2.out, fun h => absurd h (by have := HA.out; omega), fun _ _ => ⟨rfl, by rw [← HRr.out]; exact HM2.out⟩⟩
set_option maxRecDepth 100000 in
set_option maxHeartbeats 2000000 in
theorem MWrite_done (h : MedIs w B M Q F L P S n bad md) (k : Nat) (hk : k < S.nb) (A : Option Addr) (c : Nat) (d : List Nat) (hd : d.length = n) (h256 : ∀ u ∈ d, u < 256) (hc : Cells8 w A d) (hA : ∀ a, A = some a → a.block ∉ medT M Q F L P S.nb) (hr : S.room bad k ≠ 0) (ho : S.off = false) (hf : (S.b k).failed = false) (ha : S.armed = 0 ∨ S.chunks < S.armed) :
    Calls Tryz.prog 63 #[.pointer (some ⟨M, 0, none⟩), .int .i64 k, .slice A n c] w (MWritePost w B M Q F L P S n bad md k (laid d S.chunks)) := by
  have hrw := laid_raw (d := d) (c := S.chunks) (by have := h.bytes; omega) h256
  have hch := h.fl.ok.chunks
  have ht := there_N h k 0
  rw [decide_eq_true (by omega)] at ht
  have HT := Lib.hid ht
  obtain ⟨c0, c2, c3, _⟩ := h.cells
  have hl := h.lookN hk
  obtain ⟨hb, hh, hnx⟩ := room_parts hr
  rw [hb] at hl
  have hR := Room_N h k hk
  generalize S.room bad k = rm at *
  have hrm : ¬ (rm : Int) = 0 := by omega
  have HR := Lib.hid hR
  have hO := Off_N h
  rw [ho] at hO
  have HO := Lib.hid hO
  have HSh := Lib.hid (Shape_N h)
  have HLy := Lib.hid (Lay_med h A c d hd h256 hc)
  have HNx : Hid (∀ w1, MedIs w1 B M Q F L P S n bad md → Calls Tryz.prog 23 #[.pointer (some ⟨F, 0, none⟩), .int .i64 k] w1 fun e w' => e = .returned (.int .i64 (S.b k).next) ∧ w1 = w') := fun w1 h1 => by
    have := Next_in h1.fl k hk
    rw [hh, if_neg (by simp)] at this
    exact this
  have HPr : Hid (∀ w1 rb rc, MedIs w1 B M Q F L P S n bad md → 73 * S.chunks ≤ rc → w1.ownsRow w.heap.size 5 1 (.slice (some ⟨rb, 0, none⟩) (73 * S.chunks) rc) (73 * S.chunks) (intsV .u8 (laid d S.chunks)) → Calls Tryz.prog 135 #[.pointer (some ⟨F, 0, none⟩), .int .i64 k, .int .i64 ((S.b k).next : Nat), .slice (some ⟨rb, 0, none⟩) (73 * S.chunks) rc] w1 fun e w' => e = .returned (.int .i64 0) ∧ MedIs w' B M Q F L P (S.wrote k (laid d S.chunks)) n bad md ∧ Turns w1 w' [F, L, P k]) := fun w1 rb rc h1 hrc hown =>
    (Program_any h1.fl k hk ho hf hh hnx _ hrw rb rc hrc (own_mono hown (Nat.zero_le _))).mono fun e w' ⟨ht, h4, _⟩ => ⟨(h4 ha).1, h1.flash (h4 ha).2 ht (fun g hg => mem_flS.2 (by simp at hg; rcases hg with rfl | rfl | rfl; exact .inl rfl; exact .inr (.inl rfl); exact .inr (.inr ⟨k, hk, rfl⟩))) rfl rfl, ht⟩
  have HRd : Hid (∀ w1 w2, Below w.heap.size w w1 → Turns w1 w2 [F, L, P k] → MedIs w2 B M Q F L P (S.wrote k (laid d S.chunks)) n bad md → Calls Tryz.prog 64 #[.pointer (some ⟨M, 0, none⟩), .int .i64 k, .int .i64 (S.b k).next] w2 fun e w' => ∃ B2 q, e = .returned (.tuple #[.slice B2 n q, .int .i64 0]) ∧ MedIs w' B M Q F L P (S.wrote k (laid d S.chunks)) n bad (IntKind.i64.wrap (md + (0 : Nat))) ∧ Turns w w' (medT M Q F L P S.nb) ∧ Hid (Calls Tryz.prog 76 #[.slice B2 n q, .slice A n c] w' fun e w'' => e = .returned (.bool true) ∧ w' = w'')) := fun w1 w2 hbl ht h2 => by
    have hb := wrote_b S k (laid d S.chunks) hch.1 hrw.1
    have hrr := wrote_raw S k (laid d S.chunks) hch.1 hrw.1
    have hdl : d.length ≤ 64 * S.chunks := by have := h.bytes; omega
    refine (MRead_core h2 k hk (S.b k).next (by rw [wrote_has S k _ hch.1 hrw.1]; exact hnx) rfl (by rw [hb]; exact hh)).mono fun e w' ⟨h3, ht3, _, _, h4⟩ => ?_
    rw [hrr] at h3 h4
    change MedIs w' B M Q F L P (S.wrote k (laid d S.chunks)) n bad (IntKind.i64.wrap (md + (cntOf (laid d S.chunks) S.chunks : Nat))) at h3
    obtain ⟨B2, q, he, hown⟩ := h4 (laid_how hch.1 hdl)
    rw [laid_cnt hdl] at h3
    have e1 : (rBytes (laid d S.chunks) (S.wrote k (laid d S.chunks)).chunks).take n = d := by rw [← hd]; exact laid_read hdl h256
    rw [e1] at hown
    have ht4 : Turns w w' (medT M Q F L P S.nb) := ((Turns.of_below hbl _).trans ht (fun g hg => .inl (mem_medT.2 (by simp at hg; rcases hg with rfl | rfl | rfl; exact .inr (.inr (.inl rfl)); exact .inr (.inr (.inr (.inl rfl))); exact .inr (.inr (.inr (.inr ⟨k, hk, rfl⟩))))))).trans ht3 (fun g hg => .inl (mem_medT.2 (by simp at hg; rcases hg with rfl | rfl; exact .inl rfl; exact .inr (.inr (.inl rfl)))))
    refine ⟨B2, q, he, h3, ht4, Equal_same B2 A n q c d hd w' ?_ (hc.turns ht4 hA)⟩
    exact (Cells8.of_own hown).2
  have hno := nil_off F
  have hmo := met_off F
  have hns := nil_shape F
  have hms := met_shape F
  have hnn := nil_next F
  have hmn := met_next F
  have hnp := nil_program F
  have hmp := met_program F
  have HA := Lib.hid ha
  obtain ⟨nx, hnX⟩ : ∃ nx, nx = (S.b k).next := ⟨_, rfl⟩
  have HNX := Lib.hid hnX
  rw [← hnX] at HNx HPr
  rw [← hnX] at HRd
  clear h ht hk hb hr hR hO ho hh hnx hf hd h256 hc hrw hch ha hA hnX
  obtain ⟨r, hRr⟩ : ∃ r, r = laid d S.chunks := ⟨_, rfl⟩
  have HRr := Lib.hid hRr
  rw [← hRr] at HLy HPr HRd
  clear hRr
  obtain ⟨ch, hcH⟩ : ∃ ch, ch = S.chunks := ⟨_, rfl⟩
  have HCH := Lib.hid hcH
  rw [← hcH] at HSh HLy HPr
  clear hcH
  go_enter Tryz.func63, Tryz.ntmps63
  go_wp2_with fail
  refine HT.out.mono ?_
  rintro e w1 ⟨rfl, m', rfl⟩
  clear HT
  go_wp2_with fail
  refine (HR.out _).mono ?_
  rintro e w1 ⟨rfl, m2, rfl⟩
  clear HR
  go_wp2_with fail
  refine (HO.out _).mono ?_
  rintro e w1 ⟨rfl, rfl⟩
  clear HO hno hmo
  go_wp2_with fail
  refine (HSh.out _).mono ?_
  rintro e w1 ⟨rfl, m3, rfl⟩
  clear HSh hns hms hl
  go_wp2_with fail
  refine (HLy.out _).mono ?_
  rintro e w1 ⟨rb, rc, rfl, hrc, how, hm1, hbl⟩
  have HRC := Lib.hid hrc
  have HOw := Lib.hid how
  have HM1 := Lib.hid hm1
  have HBl := Lib.hid hbl
  have c1 := hm1.cells.1
  clear HLy hm1 hbl c0 c2 c3 hrc how
  go_wp2_with fail
  refine (HNx.out w1 HM1.out).mono ?_
  rintro e w2 ⟨rfl, rfl⟩
  clear HNx hnn hmn
  go_wp2_with fail
  refine (HPr.out w1 rb rc HM1.out HRC.out HOw.out).mono ?_
  rintro e w2 ⟨rfl, hm2, ht2⟩
  have HR2 := Lib.hid (HRd.out w1 w2 HBl.out ht2 hm2)
  clear HPr hnp hmp hm2 ht2 HRd
  go_wp2_with fail
  refine HR2.out.mono ?_
  rintro e w3 ⟨B2, q, rfl, hm3, ht3, hEq⟩
  have HM3 := Lib.hid hm3
  have HT3 := Lib.hid ht3
  clear HR2 hm3 ht3
  go_wp2_with fail
  refine hEq.out.mono ?_
  rintro e w4 ⟨rfl, rfl⟩
  clear hEq
  go_wp2
  refine bodyPost_ret (v := .tuple #[.int .i64 nx, .int .i64 0]) (by simp [results, Tryz.results63, go_sem]) rfl ⟨HT3.out, fun _ => ⟨by rw [HNX.out], by rw [← HRr.out]; exact HM3.out⟩, fun h1 h2 => absurd h1 (by have := HA.out; omega)⟩
end
end Go.Proofs.YthjomnaejhehoaaGreatDoor

namespace Go.Proofs.YthjomnaejhehoaaGreatDoor
open Go.RowKit
set_option linter.unusedVariables false
set_option linter.unusedSimpArgs false

/-- A flash behind a block that was erased. -/
def Fl.erased (S : Fl) (k : Nat) (one : Bool) : Fl := { S.setB k { S.b k with pg := fun _ => none, next := 0, half := false, one := one } with armed := S.armed - 2 }
section
variable {w : World} {B M Q F L n : Nat} {P : Nat → Nat} {S : Fl} {bad : Nat → Bool} {md : Int}
theorem MErase_out (h : MedIs w B M Q F L P S n bad md) (k : Int) (hk : k < 0 ∨ S.nb ≤ k) (one : Bool) : Calls Tryz.prog 41 #[.pointer (some ⟨M, 0, none⟩), .int .i64 k, .bool one] w fun e w' => e = .returned (.int .i64 1) ∧ ∃ m', w' = w.drewN m' := by
  have ht := there_N h k 0
  rw [decide_eq_false (by omega)] at ht
  have HT := Lib.hid ht
  clear h ht hk
  go_enter Tryz.func41, Tryz.ntmps41
  go_wp2_with fail
  refine HT.out.mono ?_
  rintro e w1 ⟨rfl, m, rfl⟩
  clear HT
  go_wp2
  go_ret
  exact ⟨rfl, m, rfl⟩
theorem MErase_bad (h : MedIs w B M Q F L P S n bad md) (k : Nat) (hk : k < S.nb) (one : Bool) (hb : bad k = true) : Calls Tryz.prog 41 #[.pointer (some ⟨M, 0, none⟩), .int .i64 k, .bool one] w fun e w' => e = .returned (.int .i64 7) ∧ ∃ m', w' = w.drewN m' := by
  have ht := there_N h k 0
  rw [decide_eq_true (by omega)] at ht
  have HT := Lib.hid ht
  obtain ⟨c0, c2, c3, _⟩ := h.cells
  have hl := h.lookN hk
  rw [hb] at hl
  clear h ht hk hb
  go_enter Tryz.func41, Tryz.ntmps41
  go_wp2_with fail
  refine HT.out.mono ?_
  rintro e w1 ⟨rfl, m', rfl⟩
  clear HT
  go_wp2
  go_ret
  exact ⟨rfl, m', rfl⟩
theorem MErase_off (h : MedIs w B M Q F L P S n bad md) (k : Nat) (hk : k < S.nb) (one : Bool) (hb : bad k = false) (ho : S.off = true) : Calls Tryz.prog 41 #[.pointer (some ⟨M, 0, none⟩), .int .i64 k, .bool one] w fun e w' => e = .returned (.int .i64 4) ∧ ∃ m', w' = w.drewN m' := by
  have ht := there_N h k 0
  rw [decide_eq_true (by omega)] at ht
  have HT := Lib.hid ht
  obtain ⟨c0, c2, c3, _⟩ := h.cells
  have hl := h.lookN hk
  rw [hb] at hl
  have hO := Off_N h
  rw [ho] at hO
  have HO := Lib.hid hO
  have hno := nil_off F
  have hmo := met_off F
  clear h ht hk hb hO ho
  go_enter Tryz.func41, Tryz.ntmps41
  go_wp2_with fail
  refine HT.out.mono ?_
  rintro e w1 ⟨rfl, m', rfl⟩
  clear HT
  go_wp2_with fail
  refine (HO.out _).mono ?_
  rintro e w1 ⟨rfl, rfl⟩
  clear HO hno hmo hl
  go_wp2
  go_ret
  exact ⟨rfl, m', rfl⟩
theorem MErase_failed (h : MedIs w B M Q F L P S n bad md) (k : Nat) (hk : k < S.nb) (one : Bool) (hb : bad k = false) (ho : S.off = false) (hf : (S.b k).failed = true) : Calls Tryz.prog 41 #[.pointer (some ⟨M, 0, none⟩), .int .i64 k, .bool one] w fun e w' => e = .returned (.int .i64 7) ∧ MedIs w' B M Q F L P S n (setBad bad k) md ∧ Turns w w' [Q] := by
  have ht := there_N h k 0
  rw [decide_eq_true (by omega)] at ht
  have HT := Lib.hid ht
  obtain ⟨c0, c2, c3, _⟩ := h.cells
  have hl := h.lookN hk
  rw [hb] at hl
  have hO := Off_N h
  rw [ho] at hO
  have HO := Lib.hid hO
  have hno := nil_off F
  have hmo := met_off F
  have HE : Hid (∀ m, Calls Tryz.prog 132 #[.pointer (some ⟨F, 0, none⟩), .int .i64 k] (w.drewN m) fun e w' => e = .returned (.int .i64 7) ∧ w.drewN m = w') := fun m => Erase_failed (h.drewN m).fl k hk ho hf
  have HFa : Hid (∀ m, Calls Tryz.prog 60 #[.pointer (some ⟨M, 0, none⟩), .int .i64 k, .int .i64 7] (w.drewN m) fun e w' => e = .returned (.int .i64 7) ∧ MedIs w' B M Q F L P S n (setBad bad k) md ∧ Turns w w' [Q]) := fun m =>
    (fail_yes (h.drewN m) k hk).mono fun e w' ⟨he, hm, ht⟩ => ⟨he, hm, ((Turns.refl w [Q]).drewN m).trans ht (fun g hg => .inl hg)⟩
  have hne := nil_erase F
  have hme := met_erase F
  clear h ht hk hb hO ho hf
  go_enter Tryz.func41, Tryz.ntmps41
  go_wp2_with fail
  refine HT.out.mono ?_
  rintro e w1 ⟨rfl, m', rfl⟩
  clear HT
  go_wp2_with fail
  refine (HO.out _).mono ?_
  rintro e w1 ⟨rfl, rfl⟩
  clear HO hno hmo hl
  go_wp2_with fail
  refine (HE.out _).mono ?_
  rintro e w1 ⟨rfl, rfl⟩
  clear HE hne hme
  go_wp2_with fail
  refine (HFa.out _).mono ?_
  rintro e w1 ⟨rfl, hm1, ht1⟩
  have HM := Lib.hid hm1
  have HT1 := Lib.hid ht1
  clear HFa hm1 ht1 c0 c2 c3
  go_wp2
  go_ret
  exact ⟨rfl, HM.out, HT1.out⟩
/-- A flash in whose erasing the power went, at its first or its second step. -/
def Fl.cutE (S : Fl) (k : Nat) : Fl := if S.armed = 1 then { S with off := true, armed := 0 } else { S.halfE k with off := true, armed := 0 }
theorem mem3 {g k : Nat} (hk : k < S.nb) (hg : g ∈ [F, L, P k]) : g ∈ flS F L P S.nb := mem_flS.2 (by
  simp at hg
  rcases hg with rfl | rfl | rfl
  · exact .inl rfl
  · exact .inr (.inl rfl)
  · exact .inr (.inr ⟨k, hk, rfl⟩))
theorem fl_med {g : Nat} (hg : g ∈ flS F L P S.nb) : g ∈ medT M Q F L P S.nb := by unfold medT; simp [hg]
set_option maxHeartbeats 1000000 in
theorem MErase_cut (h : MedIs w B M Q F L P S n bad md) (k : Nat) (hk : k < S.nb) (one : Bool) (hb : bad k = false) (ho : S.off = false) (hf : (S.b k).failed = false) (ha : S.armed = 1 ∨ S.armed = 2) : Calls Tryz.prog 41 #[.pointer (some ⟨M, 0, none⟩), .int .i64 k, .bool one] w fun e w' => e = .returned (.int .i64 4) ∧ MedIs w' B M Q F L P (S.cutE k) n bad md ∧ Turns w w' (medT M Q F L P S.nb) := by
  have ht := there_N h k 0
  rw [decide_eq_true (by omega)] at ht
  have HT := Lib.hid ht
  obtain ⟨c0, c2, c3, _⟩ := h.cells
  have hl := h.lookN hk
  rw [hb] at hl
  have hO := Off_N h
  rw [ho] at hO
  have HO := Lib.hid hO
  have hno := nil_off F
  have hmo := met_off F
  have HE : Hid (∀ m, Calls Tryz.prog 132 #[.pointer (some ⟨F, 0, none⟩), .int .i64 k] (w.drewN m) fun e w' => e = .returned (.int .i64 4) ∧ MedIs w' B M Q F L P (S.cutE k) n bad md ∧ Turns w w' (medT M Q F L P S.nb)) := fun m => by
    refine (Erase_any (h.drewN m).fl k hk ho hf).mono fun e w' ⟨ht, h1, h2, _⟩ => ?_
    have htw : Turns w w' (medT M Q F L P S.nb) := ((Turns.refl w _).drewN m).trans ht (fun g hg => .inl (fl_med (mem3 hk hg)))
    unfold Fl.cutE
    rcases ha with ha | ha
    · rw [if_pos ha]
      exact ⟨(h1 ha).1, (h.drewN m).flash (h1 ha).2 ht (fun g hg => mem3 hk hg) rfl rfl, htw⟩
    · rw [if_neg (by omega)]
      exact ⟨(h2 ha).1, (h.drewN m).flash (h2 ha).2 ht (fun g hg => mem3 hk hg) rfl rfl, htw⟩
  have HFa : Hid (∀ w1, Calls Tryz.prog 60 #[.pointer (some ⟨M, 0, none⟩), .int .i64 k, .int .i64 4] w1 fun e w' => e = .returned (.int .i64 4) ∧ w1 = w') := fun w1 => fail_no M k 4 (by decide) w1
  have hne := nil_erase F
  have hme := met_erase F
  clear h ht hk hb hO ho hf ha
  go_enter Tryz.func41, Tryz.ntmps41
  go_wp2_with fail
  refine HT.out.mono ?_
  rintro e w1 ⟨rfl, m', rfl⟩
  clear HT
  go_wp2_with fail
  refine (HO.out _).mono ?_
  rintro e w1 ⟨rfl, rfl⟩
  clear HO hno hmo hl
  go_wp2_with fail
  refine (HE.out _).mono ?_
  rintro e w1 ⟨rfl, hm1, ht1⟩
  have HM := Lib.hid hm1
  have HT1 := Lib.hid ht1
  clear HE hne hme hm1 ht1 c0 c2 c3
  go_wp2_with fail
  refine (HFa.out _).mono ?_
  rintro e w1 ⟨rfl, rfl⟩
  clear HFa
  go_wp2
  go_ret
  exact ⟨rfl, HM.out, HT1.out⟩
set_option maxHeartbeats 1000000 in
theorem MErase_done (h : MedIs w B M Q F L P S n bad md) (k : Nat) (hk : k < S.nb) (one : Bool) (hb : bad k = false) (ho : S.off = false) (hf : (S.b k).failed = false) (ha : S.armed ≠ 1 ∧ S.armed ≠ 2) : Calls Tryz.prog 41 #[.pointer (some ⟨M, 0, none⟩), .int .i64 k, .bool one] w fun e w' => e = .returned (.int .i64 0) ∧ MedIs w' B M Q F L P (S.erased k one) n bad md ∧ Turns w w' (medT M Q F L P S.nb) := by
  have ht := there_N h k 0
  rw [decide_eq_true (by omega)] at ht
  have HT := Lib.hid ht
  obtain ⟨c0, c2, c3, _⟩ := h.cells
  have hl := h.lookN hk
  rw [hb] at hl
  have hO := Off_N h
  rw [ho] at hO
  have HO := Lib.hid hO
  have hno := nil_off F
  have hmo := met_off F
  have HE : Hid (∀ m, Calls Tryz.prog 132 #[.pointer (some ⟨F, 0, none⟩), .int .i64 k] (w.drewN m) fun e w' => e = .returned (.int .i64 0) ∧ Turns w w' (medT M Q F L P S.nb) ∧ w'.cell? ⟨M, 0, none⟩ = some (.iface 31 (.pointer (some ⟨F, 0, none⟩))) ∧
      Hid (Calls Tryz.prog 133 #[.pointer (some ⟨F, 0, none⟩), .int .i64 k, .bool one] w' fun e w'' => e = .returned (.int .i64 0) ∧ MedIs w'' B M Q F L P (S.erased k one) n bad md ∧ Turns w w'' (medT M Q F L P S.nb))) := fun m => by
    refine (Erase_any (h.drewN m).fl k hk ho hf).mono fun e w' ⟨ht, _, _, h3⟩ => ?_
    have htw : Turns w w' (medT M Q F L P S.nb) := ((Turns.refl w _).drewN m).trans ht (fun g hg => .inl (fl_med (mem3 hk hg)))
    obtain ⟨he, hfl⟩ := h3 ha.1 ha.2
    have hm := (h.drewN m).flash hfl ht (fun g hg => mem3 hk hg) rfl rfl
    have hb1 : ({ S.wholeE k with armed := S.armed - 2 } : Fl).b k = { S.b k with pg := fun _ => none, next := 0, half := false } := Fl.setB_self S k _
    refine ⟨he, htw, hm.cells.1, (Mode_fl hfl k hk one ho (by rw [hb1]; exact hf) (by rw [hb1]) (by rw [hb1])).mono fun e2 w2 ⟨he2, hfl2, ht2⟩ => ⟨he2, ?_, htw.trans ht2 (fun g hg => .inl (fl_med (mem_flS.2 (by simp at hg; exact .inr (.inl hg)))))⟩⟩
    have hm2 := hm.flash hfl2 ht2 (fun g hg => mem_flS.2 (by simp at hg; exact .inr (.inl hg))) rfl rfl
    have e3 : ({ S.wholeE k with armed := S.armed - 2 } : Fl).setB k { ({ S.wholeE k with armed := S.armed - 2 } : Fl).b k with one := one } = S.erased k one := by
      rw [hb1]
      unfold Fl.erased Fl.wholeE
      exact congrArg (fun T : Fl => ({ T with armed := S.armed - 2 } : Fl)) (Fl.setB_setB S k _ _)
    rw [e3] at hm2
    exact hm2
  have HFa : Hid (∀ w1, Calls Tryz.prog 60 #[.pointer (some ⟨M, 0, none⟩), .int .i64 k, .int .i64 0] w1 fun e w' => e = .returned (.int .i64 0) ∧ w1 = w') := fun w1 => fail_no M k 0 (by decide) w1
  have hne := nil_erase F
  have hme := met_erase F
  have hnm := nil_mode F
  have hmm := met_mode F
  clear h ht hk hb hO ho hf ha
  go_enter Tryz.func41, Tryz.ntmps41
  go_wp2_with fail
  refine HT.out.mono ?_
  rintro e w1 ⟨rfl, m', rfl⟩
  clear HT
  go_wp2_with fail
  refine (HO.out _).mono ?_
  rintro e w1 ⟨rfl, rfl⟩
  clear HO hno hmo hl
  go_wp2_with fail
  refine (HE.out _).mono ?_
  rintro e w1 ⟨rfl, ht1, c1, HMo⟩
  clear HE hne hme ht1 c0 c2 c3
  go_wp2_with fail
  refine HMo.out.mono ?_
  rintro e w2 ⟨rfl, hm2, ht2⟩
  have HM := Lib.hid hm2
  have HT1 := Lib.hid ht2
  clear HMo hnm hmm hm2 ht2 c1
  go_wp2_with fail
  refine (HFa.out _).mono ?_
  rintro e w1 ⟨rfl, rfl⟩
  clear HFa
  go_wp2
  go_ret
  exact ⟨rfl, HM.out, HT1.out⟩
end
end Go.Proofs.YthjomnaejhehoaaGreatDoor

namespace Go.Proofs.YthjomnaejhehoaaGreatDoor
open Go.RowKit
set_option linter.unusedVariables false
set_option linter.unusedSimpArgs false

/-- What stands at a: these ints. -/
def CellsI (w : World) (a : Option Addr) (l : List Int) : Prop := ∀ i (h : i < l.length), ∃ b off, a = some ⟨b, off, none⟩ ∧ w.cell? ⟨b, off + i, none⟩ = some (.int .i64 (l.getD i 0))
theorem CellsI.addr {w : World} {a : Option Addr} {l : List Int} (h : CellsI w a l) (hl : l ≠ []) : ∃ b off, a = some ⟨b, off, none⟩ := by
  cases l with
  | nil => exact absurd rfl hl
  | cons x l => obtain ⟨b, off, e, _⟩ := h 0 (by simp); exact ⟨b, off, e⟩
theorem CellsI.at0 {w : World} {b off : Nat} {l : List Int} (h : CellsI w (some ⟨b, off, none⟩) l) (i : Nat) (hi : i < l.length) : w.cell? ⟨b, off + i, none⟩ = some (.int .i64 (l.getD i 0)) := by
  obtain ⟨b', off', e, hc⟩ := h i hi
  injection e with e
  injection e with e1 e2
  subst e1; subst e2; exact hc
theorem CellsI.keep {w w' : World} {a : Option Addr} {l : List Int} (h : CellsI w a l) (hk : ∀ p v, w.cell? p = some v → w'.cell? p = some v) : CellsI w' a l := fun i hi => by
  obtain ⟨b, off, e, hc⟩ := h i hi
  exact ⟨b, off, e, hk _ _ hc⟩
/-- No block of so many. -/
def outI (nb : Nat) (x : Int) : Bool := decide (x < 0 ∨ (nb : Int) ≤ x)
theorem New1_any (nb : Nat) (x : Int) (g : Nat) (w : World) (hg : w.cell? ⟨g, 0, none⟩ = some (.int .i64 nb)) : Calls Tryz.prog 39 #[.int .i64 x, .pointer (some ⟨g, 0, none⟩)] w fun e w' => e = .returned (.bool (outI nb x)) ∧ w = w' := by
  have key : x < 0 ∨ (¬ x < 0 ∧ x ≥ (nb : Int)) ∨ (¬ x < 0 ∧ ¬ x ≥ (nb : Int)) := by omega
  have e1 : x < 0 → outI nb x = true := fun h => decide_eq_true (.inl h)
  have e2 : x ≥ (nb : Int) → outI nb x = true := fun h => decide_eq_true (.inr h)
  have e3 : ¬ x < 0 → ¬ x ≥ (nb : Int) → outI nb x = false := fun h h' => decide_eq_false (by omega)
  rcases key with h | ⟨h, h'⟩ | ⟨h, h'⟩
  · rw [e1 h]
    clear e1 e2 e3
    go_enter Tryz.func39, Tryz.ntmps39
    go_wp2
    go_ret
    exact ⟨rfl, rfl⟩
  · rw [e2 h']
    clear e1 e2 e3
    go_enter Tryz.func39, Tryz.ntmps39
    go_wp2
    go_ret
    exact ⟨by simp, rfl⟩
  · rw [e3 h h']
    clear e1 e2 e3
    go_enter Tryz.func39, Tryz.ntmps39
    go_wp2
    go_ret
    exact ⟨by simp, rfl⟩
theorem any_takeI (f : Int → Bool) (l : List Int) (k : Nat) (h : k < l.length) : (l.take (k + 1)).any f = ((l.take k).any f || f (l.getD k 0)) := by
  have e : l.take (k + 1) = l.take k ++ [l.getD k 0] := by
    rw [List.take_add_one, List.getElem?_eq_getElem h, List.getD_eq_getElem?_getD, List.getElem?_eq_getElem h]; rfl
  rw [e]; simp
theorem getI_mem (l : List Int) (k : Nat) (h : k < l.length) : l.getD k 0 ∈ l := by
  rw [List.getD_eq_getElem?_getD, List.getElem?_eq_getElem h]; exact List.getElem_mem h
set_option maxHeartbeats 400000 in
theorem IndexI_any (nb g : Nat) (a : Option Addr) (l : List Int) (c : Nat) (hl : l.length ≤ 1000) (w : World) (hc : CellsI w a l) (hg : w.cell? ⟨g, 0, none⟩ = some (.int .i64 nb)) :
    Calls Tryz.prog 56 #[.slice a l.length c, .func (.func 39) #[] #[.pointer (some ⟨g, 0, none⟩)]] w fun e w' => (∃ i : Int, e = .returned (.int .i64 i) ∧ decide (0 ≤ i) = l.any (outI nb)) ∧ w = w' := by
  have HC := Lib.hid hc
  have HG := Lib.hid hg
  clear hc hg
  go_enter Tryz.func56, Tryz.ntmps56
  go_wp2
  go_loop [8] (fun i => ∃ k : Nat, k ≤ l.length ∧ i = .int .i64 k ∧ (l.take k).any (outI nb) = false) (fun i => l.length - (intOf i).toNat)
  case atStart => exact ⟨0, by omega, rfl, by simp⟩
  case round =>
    obtain ⟨k, hk, rfl, hb⟩ := hrel
    by_cases hkl : k < l.length
    · obtain ⟨b, off, rfl⟩ := HC.out.addr (by intro e; simp [e] at hkl)
      have hcc := HC.out.at0 k hkl
      have HT := Lib.hid (any_takeI (outI nb) l k hkl)
      rw [hb] at HT
      have HM : Hid (outI nb (l.getD k 0) = true → l.any (outI nb) = true) := fun h => List.any_eq_true.2 ⟨_, getI_mem _ _ hkl, h⟩
      have HL1 := Lib.hid (New1_any nb (l.getD k 0) g w HG.out)
      clear HC hb
      cases hx : outI nb (l.getD k 0) with
      | true =>
        rw [hx] at HL1
        have HM2 := Lib.hid (HM.out hx)
        clear HM HT hx
        generalize l.getD k 0 = x at *
        go_wp2_with fail
        refine HL1.out.mono ?_
        rintro e w' ⟨rfl, rfl⟩
        go_wp2
        go_ret
        exact ⟨⟨k, rfl, by rw [HM2.out]; simp⟩, rfl⟩
      | false =>
        rw [hx] at HL1 HT
        clear HM hx
        generalize l.getD k 0 = x at *
        go_wp2_with fail
        refine HL1.out.mono ?_
        rintro e w' ⟨rfl, rfl⟩
        go_wp2
        go_round
        case rel => exact ⟨k + 1, by omega, by go_num, by rw [HT.out]; rfl⟩
        case measure => simp [intOf]; omega
    · obtain rfl : k = l.length := by omega
      rw [List.take_length] at hb
      have HB := Lib.hid hb
      clear hb HC
      go_wp2
      go_ret
      exact ⟨⟨-1, rfl, by rw [HB.out]; rfl⟩, rfl⟩
theorem ContainsI_any (nb g : Nat) (a : Option Addr) (l : List Int) (c : Nat) (hl : l.length ≤ 1000) (w : World) (hc : CellsI w a l) (hg : w.cell? ⟨g, 0, none⟩ = some (.int .i64 nb)) :
    Calls Tryz.prog 38 #[.slice a l.length c, .func (.func 39) #[] #[.pointer (some ⟨g, 0, none⟩)]] w fun e w' => e = .returned (.bool (l.any (outI nb))) ∧ w = w' := by
  have HI := Lib.hid (IndexI_any nb g a l c hl w hc hg)
  clear hc hg
  generalize l.any (outI nb) = β at *
  generalize l.length = n at *
  go_enter Tryz.func38, Tryz.ntmps38
  go_wp2_with fail
  refine HI.out.mono ?_
  rintro e w' ⟨⟨i, rfl, hi⟩, rfl⟩
  have HI2 := Lib.hid hi
  clear hi HI
  go_wp2
  go_ret
  exact ⟨by rw [← HI2.out]; rfl, rfl⟩
end Go.Proofs.YthjomnaejhehoaaGreatDoor
namespace Go.Proofs.YthjomnaejhehoaaGreatDoor
open Go.RowKit
set_option linter.unusedVariables false
set_option linter.unusedSimpArgs false

def inL (l : List Int) (j : Nat) : Bool := l.any (fun x => x == (j : Int))
section
variable {w w' : World} {B M Q F L n : Nat} {P : Nat → Nat} {S : Fl} {bad : Nat → Bool} {md : Int}
theorem BadIs.no_cell {nb : Nat} (h : BadIs w Q nb bad) (o : Nat) (sp : Option Nat) (v : Value) : w.cell? ⟨Q, o, sp⟩ ≠ some v := by
  obtain ⟨m, f, ⟨es, clock, hb, _⟩, _⟩ := h
  simp [World.cell?, hb]
theorem CellsI.map {l : List Int} {A : Option Addr} {nb : Nat} (h : CellsI w A l) (hb : BadIs w Q nb bad) (ht : Turns w w' [Q]) : CellsI w' A l := fun i hi => by
  obtain ⟨b, off, e, hc⟩ := h i hi
  refine ⟨b, off, e, ht.cell hc (fun hm => ?_)⟩
  have : b = Q := by simpa using hm
  subst this
  exact hb.no_cell _ _ _ hc
theorem New_small (h : FlIs w B F L P S) (n : Int) (hn : n < 1) (A : Option Addr) (m c : Nat) : Calls Tryz.prog 20 #[.pointer (some ⟨F, 0, none⟩), .int .i64 n, .slice A m c] w fun e w' => e = .returned (.tuple #[.pointer none, .int .i64 1]) ∧ Below w.heap.size w w' := by
  have HS := Lib.hid (Shape_any h)
  generalize S.nb = nb at *
  generalize S.pages = pages at *
  generalize S.chunks = ch at *
  clear h
  go_enter Tryz.func20, Tryz.ntmps20
  go_wp2_with fail
  refine HS.out.mono ?_
  rintro e w1 ⟨rfl, k0, hw1⟩
  have HB1 : Hid (Below w.heap.size w w1) := by rw [hw1]; exact below_drewN0 (Below.refl _ _) k0
  have HW1 := Lib.hid hw1
  clear HS hw1
  go_wp2
  refine bodyPost_ret (v := .tuple #[.pointer none, .int .i64 1]) (by simp [results, Tryz.results20, go_sem]) rfl ⟨rfl, ?_⟩
  exact HB1.out.alloc HB1.out.size _
theorem New_large (h : FlIs w B F L P S) (n : Int) (hn : ((64 * S.chunks : Nat) : Int) < n) (A : Option Addr) (m c : Nat) : Calls Tryz.prog 20 #[.pointer (some ⟨F, 0, none⟩), .int .i64 n, .slice A m c] w fun e w' => e = .returned (.tuple #[.pointer none, .int .i64 1]) ∧ Below w.heap.size w w' := by
  have HS := Lib.hid (Shape_any h)
  have hch := h.ok.chunks
  generalize S.nb = nb at *
  generalize S.pages = pages at *
  generalize S.chunks = ch at *
  have h1 : ¬ n < 1 := by omega
  have h2 : IntKind.i64.wrap ((ch : Int) * 64) = ((64 * ch : Nat) : Int) := by rw [IntKind.wrap_i64]; omega
  have h3 : n > ((64 * ch : Nat) : Int) := hn
  clear h hch
  go_enter Tryz.func20, Tryz.ntmps20
  go_wp2_with fail
  refine HS.out.mono ?_
  rintro e w1 ⟨rfl, k0, hw1⟩
  have HB1 : Hid (Below w.heap.size w w1) := by rw [hw1]; exact below_drewN0 (Below.refl _ _) k0
  have HW1 := Lib.hid hw1
  clear HS hw1
  go_wp2
  refine bodyPost_ret (v := .tuple #[.pointer none, .int .i64 1]) (by simp [results, Tryz.results20, go_sem]) rfl ⟨rfl, ?_⟩
  exact HB1.out.alloc HB1.out.size _
theorem alloc_at (w : World) (v : Value) (t : TypeId) : (w.alloc (.cells #[v] t)).cell? ⟨w.heap.size, 0, none⟩ = some v := (Row.fresh w t #[v]).cell 0
set_option maxRecDepth 100000 in
theorem New_out (h : FlIs w B F L P S) (n : Nat) (hn : 1 ≤ n ∧ n ≤ 64 * S.chunks) (A : Option Addr) (l : List Int) (hl : l.length ≤ 1000) (c : Nat) (hc : CellsI w A l) (hb : l.any (outI S.nb) = true) : Calls Tryz.prog 20 #[.pointer (some ⟨F, 0, none⟩), .int .i64 n, .slice A l.length c] w fun e w' => e = .returned (.tuple #[.pointer none, .int .i64 1]) ∧ Below w.heap.size w w' := by
  have HS := Lib.hid (Shape_any h)
  have hch := h.ok.chunks
  generalize S.nb = nb at *
  generalize S.pages = pages at *
  generalize S.chunks = ch at *
  have HCn : Hid (∀ w1, Below w.heap.size w w1 → Calls Tryz.prog 38 #[.slice A l.length c, .func (.func 39) #[] #[.pointer (some ⟨w1.heap.size, 0, none⟩)]] (w1.alloc (.cells #[.int .i64 nb] 3)) fun e w' => e = .returned (.bool true) ∧ w1.alloc (.cells #[.int .i64 nb] 3) = w') := fun w1 hb1 => by
    have := ContainsI_any nb w1.heap.size A l c hl (w1.alloc (.cells #[.int .i64 nb] 3)) (hc.keep (keep_below (hb1.alloc hb1.size _))) (alloc_at _ _ _)
    rw [hb] at this
    exact this
  have h1 : ¬ (n : Int) < 1 := by omega
  have h2 : IntKind.i64.wrap ((ch : Int) * 64) = ((64 * ch : Nat) : Int) := by rw [IntKind.wrap_i64]; omega
  have h3 : ¬ (n : Int) > ((64 * ch : Nat) : Int) := by omega
  generalize l.length = ln at *
  clear h hch hn hb hc
  go_enter Tryz.func20, Tryz.ntmps20
  go_wp2_with fail
  refine HS.out.mono ?_
  rintro e w1 ⟨rfl, k0, hw1⟩
  have HB1 : Hid (Below w.heap.size w w1) := by rw [hw1]; exact below_drewN0 (Below.refl _ _) k0
  have HW1 := Lib.hid hw1
  clear HS hw1
  go_wp2_with fail
  refine (HCn.out w1 HB1.out).mono ?_
  rintro e w2 ⟨rfl, rfl⟩
  clear HCn
  go_wp2
  refine bodyPost_ret (v := .tuple #[.pointer none, .int .i64 1]) (by simp [results, Tryz.results20, go_sem]) rfl ⟨rfl, ?_⟩
  exact HB1.out.alloc HB1.out.size _
theorem inL_take (l : List Int) (k : Nat) (h : k < l.length) (j : Nat) (hj : l.getD k 0 = (j : Int)) : inL (l.take (k + 1)) = setBad (inL (l.take k)) j := by
  funext i
  unfold inL
  rw [any_takeI _ l k h, hj]
  unfold setBad
  rw [Bool.or_comm]
  congr 1
  by_cases e : i = j
  · subst e; simp
  · have h1 : ¬ ((j : Int) = (i : Int)) := by omega
    rw [show (i == j) = false from by simpa using e, show ((j : Int) == (i : Int)) = false from by simpa using h1]
set_option maxRecDepth 100000 in
set_option maxHeartbeats 1000000 in
theorem New_yes (h : FlIs w B F L P S) (hB : 1 ≤ B) (hT : Tab w) (n : Nat) (hn : 1 ≤ n ∧ n ≤ 64 * S.chunks) (A : Option Addr) (l : List Int) (hl : l.length ≤ 1000) (c : Nat) (hc : CellsI w A l) (hlc : l.length ≤ c) (hb : l.any (outI S.nb) = false) : Calls Tryz.prog 20 #[.pointer (some ⟨F, 0, none⟩), .int .i64 n, .slice A l.length c] w fun e w' => ∃ M Q, e = .returned (.tuple #[.pointer (some ⟨M, 0, none⟩), .int .i64 0]) ∧ MedIs w' B M Q F L P S n (inL l) 0 ∧ Below w.heap.size w w' ∧ w.heap.size ≤ M ∧ w.heap.size ≤ Q := by
  have HS := Lib.hid (Shape_any h)
  have hch := h.ok.chunks
  have hBw : B ≤ w.heap.size := by
    obtain ⟨cs, hr⟩ := h.rowF
    have := hr.lt; have := h.hF; omega
  have HMed : Hid (∀ w2, Below w.heap.size w w2 → MedIs ((w2.alloc (.map #[] 0)).alloc (.cells (mcells F n w2.heap.size 0) 93)) B (w2.alloc (.map #[] 0)).heap.size w2.heap.size F L P S n (fun _ => false) 0) := fun w2 hb2 => by
    have ht : Turns w ((w2.alloc (.map #[] 0)).alloc (.cells (mcells F n w2.heap.size 0) 93)) [] := ((Turns.of_below hb2 []).alloc _).alloc _
    have hsz := hb2.size
    refine ⟨hB, by simp; omega, by omega, h.keep ht, Row.fresh _ _ _, ?_, hn, hT.turns ht (by simp)⟩
    refine (BadIs.fresh w2 S.nb).turns ((Turns.refl _ []).alloc _) (by simp)
  have HIn : Hid (∀ x ∈ l, ∃ j : Nat, j < S.nb ∧ x = j) := fun x hx => by
    have := List.any_eq_false.1 hb x hx
    unfold outI at this
    rw [decide_eq_true_iff] at this
    exact ⟨x.toNat, by omega, by omega⟩
  have hnb : 1 ≤ S.nb ∧ S.nb ≤ 1024 := h.ok.nb
  have hC : ∀ w1, Below w.heap.size w w1 → CellsI w1 A l := fun w1 hb1 => hc.keep (keep_below hb1)
  have HC := Lib.hid hC
  obtain ⟨nb, hnB⟩ : ∃ nb, nb = S.nb := ⟨_, rfl⟩
  obtain ⟨ch, hcH⟩ : ∃ ch, ch = S.chunks := ⟨_, rfl⟩
  have HNB := Lib.hid hnB
  rw [← hnB] at HS hb hnb HIn
  rw [← hcH] at HS hch hn
  generalize S.pages = pages at *
  have HCn : Hid (∀ w1, Below w.heap.size w w1 → Calls Tryz.prog 38 #[.slice A l.length c, .func (.func 39) #[] #[.pointer (some ⟨w1.heap.size, 0, none⟩)]] (w1.alloc (.cells #[.int .i64 nb] 3)) fun e w' => e = .returned (.bool false) ∧ w1.alloc (.cells #[.int .i64 nb] 3) = w') := fun w1 hb1 => by
    have := ContainsI_any nb w1.heap.size A l c hl (w1.alloc (.cells #[.int .i64 nb] 3)) (hC _ (hb1.alloc hb1.size _)) (alloc_at _ _ _)
    rw [hb] at this
    exact this
  have h1 : ¬ (n : Int) < 1 := by omega
  have h2 : IntKind.i64.wrap ((ch : Int) * 64) = ((64 * ch : Nat) : Int) := by rw [IntKind.wrap_i64]; omega
  have h3 : ¬ (n : Int) > ((64 * ch : Nat) : Int) := by omega
  clear h hch hn hb hc hT hB hC hnB hcH hBw
  go_enter Tryz.func20, Tryz.ntmps20
  go_wp2_with fail
  refine HS.out.mono ?_
  rintro e w1 ⟨rfl, k0, hw1⟩
  have HB1 : Hid (Below w.heap.size w w1) := by rw [hw1]; exact below_drewN0 (Below.refl _ _) k0
  have HW1 := Lib.hid hw1
  clear HS hw1
  go_wp2_with fail
  refine (HCn.out w1 HB1.out).mono ?_
  rintro e w2 ⟨rfl, hw2⟩
  have HB2 : Hid (Below w.heap.size w w2) := by rw [← hw2]; exact HB1.out.alloc HB1.out.size _
  have HM2 := Lib.hid (HMed.out w2 HB2.out)
  clear HCn hw2 HW1 HMed
  have hmm := @run_makeMap Tryz.prog
  go_wp2
  have HBv : Hid (Below w.heap.size w ((w2.alloc (.map #[] 0)).alloc (.cells #[.iface 31 (.pointer (some ⟨F, 0, none⟩)), .pointer (some ⟨F, 0, none⟩), .int .i64 n, .map (some w2.heap.size), .int .i64 0] 93))) := (HB2.out.alloc HB2.out.size _).alloc (HB2.out.alloc HB2.out.size _).size _
  have HM3 : Hid (MedIs ((w2.alloc (.map #[] 0)).alloc (.cells #[.iface 31 (.pointer (some ⟨F, 0, none⟩)), .pointer (some ⟨F, 0, none⟩), .int .i64 n, .map (some w2.heap.size), .int .i64 0] 93)) B (w2.heap.size + 1) w2.heap.size F L P S n (inL (l.take 0)) 0) := by
    have e : (w2.alloc (.map #[] 0)).heap.size = w2.heap.size + 1 := by simp
    have e2 : inL (l.take 0) = fun _ => false := by funext j; simp [inL]
    rw [← e, e2]
    exact HM2.out
  have HQ : Hid (w.heap.size ≤ w2.heap.size) := HB2.out.size
  clear HM2 HB2 hmm HB1
  generalize ((w2.alloc (.map #[] 0)).alloc (.cells #[.iface 31 (.pointer (some ⟨F, 0, none⟩)), .pointer (some ⟨F, 0, none⟩), .int .i64 n, .map (some w2.heap.size), .int .i64 0] 93)) = wv at *
  generalize w2.heap.size = Q at *
  go_loopw [42] (fun iv wr => ∃ k : Nat, iv = .int .i64 k ∧ k ≤ l.length ∧ MedIs wr B (Q + 1) Q F L P S n (inL (l.take k)) 0 ∧ Below w.heap.size w wr) (fun i _ => l.length - (intOf i).toNat)
  case atStart => exact ⟨0, rfl, by omega, HM3.out, HBv.out⟩
  case round =>
    obtain ⟨k, rfl, hk, hm, hbw⟩ := hrel
    have HMr := Lib.hid hm
    have HBr := Lib.hid hbw
    clear HM3 HBv hm hbw
    by_cases hkl : k < l.length
    · have hcw := HC.out wr HBr.out
      obtain ⟨b, off, rfl⟩ := hcw.addr (by intro e; simp [e] at hkl)
      have hcc := hcw.at0 k hkl
      obtain ⟨j, hj, hx⟩ := HIn.out _ (getI_mem l k hkl)
      have hT := inL_take l k hkl j hx
      rw [hx] at hcc
      obtain ⟨w', hr, hm', ht'⟩ := HMr.out.markBad (k := j) (by rw [← HNB.out]; exact hj)
      rw [← hT] at hm'
      have HM' := Lib.hid hm'
      have HB' : Hid (Below w.heap.size w w') := ht'.below HBr.out HBr.out.size (fun g hg => by rw [List.mem_singleton.1 hg]; exact HQ.out)
      have c3 := HMr.out.cells.2.2.1
      clear hcw hx hT hm' ht' HMr HBr hj HIn
      go_wp2
      go_roundw
      case rel => exact ⟨k + 1, by go_num, by omega, HM'.out, HB'.out⟩
      case measure => simp [intOf]; omega
    · obtain rfl : k = l.length := by omega
      go_wp2
      refine bodyPost_ret (v := .tuple #[.pointer (some ⟨Q + 1, 0, none⟩), .int .i64 0]) (by simp [results, Tryz.results20, go_sem]) rfl ⟨Q + 1, Q, rfl, ?_, HBr.out, by have := HQ.out; omega, HQ.out⟩
      have := HMr.out
      rw [List.take_length] at this
      exact this
end
end Go.Proofs.YthjomnaejhehoaaGreatDoor

namespace Go.Proofs.YthjomnaejhehoaaGreatDoor
set_option linter.unusedVariables false
set_option linter.unusedSimpArgs false

/-- Values by key. -/
abbrev Vals := Nat → Option (List Nat)
def keysOf (V : Vals) : List Nat := (List.range 32).filter fun k => (V k).isSome
def valOf (V : Vals) (k : Nat) : List Nat := (V k).getD []
def recB (V : Vals) (k : Nat) : List Nat := k :: (valOf V k).length % 256 :: (valOf V k).length / 256 % 256 :: valOf V k
def recsB (V : Vals) (ks : List Nat) : List Nat := ks.flatMap (recB V)
def leB (q i : Nat) : List Nat := (List.range i).map fun j => q / 2 ^ (8 * j) % 256
def magicB : List Nat := [83, 76, 79, 84]
def headB (q : Nat) (V : Vals) : List Nat := magicB ++ leB q 8 ++ [(keysOf V).length, 0]
def bodyB (q : Nat) (V : Vals) : List Nat := headB q V ++ recsB V (keysOf V)
def pageB (n q : Nat) (V : Vals) : List Nat := bodyB q V ++ List.replicate (n - (bodyB q V).length) 0
/-- How long all values are. -/
def lenV (V : Vals) : Nat := ((keysOf V).map fun k => (valOf V k).length).sum
structure OkV (V : Vals) : Prop where
  key : ∀ k, 32 ≤ k → V k = none
  byte : ∀ k l, V k = some l → ∀ u ∈ l, u < 256
/-- They fit into a page. -/
def FitV (n : Nat) (V : Vals) : Prop := lenV V + 16 + 4 * (keysOf V).length ≤ n

theorem mem_keysOf (V : Vals) (k : Nat) : k ∈ keysOf V ↔ k < 32 ∧ (V k).isSome = true := by simp [keysOf]
theorem keysOf_len (V : Vals) : (keysOf V).length ≤ 32 := by
  have := List.length_filter_le (fun k => (V k).isSome) (List.range 32)
  simpa [keysOf] using this
theorem keysOf_lt (V : Vals) : (keysOf V).Pairwise (· < ·) := List.pairwise_lt_range.filter _
theorem recB_length (V : Vals) (k : Nat) : (recB V k).length = 3 + (valOf V k).length := by simp [recB]; omega
theorem recsB_cons (V : Vals) (k : Nat) (ks : List Nat) : recsB V (k :: ks) = recB V k ++ recsB V ks := by simp [recsB]
theorem recsB_append (V : Vals) (a b : List Nat) : recsB V (a ++ b) = recsB V a ++ recsB V b := by simp [recsB]
theorem recsB_length (V : Vals) : ∀ ks : List Nat, (recsB V ks).length = (ks.map fun k => (valOf V k).length).sum + 3 * ks.length
  | [] => rfl
  | k :: ks => by rw [recsB_cons, List.length_append, recsB_length V ks, recB_length, List.map_cons, List.sum_cons, List.length_cons]; omega
theorem leB_length (q i : Nat) : (leB q i).length = i := by simp [leB]
theorem headB_length (q : Nat) (V : Vals) : (headB q V).length = 14 := by simp [headB, leB_length, magicB]
theorem bodyB_length (q : Nat) (V : Vals) : (bodyB q V).length = 14 + lenV V + 3 * (keysOf V).length := by
  rw [bodyB, List.length_append, headB_length, recsB_length, lenV]; omega
theorem pageB_length {n : Nat} (q : Nat) {V : Vals} (h : FitV n V) : (pageB n q V).length = n := by
  unfold FitV at h
  rw [pageB, List.length_append, List.length_replicate, bodyB_length]; omega
theorem leB_lt (q i : Nat) : ∀ u ∈ leB q i, u < 256 := fun u hu => by
  obtain ⟨j, _, rfl⟩ := List.mem_map.1 hu
  exact Nat.mod_lt _ (by decide)
theorem recsB_lt {V : Vals} (h : OkV V) : ∀ ks : List Nat, (∀ k ∈ ks, k < 256) → ∀ u ∈ recsB V ks, u < 256
  | [], _, u, hu => by simp [recsB] at hu
  | k :: ks, hk, u, hu => by
    rw [recsB_cons, List.mem_append] at hu
    rcases hu with hu | hu
    · have hk0 := hk k (by simp)
      simp only [recB, List.mem_cons] at hu
      rcases hu with rfl | rfl | rfl | hu
      · exact hk0
      · exact Nat.mod_lt _ (by decide)
      · exact Nat.mod_lt _ (by decide)
      · unfold valOf at hu
        cases hv : V k with
        | none => rw [hv] at hu; simp at hu
        | some l => rw [hv] at hu; exact h.byte k l hv u (by simpa using hu)
    · exact recsB_lt h ks (fun x hx => hk x (by simp [hx])) u hu
theorem pageB_lt {n : Nat} (q : Nat) {V : Vals} (h : OkV V) : ∀ u ∈ pageB n q V, u < 256 := fun u hu => by
  have hl := keysOf_len V
  simp only [pageB, bodyB, headB, magicB, List.mem_append, List.mem_cons, List.not_mem_nil, or_false, List.mem_replicate] at hu
  rcases hu with ((( hu | hu) | hu) | hu) | ⟨_, rfl⟩
  · omega
  · exact leB_lt q 8 u hu
  · omega
  · exact recsB_lt h _ (fun k hk => by have := ((mem_keysOf V k).1 hk).1; omega) u hu
  · decide
/-- What lies behind the head and some of the records. -/
theorem pageB_drop (n q : Nat) (V : Vals) (j : Nat) (hj : j < (keysOf V).length) :
    ∃ rest, (pageB n q V).drop (14 + (recsB V ((keysOf V).take j)).length) = recB V ((keysOf V).getD j 0) ++ rest := by
  have e1 : keysOf V = (keysOf V).take j ++ ((keysOf V).getD j 0 :: (keysOf V).drop (j + 1)) := by
    rw [List.getD_eq_getElem?_getD, List.getElem?_eq_getElem hj]
    simp
  have e2 : recsB V (keysOf V) = recsB V ((keysOf V).take j) ++ (recB V ((keysOf V).getD j 0) ++ recsB V ((keysOf V).drop (j + 1))) := by
    conv => lhs; rw [e1]
    rw [recsB_append, recsB_cons]
  refine ⟨recsB V ((keysOf V).drop (j + 1)) ++ List.replicate (n - (bodyB q V).length) 0, ?_⟩
  have e3 : pageB n q V = (headB q V ++ recsB V ((keysOf V).take j)) ++ (recB V ((keysOf V).getD j 0) ++ (recsB V ((keysOf V).drop (j + 1)) ++ List.replicate (n - (bodyB q V).length) 0)) := by
    unfold pageB
    have e0 : bodyB q V = headB q V ++ recsB V (keysOf V) := rfl
    rw [e0]
    conv => lhs; arg 1; rw [e2]
    simp only [List.append_assoc]
  rw [e3]
  have e4 : 14 + (recsB V ((keysOf V).take j)).length = (headB q V ++ recsB V ((keysOf V).take j)).length := by rw [List.length_append, headB_length]
  rw [e4, List.drop_left]
theorem recsB_take_succ (V : Vals) (j : Nat) (hj : j < (keysOf V).length) : (recsB V ((keysOf V).take (j + 1))).length = (recsB V ((keysOf V).take j)).length + (3 + (valOf V ((keysOf V).getD j 0)).length) := by
  rw [List.take_add_one, List.getElem?_eq_getElem hj, List.getD_eq_getElem?_getD, List.getElem?_eq_getElem hj, recsB_append, List.length_append]
  simp [recsB, recB_length]
theorem recsB_take_le (V : Vals) (j : Nat) : (recsB V ((keysOf V).take j)).length ≤ (recsB V (keysOf V)).length := by
  conv => rhs; rw [← List.take_append_drop j (keysOf V), recsB_append, List.length_append]
  omega
/-- The first of the keys alone. -/
def firstV (V : Vals) (j : Nat) : Vals := fun k => if k ∈ (keysOf V).take j then V k else none
theorem firstV_zero (V : Vals) : firstV V 0 = fun _ => none := by funext k; simp [firstV]
theorem firstV_all {V : Vals} (h : OkV V) {j : Nat} (hj : (keysOf V).length ≤ j) : firstV V j = V := by
  funext k
  unfold firstV
  rw [List.take_of_length_le hj]
  by_cases hk : k ∈ keysOf V
  · rw [if_pos hk]
  · rw [if_neg hk]
    rw [mem_keysOf] at hk
    by_cases h32 : k < 32
    · cases hv : V k with
      | none => rfl
      | some l => exact absurd ⟨h32, by rw [hv]; rfl⟩ hk
    · exact (h.key k (by omega)).symm
theorem keysOf_at (V : Vals) (j : Nat) (hj : j < (keysOf V).length) : (keysOf V).getD j 0 < 32 ∧ V ((keysOf V).getD j 0) = some (valOf V ((keysOf V).getD j 0)) := by
  have hm : (keysOf V).getD j 0 ∈ keysOf V := by
    rw [List.getD_eq_getElem?_getD, List.getElem?_eq_getElem hj]; exact List.getElem_mem hj
  obtain ⟨h1, h2⟩ := (mem_keysOf V _).1 hm
  refine ⟨h1, ?_⟩
  obtain ⟨l, hl⟩ := Option.isSome_iff_exists.1 h2
  rw [valOf, hl]; rfl
theorem firstV_succ (V : Vals) (j : Nat) (hj : j < (keysOf V).length) : firstV V (j + 1) = fun k => if k = (keysOf V).getD j 0 then some (valOf V ((keysOf V).getD j 0)) else firstV V j k := by
  funext k
  unfold firstV
  have e : (keysOf V).getD j 0 = (keysOf V)[j] := by rw [List.getD_eq_getElem?_getD, List.getElem?_eq_getElem hj]; rfl
  have et : (keysOf V).take (j + 1) = (keysOf V).take j ++ [(keysOf V).getD j 0] := by rw [e, List.take_succ_eq_append_getElem hj]
  rw [et]
  by_cases hk : k = (keysOf V).getD j 0
  · rw [if_pos hk, if_pos (by rw [hk]; simp), hk, (keysOf_at V j hj).2]
  · rw [if_neg hk]
    by_cases hm : k ∈ (keysOf V).take j
    · rw [if_pos hm, if_pos (by simp [hm])]
    · rw [if_neg hm, if_neg (fun h => by
        rcases List.mem_append.1 h with h | h
        · exact hm h
        · exact hk (List.mem_singleton.1 h))]
/-- Eight bytes, the least first. -/
theorem leB_succ (q i : Nat) : leB q (i + 1) = leB q i ++ [q / 2 ^ (8 * i) % 256] := by simp [leB, List.range_succ]
theorem leB_get (q i : Nat) (hi : i < 8) : (leB q 8).getD i 0 = q / 2 ^ (8 * i) % 256 := by
  rw [List.getD_eq_getElem?_getD]; simp [leB, hi]
theorem pageB_get (n q : Nat) (V : Vals) (i : Nat) (hi : i < 14) : (pageB n q V).getD i 0 = (headB q V).getD i 0 := by
  rw [List.getD_eq_getElem?_getD, List.getD_eq_getElem?_getD, pageB, bodyB, List.getElem?_append_left (by rw [List.length_append, headB_length]; omega), List.getElem?_append_left (by rw [headB_length]; omega)]
theorem headB_seq (q : Nat) (V : Vals) (i : Nat) (hi : i < 8) : (headB q V).getD (4 + i) 0 = q / 2 ^ (8 * i) % 256 := by
  rw [← leB_get q i hi, List.getD_eq_getElem?_getD, List.getD_eq_getElem?_getD, headB, List.getElem?_append_left (by simp [magicB, leB_length]; omega), List.getElem?_append_right (by simp [magicB])]
  simp [magicB]
theorem headB_count (q : Nat) (V : Vals) : (headB q V).getD 12 0 = (keysOf V).length := by
  rw [List.getD_eq_getElem?_getD, headB, List.getElem?_append_right (by simp [magicB, leB_length])]
  simp [magicB, leB_length]
theorem headB_magic (n q : Nat) (V : Vals) : (pageB n q V).take 4 = magicB := by
  simp [pageB, bodyB, headB, magicB]
end Go.Proofs.YthjomnaejhehoaaGreatDoor
