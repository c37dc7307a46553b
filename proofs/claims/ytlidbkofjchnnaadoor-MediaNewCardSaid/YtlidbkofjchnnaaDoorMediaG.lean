/- media: Write where it does not write. -/
import Derived.Test.YtlidbkofjchnnaaDoorMediaE
import Derived.Test.YtlidbkofjchnnaaDoorPlainC
namespace Go.Proofs.YtlidbkofjchnnaaDoor
open Go.RowKit
set_option linter.unusedVariables false
set_option linter.unusedSimpArgs false

section
variable {w : World} {B M Q F L n : Nat} {P : Nat → Nat} {S : Fl} {bad : Nat → Bool} {md : Int}
theorem MWrite_out (h : MedIs w B M Q F L P S n bad md) (k : Int) (hk : k < 0 ∨ S.nb ≤ k) (A : Option Addr) (m c : Nat) : Calls Tryd.prog 10 #[.pointer (some ⟨M, 0, none⟩), .int .i64 k, .slice A m c] w fun e w' => e = .returned (.tuple #[.int .i64 0, .int .i64 1]) ∧ ∃ m', w' = w.drewN m' := by
  have ht := there_N h k 0
  rw [decide_eq_false (by omega)] at ht
  have HT := Lib.hid ht
  clear h ht hk
  go_enter Tryd.func10, Tryd.ntmps10
  go_wp2_with fail
  refine HT.out.mono ?_
  rintro e w1 ⟨rfl, m, rfl⟩
  clear HT
  go_wp2
  refine bodyPost_ret (v := .tuple #[.int .i64 0, .int .i64 1]) (by simp [results, Tryd.results10, go_sem]) rfl ⟨rfl, m, rfl⟩
theorem MWrite_len (h : MedIs w B M Q F L P S n bad md) (k : Nat) (hk : k < S.nb) (A : Option Addr) (m c : Nat) (hm : m ≠ n) : Calls Tryd.prog 10 #[.pointer (some ⟨M, 0, none⟩), .int .i64 k, .slice A m c] w fun e w' => e = .returned (.tuple #[.int .i64 0, .int .i64 1]) ∧ ∃ m', w' = w.drewN m' := by
  have ht := there_N h k 0
  rw [decide_eq_true (by omega)] at ht
  have HT := Lib.hid ht
  obtain ⟨c0, c2, c3, _⟩ := h.cells
  have hne : ¬ (m : Int) = n := by omega
  clear h ht hk hm
  go_enter Tryd.func10, Tryd.ntmps10
  go_wp2_with fail
  refine HT.out.mono ?_
  rintro e w1 ⟨rfl, m', rfl⟩
  clear HT
  go_wp2
  refine bodyPost_ret (v := .tuple #[.int .i64 0, .int .i64 1]) (by simp [results, Tryd.results10, go_sem]) rfl ⟨rfl, m', rfl⟩
theorem MWrite_bad (h : MedIs w B M Q F L P S n bad md) (k : Nat) (hk : k < S.nb) (A : Option Addr) (c : Nat) (hb : bad k = true) : Calls Tryd.prog 10 #[.pointer (some ⟨M, 0, none⟩), .int .i64 k, .slice A n c] w fun e w' => e = .returned (.tuple #[.int .i64 0, .int .i64 7]) ∧ ∃ m', w' = w.drewN m' := by
  have ht := there_N h k 0
  rw [decide_eq_true (by omega)] at ht
  have HT := Lib.hid ht
  obtain ⟨c0, c2, c3, _⟩ := h.cells
  have hl := h.lookN hk
  rw [hb] at hl
  clear h ht hk hb
  go_enter Tryd.func10, Tryd.ntmps10
  go_wp2_with fail
  refine HT.out.mono ?_
  rintro e w1 ⟨rfl, m', rfl⟩
  clear HT
  go_wp2
  refine bodyPost_ret (v := .tuple #[.int .i64 0, .int .i64 7]) (by simp [results, Tryd.results10, go_sem]) rfl ⟨rfl, m', rfl⟩
theorem MWrite_full (h : MedIs w B M Q F L P S n bad md) (k : Nat) (hk : k < S.nb) (A : Option Addr) (c : Nat) (hb : bad k = false) (hr : S.room bad k = 0) : Calls Tryd.prog 10 #[.pointer (some ⟨M, 0, none⟩), .int .i64 k, .slice A n c] w fun e w' => e = .returned (.tuple #[.int .i64 0, .int .i64 3]) ∧ ∃ m', w' = w.drewN m' := by
  have ht := there_N h k 0
  rw [decide_eq_true (by omega)] at ht
  have HT := Lib.hid ht
  obtain ⟨c0, c2, c3, _⟩ := h.cells
  have hl := h.lookN hk
  rw [hb] at hl
  have hR := Room_N h k hk
  rw [hr] at hR
  have HR := Lib.hid hR
  clear h ht hk hb hr hR
  go_enter Tryd.func10, Tryd.ntmps10
  go_wp2_with fail
  refine HT.out.mono ?_
  rintro e w1 ⟨rfl, m', rfl⟩
  clear HT
  go_wp2_with fail
  refine (HR.out _).mono ?_
  rintro e w1 ⟨rfl, m2, rfl⟩
  clear HR
  go_wp2
  refine bodyPost_ret (v := .tuple #[.int .i64 0, .int .i64 3]) (by simp [results, Tryd.results10, go_sem]) rfl ⟨rfl, m2, rfl⟩
theorem MWrite_off (h : MedIs w B M Q F L P S n bad md) (k : Nat) (hk : k < S.nb) (A : Option Addr) (c : Nat) (hr : S.room bad k ≠ 0) (ho : S.off = true) : Calls Tryd.prog 10 #[.pointer (some ⟨M, 0, none⟩), .int .i64 k, .slice A n c] w fun e w' => e = .returned (.tuple #[.int .i64 0, .int .i64 4]) ∧ ∃ m', w' = w.drewN m' := by
  have ht := there_N h k 0
  rw [decide_eq_true (by omega)] at ht
  have HT := Lib.hid ht
  obtain ⟨c0, c2, c3, _⟩ := h.cells
  have hl := h.lookN hk
  have hb : bad k = false := by
    cases hb : bad k with
    | false => rfl
    | true => unfold Fl.room at hr; rw [if_pos (by simp [hb])] at hr; exact absurd rfl hr
  rw [hb] at hl
  have hR := Room_N h k hk
  generalize S.room bad k = rm at *
  have hrm : ¬ (rm : Int) = 0 := by omega
  have HR := Lib.hid hR
  have hO := Off_N h
  rw [ho] at hO
  have HO := Lib.hid hO
  have hno := nil_off F
  have hmo := met_off F
  clear h ht hk hb hr hR hO ho
  go_enter Tryd.func10, Tryd.ntmps10
  go_wp2_with fail
  refine HT.out.mono ?_
  rintro e w1 ⟨rfl, m', rfl⟩
  clear HT
  go_wp2_with fail
  refine (HR.out _).mono ?_
  rintro e w1 ⟨rfl, m2, rfl⟩
  clear HR
  go_wp2_with fail
  refine (HO.out _).mono ?_
  rintro e w1 ⟨rfl, rfl⟩
  clear HO hno hmo
  go_wp2
  refine bodyPost_ret (v := .tuple #[.int .i64 0, .int .i64 4]) (by simp [results, Tryd.results10, go_sem]) rfl ⟨rfl, m2, rfl⟩
end
end Go.Proofs.YtlidbkofjchnnaaDoor
namespace Go.Proofs.YtlidbkofjchnnaaDoor
open Go.RowKit
set_option linter.unusedVariables false
set_option linter.unusedSimpArgs false

section
variable {w : World} {B M Q F L n : Nat} {P : Nat → Nat} {S : Fl} {bad : Nat → Bool} {md : Int}
theorem room_parts {k : Nat} (hr : S.room bad k ≠ 0) : bad k = false ∧ (S.b k).half = false ∧ (S.b k).next < S.has k := by
  unfold Fl.room at hr
  split at hr
  · exact absurd rfl hr
  · rename_i h
    rw [Bool.or_eq_true, not_or] at h
    exact ⟨by simpa using h.2, by simpa using h.1, by omega⟩
theorem Shape_N (h : MedIs w B M Q F L P S n bad md) (m : Nat) : Calls Tryd.prog 33 #[.pointer (some ⟨F, 0, none⟩)] (w.drewN m) fun e w' => e = .returned (.tuple #[.int .i64 S.nb, .int .i64 S.pages, .int .i64 S.chunks]) ∧ ∃ m', w' = w.drewN m' :=
  (Shape_any (h.drewN m).fl).mono fun e w' ⟨he, m', hw⟩ => ⟨he, m + m', by rw [hw, World.drewN_drewN]⟩
/-- Lay among a media's own calls. -/
theorem Lay_med (h : MedIs w B M Q F L P S n bad md) (A : Option Addr) (c : Nat) (d : List Nat) (hd : d.length = n) (h256 : ∀ u ∈ d, u < 256) (hc : Cells8 w A d) (m : Nat) :
    Calls Tryd.prog 29 #[.slice A n c, .int .i64 S.chunks] (w.drewN m) fun e w' => ∃ rb rc, e = .returned (.tuple #[.slice (some ⟨rb, 0, none⟩) (73 * S.chunks) rc, .int .i64 0]) ∧ 73 * S.chunks ≤ rc ∧ w'.ownsRow w.heap.size 5 1 (.slice (some ⟨rb, 0, none⟩) (73 * S.chunks) rc) (73 * S.chunks) (intsV .u8 (laid d S.chunks)) ∧ MedIs w' B M Q F L P S n bad md ∧ Below w.heap.size w w' := by
  have hch := h.fl.ok.chunks
  have hb := h.bytes
  subst hd
  refine (Lay_any A S.chunks c d hch.1 hch.2 hb.2 h256 (w.drewN m) hc (h.drewN m).tab).mono fun e w' ⟨Ao, co, he, ho, hbl⟩ => ?_
  obtain ⟨rb, rfl, hrc⟩ := own_addr ho (by omega)
  exact ⟨rb, co, he, hrc, ho, (h.drewN m).keep (Turns.of_below hbl []), (below_drewN0 (Below.refl _ _) m).trans (hbl.mono (Nat.le_refl _))⟩
set_option maxRecDepth 100000 in
set_option maxHeartbeats 1000000 in
theorem MWrite_failed (h : MedIs w B M Q F L P S n bad md) (k : Nat) (hk : k < S.nb) (A : Option Addr) (c : Nat) (d : List Nat) (hd : d.length = n) (h256 : ∀ u ∈ d, u < 256) (hc : Cells8 w A d) (hr : S.room bad k ≠ 0) (ho : S.off = false) (hf : (S.b k).failed = true) :
    Calls Tryd.prog 10 #[.pointer (some ⟨M, 0, none⟩), .int .i64 k, .slice A n c] w fun e w' => e = .returned (.tuple #[.int .i64 0, .int .i64 7]) ∧ MedIs w' B M Q F L P S n (setBad bad k) md ∧ Turns w w' [Q] := by
  have ht := there_N h k 0
  rw [decide_eq_true (by omega)] at ht
  have HT := Lib.hid ht
  obtain ⟨c0, c2, c3, _⟩ := h.cells
  have hl := h.lookN hk
  obtain ⟨hb, hh, hnx⟩ := room_parts hr
  rw [hb] at hl
  have hR := Room_N h k hk
  generalize S.room bad k = rm at *
  have hrm : ¬ (rm : Int) = 0 := by omega
  have HR := Lib.hid hR
  have hO := Off_N h
  rw [ho] at hO
  have HO := Lib.hid hO
  have HSh := Lib.hid (Shape_N h)
  have HLy := Lib.hid (Lay_med h A c d hd h256 hc)
  have HNx : Hid (∀ w1, MedIs w1 B M Q F L P S n bad md → Calls Tryd.prog 59 #[.pointer (some ⟨F, 0, none⟩), .int .i64 k] w1 fun e w' => e = .returned (.int .i64 (S.b k).next) ∧ w1 = w') := fun w1 h1 => by
    have := Next_in h1.fl k hk
    rw [hh, if_neg (by simp)] at this
    exact this
  have HPr : Hid (∀ w1 rb rc, MedIs w1 B M Q F L P S n bad md → Calls Tryd.prog 116 #[.pointer (some ⟨F, 0, none⟩), .int .i64 k, .int .i64 ((S.b k).next : Nat), .slice (some ⟨rb, 0, none⟩) (73 * S.chunks) rc] w1 fun e w' => e = .returned (.int .i64 7) ∧ w1 = w') := fun w1 rb rc h1 => Program_failed h1.fl k hk ho hf hnx _ rc
  have HFa : Hid (∀ w1, MedIs w1 B M Q F L P S n bad md → Calls Tryd.prog 30 #[.pointer (some ⟨M, 0, none⟩), .int .i64 k, .int .i64 7] w1 fun e w' => e = .returned (.int .i64 7) ∧ MedIs w' B M Q F L P S n (setBad bad k) md ∧ Turns w1 w' [Q]) := fun w1 h1 => fail_yes h1 k hk
  have hno := nil_off F
  have hmo := met_off F
  have hns := nil_shape F
  have hms := met_shape F
  have hnn := nil_next F
  have hmn := met_next F
  have hnp := nil_program F
  have hmp := met_program F
  generalize (S.b k).next = nx at *
  clear h ht hk hb hr hR hO ho hh hnx hf hd h256 hc
  generalize S.chunks = ch at *
  go_enter Tryd.func10, Tryd.ntmps10
  go_wp2_with fail
  refine HT.out.mono ?_
  rintro e w1 ⟨rfl, m', rfl⟩
  clear HT
  go_wp2_with fail
  refine (HR.out _).mono ?_
  rintro e w1 ⟨rfl, m2, rfl⟩
  clear HR
  go_wp2_with fail
  refine (HO.out _).mono ?_
  rintro e w1 ⟨rfl, rfl⟩
  clear HO hno hmo
  go_wp2_with fail
  refine (HSh.out _).mono ?_
  rintro e w1 ⟨rfl, m3, rfl⟩
  clear HSh hns hms hl
  go_wp2_with fail
  refine (HLy.out _).mono ?_
  rintro e w1 ⟨rb, rc, rfl, _, _, hm1, hbl⟩
  have HM1 := Lib.hid hm1
  have HBl := Lib.hid hbl
  have c1 := hm1.cells.1
  clear HLy hm1 hbl c0 c2 c3
  go_wp2_with fail
  refine (HNx.out w1 HM1.out).mono ?_
  rintro e w2 ⟨rfl, rfl⟩
  clear HNx hnn hmn
  go_wp2_with fail
  refine (HPr.out w1 rb rc HM1.out).mono ?_
  rintro e w2 ⟨rfl, rfl⟩
  clear HPr hnp hmp
  go_wp2_with fail
  refine (HFa.out w1 HM1.out).mono ?_
  rintro e w2 ⟨rfl, hm2, ht2⟩
  have HM2 := Lib.hid hm2
  have HT2 : Hid (Turns w w2 [Q]) := (Turns.of_below HBl.out [Q]).trans ht2 (fun g hg => .inl hg)
  clear hm2 ht2
  go_wp2
  refine bodyPost_ret (v := .tuple #[.int .i64 0, .int .i64 7]) (by simp [results, Tryd.results10, go_sem]) rfl ⟨rfl, HM2.out, HT2.out⟩
end
end Go.Proofs.YtlidbkofjchnnaaDoor
