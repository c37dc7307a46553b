/- What follows is laid together from several texts of mine, in their order. -/
import Derived.Test.YtlidbkofjchnnaaDoorQ13

namespace Go.Proofs.YtlidbkofjchnnaaDoor
open Go.RowKit
set_option linter.unusedVariables false
set_option linter.unusedSimpArgs false

section
variable {w : World} {B M Q F L n : Nat} {P : Nat → Nat} {S : Fl} {bad : Nat → Bool} {md : Int}
theorem Scan_out (h : MedIs w B M Q F L P S n bad md) (k : Int) (hk : k < 0 ∨ S.nb ≤ k) : Calls Tryd.prog 14 #[.pointer (some ⟨M, 0, none⟩), .int .i64 k] w fun e w' => e = .returned (.tuple #[.int .i64 0, .bool false, .int .i64 1]) ∧ ∃ m', w' = w.drewN m' := by
  have ht := there_N h k 0
  rw [decide_eq_false (by omega)] at ht
  have HT := Lib.hid ht
  clear h ht hk
  go_enter Tryd.func14, Tryd.ntmps14
  go_wp2_with fail
  refine HT.out.mono ?_
  rintro e w1 ⟨rfl, m, rfl⟩
  clear HT
  go_wp2
  refine bodyPost_ret (v := .tuple #[.int .i64 0, .bool false, .int .i64 1]) (by simp [results, Tryd.results14, go_sem]) rfl ⟨rfl, m, rfl⟩
/-- Nothing is written, or it is half erased. -/
theorem Scan_none (h : MedIs w B M Q F L P S n bad md) (k : Nat) (hk : k < S.nb) (ho : S.off = false) (hn0 : (S.b k).half = true ∨ (S.b k).next = 0) : Calls Tryd.prog 14 #[.pointer (some ⟨M, 0, none⟩), .int .i64 k] w fun e w' => e = .returned (.tuple #[.int .i64 0, .bool (!(S.b k).half), .int .i64 0]) ∧ ∃ m', w' = w.drewN m' := by
  have ht := there_N h k 0
  rw [decide_eq_true (by omega)] at ht
  have HT := Lib.hid ht
  obtain ⟨c0, c2, c3, _⟩ := h.cells
  have hO := Off_N h
  rw [ho] at hO
  have HO := Lib.hid hO
  have hno := nil_off F
  have hmo := met_off F
  have hnn := nil_next F
  have hmn := met_next F
  have HN := Lib.hid (Next_N h k hk)
  generalize (S.b k).half = hf at *
  generalize (S.b k).next = nx at *
  cases hf
  · obtain rfl : nx = 0 := by simpa using hn0
    rw [if_neg (by simp)] at HN
    clear h ht hk ho hn0 hO
    go_enter Tryd.func14, Tryd.ntmps14
    go_wp2_with fail
    refine HT.out.mono ?_
    rintro e w1 ⟨rfl, m', rfl⟩
    clear HT
    go_wp2_with fail
    refine (HO.out _).mono ?_
    rintro e w1 ⟨rfl, rfl⟩
    clear HO hno hmo
    go_wp2_with fail
    refine (HN.out _).mono ?_
    rintro e w1 ⟨rfl, rfl⟩
    clear HN hnn hmn
    go_wp2
    refine bodyPost_ret (v := .tuple #[.int .i64 0, .bool true, .int .i64 0]) (by simp [results, Tryd.results14, go_sem]) rfl ⟨rfl, m', rfl⟩
  · rw [if_pos rfl] at HN
    clear h ht hk ho hn0 hO
    go_enter Tryd.func14, Tryd.ntmps14
    go_wp2_with fail
    refine HT.out.mono ?_
    rintro e w1 ⟨rfl, m', rfl⟩
    clear HT
    go_wp2_with fail
    refine (HO.out _).mono ?_
    rintro e w1 ⟨rfl, rfl⟩
    clear HO hno hmo
    go_wp2_with fail
    refine (HN.out _).mono ?_
    rintro e w1 ⟨rfl, rfl⟩
    clear HN hnn hmn
    go_wp2
    refine bodyPost_ret (v := .tuple #[.int .i64 0, .bool false, .int .i64 0]) (by simp [results, Tryd.results14, go_sem]) rfl ⟨rfl, m', rfl⟩
set_option maxRecDepth 100000 in
set_option maxHeartbeats 1000000 in
theorem Scan_some (h : MedIs w B M Q F L P S n bad md) (k : Nat) (hk : k < S.nb) (ho : S.off = false) (hh : (S.b k).half = false) (hn1 : 1 ≤ (S.b k).next) : Calls Tryd.prog 14 #[.pointer (some ⟨M, 0, none⟩), .int .i64 k] w fun e w' =>
    e = .returned (.tuple #[.int .i64 (S.b k).next, .bool (!(stateOf (S.raw k ((S.b k).next - 1)) S.chunks == 1)), .int .i64 0]) ∧ MedIs w' B M Q F L P S n bad md ∧ Turns w w' [F] := by
  have ht := there_N h k 0
  rw [decide_eq_true (by omega)] at ht
  have HT := Lib.hid ht
  obtain ⟨c0, c2, c3, _⟩ := h.cells
  have hO := Off_N h
  rw [ho] at hO
  have HO := Lib.hid hO
  have hno := nil_off F
  have hmo := met_off F
  have hnn := nil_next F
  have hmn := met_next F
  have hN := Next_N h k hk
  rw [hh, if_neg (by simp)] at hN
  have HN := Lib.hid hN
  have hwf := (h.fl.ok.wf k hk).next
  have hle := has_le h.fl.ok k
  have hpg := h.fl.ok.pages
  have hn256 : (S.b k).next ≤ 256 := Nat.le_trans hwf (Nat.le_trans hle hpg.2.1)
  have HFR : Hid (∀ m, Calls Tryd.prog 117 #[.pointer (some ⟨F, 0, none⟩), .int .i64 k, .int .i64 ((S.b k).next - 1 : Nat)] (w.drewN m) fun e w' => ∃ g c, e = .returned (.tuple #[.slice (some ⟨g, 0, none⟩) (73 * S.chunks) c, .int .i64 0]) ∧ MedIs w' B M Q F L P S n bad md ∧ Turns w w' [F] ∧ Hid (Calls Tryd.prog 32 #[.slice (some ⟨g, 0, none⟩) (73 * S.chunks) c] w' fun e w'' => e = .returned (.int .i64 (stateOf (S.raw k ((S.b k).next - 1)) S.chunks : Nat)) ∧ w' = w'')) := fun m => by
    refine (FRead_any (h.drewN m).fl k hk ((S.b k).next - 1 : Nat)).mono fun e w' ⟨hf, htn, _, _, _, h4⟩ => ?_
    have hlt : (S.b k).next ≤ S.has k := hwf
    obtain ⟨A, c, he, hown⟩ := h4 ho (by omega) hh
    have hch := h.fl.ok.chunks
    obtain ⟨g, rfl, hgc⟩ := own_addr hown (by omega)
    have hm' : MedIs w' B M Q F L P S n bad md := (h.drewN m).flash hf htn (by simp [flS]) rfl rfl
    have hraw := S.raw_ok h.fl.ok hk ((S.b k).next - 1)
    exact ⟨g, c, he, hm', ((Turns.refl w [F]).drewN m).trans htn (by simp), State_any g 0 c S.chunks _ hraw.1 hch.1 hch.2 hraw.2 w' (Cells8.of_own hown).2⟩
  have hnr := nil_read F
  have hmr := met_read F
  have hso := stateOf_of (S.raw k ((S.b k).next - 1)) S.chunks
  generalize S.has k = hs at *
  generalize stateOf (S.raw k ((S.b k).next - 1)) S.chunks = st at *
  generalize (S.b k).next = nx at *
  generalize S.pages = pg at *
  generalize S.chunks = ch at *
  have hi : ((nx - 1 : Nat) : Int) = (nx : Int) - 1 := by omega
  rw [hi] at HFR
  have h1 : ¬ (nx : Int) < 1 := by omega
  have hw : IntKind.i64.wrap ((nx : Int) - 1) = (nx : Int) - 1 := by rw [IntKind.wrap_i64]; omega
  have HS := Lib.hid hso
  clear h ht hk ho hh hO hN hwf hle hpg hi hn1 hso hn256
  go_enter Tryd.func14, Tryd.ntmps14
  go_wp2_with fail
  refine HT.out.mono ?_
  rintro e w1 ⟨rfl, m', rfl⟩
  clear HT
  go_wp2_with fail
  refine (HO.out _).mono ?_
  rintro e w1 ⟨rfl, rfl⟩
  clear HO hno hmo
  go_wp2_with fail
  refine (HN.out _).mono ?_
  rintro e w1 ⟨rfl, rfl⟩
  clear HN hnn hmn
  go_wp2_with fail
  refine (HFR.out _).mono ?_
  rintro e w1 ⟨g, c, rfl, hm1, ht1, HSt⟩
  have HM := Lib.hid hm1
  have HT1 := Lib.hid ht1
  clear HFR hnr hmr hm1 ht1 c0 c2 c3
  go_wp2_with fail
  refine HSt.out.mono ?_
  rintro e w2 ⟨rfl, rfl⟩
  clear HSt
  rcases HS.out with h | h | h
  all_goals subst h
  all_goals clear HS
  · go_wp2
    refine bodyPost_ret (v := .tuple #[.int .i64 nx, .bool true, .int .i64 0]) (by simp [results, Tryd.results14, go_sem]) rfl ⟨rfl, HM.out, HT1.out⟩
  · go_wp2
    refine bodyPost_ret (v := .tuple #[.int .i64 nx, .bool false, .int .i64 0]) (by simp [results, Tryd.results14, go_sem]) rfl ⟨rfl, HM.out, HT1.out⟩
  · go_wp2
    refine bodyPost_ret (v := .tuple #[.int .i64 nx, .bool true, .int .i64 0]) (by simp [results, Tryd.results14, go_sem]) rfl ⟨rfl, HM.out, HT1.out⟩
end
end Go.Proofs.YtlidbkofjchnnaaDoor
