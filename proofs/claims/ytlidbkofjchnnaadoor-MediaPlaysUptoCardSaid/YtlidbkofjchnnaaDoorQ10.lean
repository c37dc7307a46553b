/- What follows is laid together from several texts of mine, in their order. -/
import Derived.Test.YtlidbkofjchnnaaDoorQ9

namespace Go.Proofs.YtlidbkofjchnnaaDoor
open Go.RowKit
set_option linter.unusedVariables false
set_option linter.unusedSimpArgs false

section
variable {w : World} {B M Q F L n : Nat} {P : Nat → Nat} {S : Fl} {bad : Nat → Bool} {md : Int}
theorem there_N (h : MedIs w B M Q F L P S n bad md) (k : Int) (m : Nat) : Calls Tryd.prog 28 #[.pointer (some ⟨M, 0, none⟩), .int .i64 k] (w.drewN m) fun e w' => e = .returned (.bool (decide (0 ≤ k ∧ k < S.nb))) ∧ ∃ m', w' = w.drewN m' :=
  (there_any (h.drewN m).fl M k h.cells.1).mono fun e w' ⟨he, m', hw⟩ => ⟨he, m + m', by rw [hw, World.drewN_drewN]⟩
theorem Pages_N (h : MedIs w B M Q F L P S n bad md) (k : Nat) (hk : k < S.nb) (m : Nat) : Calls Tryd.prog 38 #[.pointer (some ⟨M, 0, none⟩), .int .i64 k] (w.drewN m) fun e w' => e = .returned (.int .i64 (S.has k : Nat)) ∧ ∃ m', w' = w.drewN m' :=
  (Pages_in (h.drewN m).fl M k hk h.cells.1).mono fun e w' ⟨he, m', hw⟩ => ⟨he, m + m', by rw [hw, World.drewN_drewN]⟩
theorem Room_N (h : MedIs w B M Q F L P S n bad md) (k : Nat) (hk : k < S.nb) (m : Nat) : Calls Tryd.prog 19 #[.pointer (some ⟨M, 0, none⟩), .int .i64 k] (w.drewN m) fun e w' => e = .returned (.int .i64 (S.room bad k : Nat)) ∧ ∃ m', w' = w.drewN m' :=
  (Room_in (h.drewN m) k hk).mono fun e w' ⟨he, m', hw⟩ => ⟨he, m + m', by rw [hw, World.drewN_drewN]⟩
theorem Off_N (h : MedIs w B M Q F L P S n bad md) (m : Nat) : Calls Tryd.prog 11 #[.pointer (some ⟨F, 0, none⟩)] (w.drewN m) fun e w' => e = .returned (.bool S.off) ∧ w.drewN m = w' := FlOff (h.drewN m).fl
theorem Next_N (h : MedIs w B M Q F L P S n bad md) (k : Nat) (hk : k < S.nb) (m : Nat) : Calls Tryd.prog 59 #[.pointer (some ⟨F, 0, none⟩), .int .i64 k] (w.drewN m) fun e w' => e = .returned (.int .i64 (if (S.b k).half then -1 else ((S.b k).next : Int))) ∧ w.drewN m = w' := Next_in (h.drewN m).fl k hk
theorem MRead_out (h : MedIs w B M Q F L P S n bad md) (k p : Int) (hk : k < 0 ∨ S.nb ≤ k) : Calls Tryd.prog 21 #[.pointer (some ⟨M, 0, none⟩), .int .i64 k, .int .i64 p] w fun e w' => e = .returned (.tuple #[.slice none 0 0, .int .i64 1]) ∧ ∃ m', w' = w.drewN m' := by
  have ht := there_N h k 0
  rw [decide_eq_false (by omega)] at ht
  have HT := Lib.hid ht
  clear h ht hk
  go_enter Tryd.func21, Tryd.ntmps21
  go_wp2_with fail
  refine HT.out.mono ?_
  rintro e w1 ⟨rfl, m, rfl⟩
  clear HT
  go_wp2
  refine bodyPost_ret (v := .tuple #[.slice none 0 0, .int .i64 1]) (by simp [results, Tryd.results21, go_sem]) rfl ⟨rfl, m, rfl⟩
theorem MRead_page (h : MedIs w B M Q F L P S n bad md) (k : Nat) (hk : k < S.nb) (p : Int) (hp : ¬ (0 ≤ p ∧ p < S.has k)) : Calls Tryd.prog 21 #[.pointer (some ⟨M, 0, none⟩), .int .i64 k, .int .i64 p] w fun e w' => e = .returned (.tuple #[.slice none 0 0, .int .i64 1]) ∧ ∃ m', w' = w.drewN m' := by
  have ht := there_N h k 0
  rw [decide_eq_true (by omega)] at ht
  have HT := Lib.hid ht
  have HP := Lib.hid (Pages_N h k hk)
  generalize S.has k = hs at *
  clear h ht hk
  by_cases h0 : p < 0
  · clear hp HP
    go_enter Tryd.func21, Tryd.ntmps21
    go_wp2_with fail
    refine HT.out.mono ?_
    rintro e w1 ⟨rfl, m, rfl⟩
    clear HT
    go_wp2
    refine bodyPost_ret (v := .tuple #[.slice none 0 0, .int .i64 1]) (by simp [results, Tryd.results21, go_sem]) rfl ⟨rfl, m, rfl⟩
  · have h1 : ¬ p < hs := by omega
    have h2 : p ≥ (hs : Int) := by omega
    clear hp
    go_enter Tryd.func21, Tryd.ntmps21
    go_wp2_with fail
    refine HT.out.mono ?_
    rintro e w1 ⟨rfl, m, rfl⟩
    clear HT
    go_wp2_with fail
    refine (HP.out _).mono ?_
    rintro e w1 ⟨rfl, m2, rfl⟩
    clear HP
    go_wp2
    refine bodyPost_ret (v := .tuple #[.slice none 0 0, .int .i64 1]) (by simp [results, Tryd.results21, go_sem]) rfl ⟨rfl, m2, rfl⟩
theorem MRead_off (h : MedIs w B M Q F L P S n bad md) (k : Nat) (hk : k < S.nb) (p : Int) (hp : 0 ≤ p ∧ p < S.has k) (ho : S.off = true) : Calls Tryd.prog 21 #[.pointer (some ⟨M, 0, none⟩), .int .i64 k, .int .i64 p] w fun e w' => e = .returned (.tuple #[.slice none 0 0, .int .i64 4]) ∧ ∃ m', w' = w.drewN m' := by
  have ht := there_N h k 0
  rw [decide_eq_true (by omega)] at ht
  have HT := Lib.hid ht
  have HP := Lib.hid (Pages_N h k hk)
  have hO := Off_N h
  rw [ho] at hO
  have HO := Lib.hid hO
  have hno := nil_off F
  have hmo := met_off F
  obtain ⟨c0, _, _, _⟩ := h.cells
  generalize S.has k = hs at *
  have h0 : ¬ p < 0 := by omega
  have h1 : p < hs := by omega
  have h2 : ¬ p ≥ (hs : Int) := by omega
  clear h ht hk ho hp hO
  go_enter Tryd.func21, Tryd.ntmps21
  go_wp2_with fail
  refine HT.out.mono ?_
  rintro e w1 ⟨rfl, m, rfl⟩
  clear HT
  go_wp2_with fail
  refine (HP.out _).mono ?_
  rintro e w1 ⟨rfl, m2, rfl⟩
  clear HP
  go_wp2_with fail
  refine (HO.out _).mono ?_
  rintro e w1 ⟨rfl, rfl⟩
  clear HO hno hmo
  go_wp2
  refine bodyPost_ret (v := .tuple #[.slice none 0 0, .int .i64 4]) (by simp [results, Tryd.results21, go_sem]) rfl ⟨rfl, m2, rfl⟩
theorem MRead_half (h : MedIs w B M Q F L P S n bad md) (k : Nat) (hk : k < S.nb) (p : Int) (hp : 0 ≤ p ∧ p < S.has k) (ho : S.off = false) (hh : (S.b k).half = true) : Calls Tryd.prog 21 #[.pointer (some ⟨M, 0, none⟩), .int .i64 k, .int .i64 p] w fun e w' => e = .returned (.tuple #[.slice none 0 0, .int .i64 9]) ∧ ∃ m', w' = w.drewN m' := by
  have ht := there_N h k 0
  rw [decide_eq_true (by omega)] at ht
  have HT := Lib.hid ht
  have HP := Lib.hid (Pages_N h k hk)
  have hO := Off_N h
  rw [ho] at hO
  have HO := Lib.hid hO
  have hN := Next_N h k hk
  rw [hh, if_pos rfl] at hN
  have HN := Lib.hid hN
  have hno := nil_off F
  have hmo := met_off F
  have hnn := nil_next F
  have hmn := met_next F
  obtain ⟨c0, _, _, _⟩ := h.cells
  generalize S.has k = hs at *
  have h0 : ¬ p < 0 := by omega
  have h1 : p < hs := by omega
  have h2 : ¬ p ≥ (hs : Int) := by omega
  clear h ht hk ho hp hO hN hh
  go_enter Tryd.func21, Tryd.ntmps21
  go_wp2_with fail
  refine HT.out.mono ?_
  rintro e w1 ⟨rfl, m, rfl⟩
  clear HT
  go_wp2_with fail
  refine (HP.out _).mono ?_
  rintro e w1 ⟨rfl, m2, rfl⟩
  clear HP
  go_wp2_with fail
  refine (HO.out _).mono ?_
  rintro e w1 ⟨rfl, rfl⟩
  clear HO hno hmo
  go_wp2_with fail
  refine (HN.out _).mono ?_
  rintro e w1 ⟨rfl, rfl⟩
  clear HN hnn hmn
  go_wp2
  refine bodyPost_ret (v := .tuple #[.slice none 0 0, .int .i64 9]) (by simp [results, Tryd.results21, go_sem]) rfl ⟨rfl, m2, rfl⟩
/-- How many words are mended where the page is whole. -/
def cntOf (r : List Nat) (c : Nat) : Nat := if stateOf r c = 2 ∧ rBad r c = false then rCnt r c else 0
/-- What Read leaves where it reads. -/
def MReadPost (w : World) (B M Q F L : Nat) (P : Nat → Nat) (S : Fl) (n : Nat) (bad : Nat → Bool) (md : Int) (r : List Nat) (e : Ending) (w' : World) : Prop :=
  MedIs w' B M Q F L P S n bad (IntKind.i64.wrap (md + cntOf r S.chunks)) ∧ Turns w w' [M, F] ∧ (stateOf r S.chunks ≠ 2 → e = .returned (.tuple #[.slice none 0 0, .int .i64 9])) ∧
    (stateOf r S.chunks = 2 → rBad r S.chunks = true → e = .returned (.tuple #[.slice none 0 0, .int .i64 8])) ∧
    (stateOf r S.chunks = 2 → rBad r S.chunks = false → ∃ A q, e = .returned (.tuple #[.slice A n q, .int .i64 0]) ∧ w'.ownsRow w.heap.size 5 1 (.slice A n q) n (intsV .u8 ((rBytes r S.chunks).take n)))
theorem MedIs.add (h : MedIs w B M Q F L P S n bad md) (c : Nat) : Calls Tryd.prog 41 #[.pointer (some ⟨M, 4, none⟩), .int .i64 c] w fun e w' => (∃ v, e = .returned v) ∧ MedIs w' B M Q F L P S n bad (IntKind.i64.wrap (md + c)) ∧ Turns w w' [M] :=
  (Add_any M 4 md c w h.cells.2.2.2 (h.row.frozen 4)).mono fun e w' ⟨he, hw⟩ => by subst hw; exact ⟨⟨_, he⟩, h.put4 _, (Turns.refl _ _).setCell (by simp) _⟩
end
end Go.Proofs.YtlidbkofjchnnaaDoor
namespace Go.Proofs.YtlidbkofjchnnaaDoor
open Go.RowKit
set_option linter.unusedVariables false
set_option linter.unusedSimpArgs false

theorem own_addr {w : World} {B : Nat} {e : TypeId} {A : Option Addr} {n c : Nat} {xs : List Value} (h : w.ownsRow B e 1 (.slice A n c) n xs) (hn : 0 < n) : ∃ g, A = some ⟨g, 0, none⟩ ∧ n ≤ c := by
  rcases h.2 with ⟨h1, h2⟩ | ⟨g, cap, cur, e1, h0, hb, hc, hm2, hs, ht⟩
  · have := h.1
    rw [h2] at this
    simp at this; omega
  · injection e1 with e1 _ e3
    subst e1; subst e3
    exact ⟨g, rfl, hc⟩
/-- How a page is: 0 blank, 1 torn, 2 whole, 3 none. -/
def howOf (r : List Nat) (c : Nat) : Nat := if stateOf r c = 2 then (if rBad r c then 3 else 2) else stateOf r c
theorem howOf_of (r : List Nat) (c : Nat) : howOf r c = 0 ∨ howOf r c = 1 ∨ howOf r c = 2 ∨ howOf r c = 3 := by
  have := stateOf_of r c
  unfold howOf
  split
  · split <;> simp
  · omega
def RdPost (r : List Nat) (c n : Nat) (w : World) (e : Ending) (w' : World) : Prop :=
  ∃ b, e = .returned (.tuple #[b, .int .i64 (cntOf r c : Nat), .int .i64 (howOf r c : Nat)]) ∧ Below w.heap.size w w' ∧ (howOf r c = 2 → ∃ A q, b = .slice A n q ∧ w'.ownsRow w.heap.size 5 1 (.slice A n q) n (intsV .u8 ((rBytes r c).take n)))
theorem ReadPost.norm {r : List Nat} {c n : Nat} {w : World} {e : Ending} {w' : World} (h : ReadPost r c n w e w') : RdPost r c n w e w' := by
  obtain ⟨hb, h1, h2, h3⟩ := h
  unfold RdPost howOf cntOf
  by_cases hs : stateOf r c = 2
  · rw [if_pos hs]
    cases hr : rBad r c with
    | true => exact ⟨_, by rw [if_neg (by simp)]; exact h2 hs hr, hb, fun h => by simp at h⟩
    | false =>
      obtain ⟨A, q, he, ho⟩ := h3 hs hr
      exact ⟨_, by rw [if_pos ⟨hs, rfl⟩]; exact he, hb, fun _ => ⟨A, q, rfl, ho⟩⟩
  · rw [if_neg hs]
    exact ⟨_, by rw [if_neg (fun h => hs h.1)]; exact h1 hs, hb, fun h => absurd h hs⟩
section
variable {w : World} {B M Q F L n : Nat} {P : Nat → Nat} {S : Fl} {bad : Nat → Bool} {md : Int}
/-- A row of bytes stays behind what turns a media's blocks. -/
theorem MedIs.own {w' : World} {T : List Nat} {base m : Nat} {v : Value} {xs : List Value} (h : MedIs w B M Q F L P S n bad md) (ht : Turns w w' T) (hT : ∀ g ∈ T, g ∈ medT M Q F L P S.nb) (ho : w.ownsRow base 5 1 v m xs) : w'.ownsRow base 5 1 v m xs :=
  ht.own ho (fun g hg hm => by
    rcases ho.2 with ⟨rfl, _⟩ | ⟨g2, cap, cur, rfl, _, hr, _⟩
    · cases hg
    · have e : g2 = g := by injection hg
      subst e
      exact h.no_bytes hr (hT _ hm))
set_option maxRecDepth 100000 in
set_option maxHeartbeats 1000000 in
theorem MRead_core (h : MedIs w B M Q F L P S n bad md) (k : Nat) (hk : k < S.nb) (p : Nat) (hp : p < S.has k) (ho : S.off = false) (hh : (S.b k).half = false) : Calls Tryd.prog 21 #[.pointer (some ⟨M, 0, none⟩), .int .i64 k, .int .i64 p] w fun e w' =>
    MedIs w' B M Q F L P S n bad (IntKind.i64.wrap (md + cntOf (S.raw k p) S.chunks)) ∧ Turns w w' [M, F] ∧
    ((howOf (S.raw k p) S.chunks = 0 ∨ howOf (S.raw k p) S.chunks = 1) → e = .returned (.tuple #[.slice none 0 0, .int .i64 9])) ∧ (howOf (S.raw k p) S.chunks = 3 → e = .returned (.tuple #[.slice none 0 0, .int .i64 8])) ∧
    (howOf (S.raw k p) S.chunks = 2 → ∃ A q, e = .returned (.tuple #[.slice A n q, .int .i64 0]) ∧ w'.ownsRow w.heap.size 5 1 (.slice A n q) n (intsV .u8 ((rBytes (S.raw k p) S.chunks).take n))) := by
  have ht := there_N h k 0
  rw [decide_eq_true (by omega)] at ht
  have HT := Lib.hid ht
  have HP := Lib.hid (Pages_N h k hk)
  have hO := Off_N h
  rw [ho] at hO
  have HO := Lib.hid hO
  have hN := Next_N h k hk
  rw [hh, if_neg (by simp)] at hN
  have HN := Lib.hid hN
  have hno := nil_off F
  have hmo := met_off F
  have hnn := nil_next F
  have hmn := met_next F
  have hnr := nil_read F
  have hmr := met_read F
  obtain ⟨c0, _, _, _⟩ := h.cells
  have HFR : Hid (∀ m, Calls Tryd.prog 117 #[.pointer (some ⟨F, 0, none⟩), .int .i64 k, .int .i64 p] (w.drewN m) fun e w' => ∃ g c, e = .returned (.tuple #[.slice (some ⟨g, 0, none⟩) (73 * S.chunks) c, .int .i64 0]) ∧ MedIs w' B M Q F L P S n bad md ∧ Turns w w' [F] ∧ w'.cell? ⟨M, 2, none⟩ = some (.int .i64 n) ∧ Hid (Calls Tryd.prog 40 #[.slice (some ⟨g, 0, none⟩) (73 * S.chunks) c, .int .i64 n] w' (RdPost (S.raw k p) S.chunks n w'))) := fun m => by
    refine (FRead_any (h.drewN m).fl k hk (p : Nat)).mono fun e w' ⟨hf, htn, _, _, _, h4⟩ => ?_
    obtain ⟨A, c, he, hown⟩ := h4 ho (by omega) hh
    have hch := h.fl.ok.chunks
    obtain ⟨g, rfl, hgc⟩ := own_addr hown (by omega)
    have hm' : MedIs w' B M Q F L P S n bad md := (h.drewN m).flash hf htn (by simp [flS]) rfl rfl
    have hraw := S.raw_ok h.fl.ok hk p
    refine ⟨g, c, he, hm', ((Turns.refl w [F]).drewN m).trans htn (by simp), hm'.cells.2.1, ?_⟩
    exact (Read_any g 0 c S.chunks n (S.raw k p) hraw.1 hch.1 hch.2 h.bytes.2 hgc hraw.2 w' (Cells8.of_own hown).2 hm'.tab).mono fun e w' h => h.norm
  have HW : Hid (w.heap.size = w.heap.size) := rfl
  have hnx := (h.fl.ok.wf k hk).next
  have hle := has_le h.fl.ok k
  have hpg := h.fl.ok.pages
  generalize S.has k = hs at *
  generalize (S.b k).next = nx at *
  have h0 : ¬ (p : Int) < 0 := by omega
  have h1 : (p : Int) < hs := by omega
  have h2 : ¬ (p : Int) ≥ (hs : Int) := by omega
  have h3 : ¬ (nx : Int) < 0 := by omega
  have HHw := Lib.hid (howOf_of (S.raw k p) S.chunks)
  clear h ht hk ho hp hO hN hh hnx hle hpg
  generalize S.raw k p = r at *
  generalize S.chunks = ch at *
  go_enter Tryd.func21, Tryd.ntmps21
  go_wp2_with fail
  refine HT.out.mono ?_
  rintro e w1 ⟨rfl, m, rfl⟩
  clear HT
  go_wp2_with fail
  refine (HP.out _).mono ?_
  rintro e w1 ⟨rfl, m2, rfl⟩
  clear HP
  go_wp2_with fail
  refine (HO.out _).mono ?_
  rintro e w1 ⟨rfl, rfl⟩
  clear HO hno hmo
  go_wp2_with fail
  refine (HN.out _).mono ?_
  rintro e w1 ⟨rfl, rfl⟩
  clear HN hnn hmn
  go_wp2_with fail
  refine (HFR.out _).mono ?_
  rintro e w1 ⟨g, c, rfl, hm1, ht1, cn, HR⟩
  have HM1 := Lib.hid hm1
  have HT1 := Lib.hid ht1
  clear HFR hnr hmr hm1 ht1
  go_wp2_with fail
  refine HR.out.mono ?_
  unfold RdPost
  rintro e w2 ⟨b, rfl, hb, hr⟩
  have HB := Lib.hid hb
  have HRr := Lib.hid hr
  have HM2 : Hid (MedIs w2 B M Q F L P S n bad md) := HM1.out.keep (Turns.of_below hb [])
  have HT2 : Hid (Turns w w2 [F]) := HT1.out.then_below hb
  have HA := Lib.hid (HM2.out.add (cntOf r ch))
  have c2 : w2.cell? ⟨M, 0, none⟩ = some (.iface 25 (.pointer (some ⟨F, 0, none⟩))) := HM2.out.cells.1
  clear HR hb hr c0 cn HM1 HB
  go_wp2_with fail
  refine HA.out.mono ?_
  rintro e w3 ⟨⟨v, rfl⟩, hm3, ht3⟩
  have HM3 := Lib.hid hm3
  have HT3 : Hid (Turns w w3 [M, F]) := (HT2.out.mono (by simp)).trans ht3 (by simp)
  have HHH : Hid (howOf r ch = 2 → ∃ A q, b = .slice A n q ∧ w3.ownsRow w.heap.size 5 1 (.slice A n q) n (intsV .u8 ((rBytes r ch).take n))) := fun h => by
    obtain ⟨A, q, e, ho⟩ := HRr.out h
    exact ⟨A, q, e, HM2.out.own ht3 (by simp [medT]) (own_mono ho HT1.out.size)⟩
  clear HA hm3 ht3 HM2 HT2 HRr c2 HT1
  rcases HHw.out with h | h | h | h
  · have HE := Lib.hid h
    rw [h]
    clear h
    go_wp2
    refine bodyPost_ret (v := .tuple #[.slice none 0 0, .int .i64 9]) (by simp [results, Tryd.results21, go_sem]) rfl ⟨HM3.out, HT3.out, fun _ => rfl, fun h => (by rw [HE.out] at h; cases h), fun h => (by rw [HE.out] at h; cases h)⟩
  · have HE := Lib.hid h
    rw [h]
    clear h
    go_wp2
    refine bodyPost_ret (v := .tuple #[.slice none 0 0, .int .i64 9]) (by simp [results, Tryd.results21, go_sem]) rfl ⟨HM3.out, HT3.out, fun _ => rfl, fun h => (by rw [HE.out] at h; cases h), fun h => (by rw [HE.out] at h; cases h)⟩
  · obtain ⟨A, q, rfl, ho⟩ := HHH.out h
    have HE := Lib.hid h
    have HO := Lib.hid ho
    rw [h]
    clear h ho
    go_wp2
    refine bodyPost_ret (v := .tuple #[.slice A n q, .int .i64 0]) (by simp [results, Tryd.results21, go_sem]) rfl ⟨HM3.out, HT3.out, fun h => (by rw [HE.out] at h; rcases h with h | h <;> cases h), fun h => (by rw [HE.out] at h; cases h), fun _ => ⟨A, q, rfl, HO.out⟩⟩
  · have HE := Lib.hid h
    rw [h]
    clear h
    go_wp2
    refine bodyPost_ret (v := .tuple #[.slice none 0 0, .int .i64 8]) (by simp [results, Tryd.results21, go_sem]) rfl ⟨HM3.out, HT3.out, fun h => (by rw [HE.out] at h; rcases h with h | h <;> cases h), fun _ => rfl, fun h => (by rw [HE.out] at h; cases h)⟩
end
end Go.Proofs.YtlidbkofjchnnaaDoor
