/- nand: the power at a flash, its counters, a page's bytes. -/
import Derived.Test.YtlidbkofjchnnaaDoorNandB
namespace Go.Proofs.YtlidbkofjchnnaaDoor
open Go.RowKit
set_option linter.unusedVariables false
set_option linter.unusedSimpArgs false

/-- A step is done, or in its place the power goes. -/
def Fl.step (S : Fl) : Fl := if S.armed = 1 then { S with off := true, armed := 0 } else { S with armed := S.armed - 1 }
/-- A page's bytes. -/
def Fl.raw (S : Fl) (k p : Nat) : List Nat := ((S.b k).pg p).getD (List.replicate (73 * S.chunks) 255)
section
variable {w : World} {B F L : Nat} {P : Nat → Nat} {S : Fl}
theorem Fl.raw_ok (h : S.Ok) {k : Nat} (hk : k < S.nb) (p : Nat) : Raw S.chunks (S.raw k p) := by
  unfold Fl.raw
  cases hx : (S.b k).pg p with
  | none => exact ⟨by simp, fun u hu => by simp at hu; omega⟩
  | some l => exact (h.wf k hk).raw p l hx
theorem FlIs.off_eq {a : Nat} (h : FlIs w B F L P { S with armed := a }) (o : Bool) (e : S.off = o) : FlIs w B F L P { S with off := o, armed := a } := by subst e; exact h
theorem step_fl (h : FlIs w B F L P S) : Calls Tryd.prog 119 #[.pointer (some ⟨F, 0, none⟩)] w fun e w' => e = .returned (.bool (decide (S.armed ≠ 1))) ∧ FlIs w' B F L P S.step ∧ Turns w w' [F] := by
  obtain ⟨s, p, r, e, hr⟩ := h.row
  unfold Fl.step
  by_cases ha : S.armed = 1
  · rw [if_pos ha, decide_eq_false (by omega)]
    rw [ha] at hr
    exact (step_cut F S.off s _ w hr).mono fun e w' ⟨he, hr', ht⟩ => ⟨he, h.flash ht true 0 (by omega) ⟨s, p, r, _, hr'⟩, ht⟩
  · rw [if_neg ha, decide_eq_true ha]
    exact (step_done F S.off S.armed s _ ha h.ok.armed w hr).mono fun e w' ⟨he, ⟨s', hr'⟩, ht⟩ => ⟨he, h.flash ht S.off (S.armed - 1) (by have := h.ok.armed; omega) ⟨s', p, r, _, hr'⟩, ht⟩
theorem On_fl (h : FlIs w B F L P S) : Calls Tryd.prog 13 #[.pointer (some ⟨F, 0, none⟩)] w fun e w' => e = .returned (.tuple #[]) ∧ FlIs w' B F L P { S with off := false } ∧ Turns w w' [F] := by
  obtain ⟨s, p, r, e, hr⟩ := h.row
  exact (On_any F S.off S.armed s _ w hr).mono fun e w' ⟨he, hr', ht⟩ => ⟨he, h.flash ht false S.armed h.ok.armed ⟨s, p, r, _, hr'⟩, ht⟩
theorem Arm_fl (h : FlIs w B F L P S) (n : Int) (hn : n < 9223372036854775808) : Calls Tryd.prog 9 #[.pointer (some ⟨F, 0, none⟩), .int .i64 n] w fun e w' => e = .returned (.tuple #[]) ∧ FlIs w' B F L P { S with armed := (max n 1).toNat } ∧ Turns w w' [F] := by
  obtain ⟨s, p, r, e, hr⟩ := h.row
  have hm : (((max n 1).toNat : Nat) : Int) = max n 1 := by omega
  have ha : (max n 1).toNat < 9223372036854775808 := by omega
  exact (Arm_any F n S.off S.armed s _ w hr).mono fun e w' ⟨he, hr', ht⟩ => ⟨he, h.flash ht S.off (max n 1).toNat ha ⟨s, p, r, _, by rw [hm]; exact hr'⟩, ht⟩
theorem Add_fl (h : FlIs w B F L P S) (j : Nat) (hj : j = 6 ∨ j = 7 ∨ j = 8) : Calls Tryd.prog 41 #[.pointer (some ⟨F, j, none⟩), .int .i64 1] w fun e w' => (∃ v, e = .returned v) ∧ FlIs w' B F L P S ∧ Turns w w' [F] := by
  obtain ⟨s, p, r, q, hr⟩ := h.row
  have ht : ∀ m, Turns w (w.setCell ⟨F, j, none⟩ (.int .i64 m)) [F] := fun m => (Turns.refl _ _).setCell (by simp) _
  rcases hj with rfl | rfl | rfl
  · refine (Add_any F 6 p 1 w (hr.cell 6) (hr.frozen 6)).mono fun e w' ⟨he, hw⟩ => ?_
    subst hw
    refine ⟨⟨_, he⟩, h.flash (ht _) S.off S.armed h.ok.armed ⟨s, IntKind.i64.wrap (p + 1), r, q, ?_⟩, ht _⟩
    have := hr.put 6 (.int .i64 (IntKind.i64.wrap (p + 1)))
    simpa [fcells] using this
  · refine (Add_any F 7 r 1 w (hr.cell 7) (hr.frozen 7)).mono fun e w' ⟨he, hw⟩ => ?_
    subst hw
    refine ⟨⟨_, he⟩, h.flash (ht _) S.off S.armed h.ok.armed ⟨s, p, IntKind.i64.wrap (r + 1), q, ?_⟩, ht _⟩
    have := hr.put 7 (.int .i64 (IntKind.i64.wrap (r + 1)))
    simpa [fcells] using this
  · refine (Add_any F 8 q 1 w (hr.cell 8) (hr.frozen 8)).mono fun e w' ⟨he, hw⟩ => ?_
    subst hw
    refine ⟨⟨_, he⟩, h.flash (ht _) S.off S.armed h.ok.armed ⟨s, p, r, IntKind.i64.wrap (q + 1), ?_⟩, ht _⟩
    have := hr.put 8 (.int .i64 (IntKind.i64.wrap (q + 1)))
    simpa [fcells] using this
set_option maxRecDepth 100000 in
set_option maxHeartbeats 1000000 in
theorem raw_any (h : FlIs w B F L P S) (k p : Nat) (hk : k < S.nb) (hp : p < S.pages) : Calls Tryd.prog 47 #[.pointer (some ⟨F, 0, none⟩), .pointer (some ⟨L, k * 5, none⟩), .int .i64 p] w fun e w' => ∃ A c, e = .returned (.slice A (73 * S.chunks) c) ∧ w'.ownsRow w.heap.size 5 1 (.slice A (73 * S.chunks) c) (73 * S.chunks) (intsV .u8 (S.raw k p)) ∧ Below w.heap.size w w' := by
  obtain ⟨_, _, _, c5⟩ := h.fcell
  obtain ⟨d0, _⟩ := h.cells hk
  obtain ⟨cur, hr, hs, hc⟩ := h.pg k hk
  obtain ⟨v, hv, hpv⟩ := hc p hp
  have cp : w.cell? ⟨P k, p, none⟩ = some v := (hr.cell p).trans hv
  have hch := h.ok.chunks
  have hpp := h.ok.pages
  have hraw := Fl.raw_ok h.ok hk p
  have hpi : (p : Int) < S.pages := by omega
  have HRw := Lib.hid (show S.raw k p = ((S.b k).pg p).getD (List.replicate (73 * S.chunks) 255) from rfl)
  have HRk := Lib.hid hraw
  generalize S.raw k p = l at *
  cases hx : (S.b k).pg p with
  | none =>
    rw [hx] at hpv HRw
    obtain rfl : v = .slice none 0 0 := hpv
    obtain ⟨n, hn⟩ : ∃ n, n = 73 * S.chunks := ⟨_, rfl⟩
    have HRp : Hid (∀ w1, Src w1 1 (some ⟨w.heap.size, 0, none⟩) 1 [.int .u8 255] → Calls Tryd.prog 64 #[.slice (some ⟨w.heap.size, 0, none⟩) 1 1, .int .i64 n] w1 fun e w' => ∃ g, e = .returned (.slice (some ⟨g, 0, none⟩) n n) ∧ w'.ownsRow w1.heap.size 5 1 (.slice (some ⟨g, 0, none⟩) n n) n (intsV .u8 (List.replicate n 255)) ∧ Below w1.heap.size w1 w') := fun w1 h1 => Repeat_any _ 1 n (by omega) w1 h1
    have HS1 : Hid (Src (w.alloc (.cells #[.int .u8 255] 5)) 1 (some ⟨w.heap.size, 0, none⟩) 1 [.int .u8 255]) := src_one
    have HB1 : Hid (Below w.heap.size w (w.alloc (.cells #[.int .u8 255] 5))) := (Below.refl _ _).alloc (Nat.le_refl _) _
    have HR1 := Lib.hid (HRp.out _ HS1.out)
    have c5' := keep_below HB1.out _ _ c5
    have hw : IntKind.i64.wrap ((S.chunks : Int) * 73) = (n : Int) := by rw [IntKind.wrap_i64]; omega
    have HL : Hid (l = List.replicate n 255) := by unfold Hid; rw [HRw.out, hn]; rfl
    rw [← hn]
    generalize S.chunks = ch at *
    generalize S.pages = pp at *
    clear h hr hc hraw hx HRw HRk HRp hn
    go_enter Tryd.func47, Tryd.ntmps47
    go_wp2_with fail
    refine HR1.out.mono ?_
    rintro e w' ⟨g, rfl, ho, hb⟩
    have HO : Hid (w'.ownsRow w.heap.size 5 1 (.slice (some ⟨g, 0, none⟩) n n) n (intsV .u8 l)) := by unfold Hid; rw [HL.out]; exact own_mono ho HB1.out.size
    have HB : Hid (Below w.heap.size w w') := HB1.out.trans (hb.mono HB1.out.size)
    clear HR1 HS1 HB1 ho hb HL
    go_wp2
    go_ret
    exact ⟨_, _, rfl, HO.out, HB.out⟩
  | some l' =>
    rw [hx] at hpv HRw
    obtain rfl : l = l' := HRw.out
    have hown : w.ownsRow 0 5 1 v l.length (intsV .u8 l) := hpv
    rw [HRk.out.1] at hown
    obtain ⟨g, c, rfl, _, _, hlc, hcm⟩ := own_at hown (by omega)
    obtain ⟨n, hn⟩ : ∃ n, n = 73 * S.chunks := ⟨_, rfl⟩
    rw [← hn] at hown cp
    have HC := Lib.hid (CloneB_any (some ⟨g, 0, none⟩) n c (intsV .u8 l) (by unfold reachBytes; omega) w (Src.of_own hown) (intsV_one .u8 l))
    rw [← hn]
    generalize S.pages = pp at *
    clear h hr hc hraw hx HRw HRk hown hlc hcm hn hpv
    go_enter Tryd.func47, Tryd.ntmps47
    go_wp2_with fail
    refine HC.out.mono ?_
    rintro e w' ⟨A', c', rfl, ho, hb⟩
    have HO := Lib.hid ho
    have HB := Lib.hid hb
    clear HC ho hb
    go_wp2
    go_ret
    exact ⟨_, _, rfl, HO.out, HB.out⟩
end
end Go.Proofs.YtlidbkofjchnnaaDoor
namespace Go.Proofs.YtlidbkofjchnnaaDoor
open Go.RowKit
set_option linter.unusedVariables false
set_option linter.unusedSimpArgs false

section
variable {w : World} {B F L : Nat} {P : Nat → Nat} {S : Fl}
/-- What Read leaves. -/
def FReadPost (w : World) (B F L : Nat) (P : Nat → Nat) (S : Fl) (k : Nat) (p : Int) (e : Ending) (w' : World) : Prop :=
  FlIs w' B F L P S ∧ Turns w w' [F] ∧ (S.off = true → e = .returned (.tuple #[.slice none 0 0, .int .i64 4])) ∧
    (S.off = false → ¬ (0 ≤ p ∧ p < S.has k) → e = .returned (.tuple #[.slice none 0 0, .int .i64 1])) ∧
    (S.off = false → (0 ≤ p ∧ p < S.has k) → (S.b k).half = true → e = .returned (.tuple #[.slice none 0 0, .int .i64 8])) ∧
    (S.off = false → (0 ≤ p ∧ p < S.has k) → (S.b k).half = false → ∃ A c, e = .returned (.tuple #[.slice A (73 * S.chunks) c, .int .i64 0]) ∧ w'.ownsRow w.heap.size 5 1 (.slice A (73 * S.chunks) c) (73 * S.chunks) (intsV .u8 (S.raw k p.toNat)))
theorem has_le (h : S.Ok) (k : Nat) : S.has k ≤ S.pages := by unfold Fl.has hasOf; split <;> omega
set_option maxHeartbeats 1000000 in
theorem FRead_any (h : FlIs w B F L P S) (k : Nat) (hk : k < S.nb) (p : Int) : Calls Tryd.prog 117 #[.pointer (some ⟨F, 0, none⟩), .int .i64 k, .int .i64 p] w (FReadPost w B F L P S k p) := by
  have HB := Lib.hid (block_in h k hk)
  have HOf := Lib.hid (FlOff h)
  have HPg := Lib.hid (page_in h k hk p)
  have HAd := Lib.hid (Add_fl h 7 (by omega))
  obtain ⟨_, _, d2, _, _⟩ := h.cells hk
  have HH := Lib.hid h
  have hhas := has_le h.ok k
  clear h
  unfold FReadPost
  obtain ⟨o, ho⟩ : ∃ o, o = S.off := ⟨_, rfl⟩
  have HOo := Lib.hid ho
  rw [← ho] at HOf ⊢
  obtain ⟨hf, hhf⟩ : ∃ x, x = (S.b k).half := ⟨_, rfl⟩
  rw [← hhf] at d2 ⊢
  cases o
  · by_cases hp : 0 ≤ p ∧ p < S.has k
    · rw [decide_eq_true hp] at HPg
      cases hf
      · obtain ⟨q, rfl⟩ : ∃ q : Nat, p = q := ⟨p.toNat, by omega⟩
        have hq : q < S.pages := by omega
        have HRw : Hid (∀ w1, FlIs w1 B F L P S → Calls Tryd.prog 47 #[.pointer (some ⟨F, 0, none⟩), .pointer (some ⟨L, k * 5, none⟩), .int .i64 q] w1 fun e w' => ∃ A c, e = .returned (.slice A (73 * S.chunks) c) ∧ w'.ownsRow w1.heap.size 5 1 (.slice A (73 * S.chunks) c) (73 * S.chunks) (intsV .u8 (S.raw k q)) ∧ Below w1.heap.size w1 w') := fun w1 h1 => raw_any h1 k q hk hq
        have HPp := Lib.hid hp
        clear ho hhf hp hhas
        go_enter Tryd.func117, Tryd.ntmps117
        go_wp2_with fail
        refine HB.out.mono ?_
        rintro e w' ⟨rfl, rfl⟩
        go_wp2_with fail
        refine HOf.out.mono ?_
        rintro e w' ⟨rfl, rfl⟩
        go_wp2_with fail
        refine HPg.out.mono ?_
        rintro e w' ⟨rfl, rfl⟩
        go_wp2_with fail
        refine HAd.out.mono ?_
        rintro e w1 ⟨⟨v, rfl⟩, h1, ht⟩
        have H1 := Lib.hid h1
        have HT := Lib.hid ht
        have HR1 := Lib.hid (HRw.out w1 h1)
        clear HB HOf HPg HAd h1 ht HRw
        go_wp2_with fail
        refine HR1.out.mono ?_
        rintro e w2 ⟨A, c, rfl, ho, hb⟩
        have HB2 := Lib.hid hb
        have HO2 := Lib.hid ho
        clear HR1 ho hb
        go_wp2
        refine bodyPost_ret (v := .tuple #[.slice A (73 * S.chunks) c, .int .i64 0]) (by simp [results, Tryd.results117, go_sem]) rfl ⟨H1.out.keep (Turns.of_below HB2.out _), HT.out.then_below HB2.out, fun h => by (cases h), fun _ h => absurd HPp.out h, fun _ _ h => by (cases h), fun _ _ _ => ⟨A, c, rfl, own_mono HO2.out HT.out.size⟩⟩
      · have HPp := Lib.hid hp
        clear ho hhf hp hhas HAd
        go_enter Tryd.func117, Tryd.ntmps117
        go_wp2_with fail
        refine HB.out.mono ?_
        rintro e w' ⟨rfl, rfl⟩
        go_wp2_with fail
        refine HOf.out.mono ?_
        rintro e w' ⟨rfl, rfl⟩
        go_wp2_with fail
        refine HPg.out.mono ?_
        rintro e w' ⟨rfl, rfl⟩
        clear HB HOf HPg
        go_wp2
        refine bodyPost_ret (v := .tuple #[.slice none 0 0, .int .i64 8]) (by simp [results, Tryd.results117, go_sem]) rfl ⟨HH.out, Turns.refl _ _, fun h => by (cases h), fun _ h => absurd HPp.out h, fun _ _ _ => rfl, fun _ _ h => by (cases h)⟩
    · rw [decide_eq_false hp] at HPg
      have HPp := Lib.hid hp
      clear ho hhf hp hhas HAd
      go_enter Tryd.func117, Tryd.ntmps117
      go_wp2_with fail
      refine HB.out.mono ?_
      rintro e w' ⟨rfl, rfl⟩
      go_wp2_with fail
      refine HOf.out.mono ?_
      rintro e w' ⟨rfl, rfl⟩
      go_wp2_with fail
      refine HPg.out.mono ?_
      rintro e w' ⟨rfl, rfl⟩
      clear HB HOf HPg
      go_wp2
      refine bodyPost_ret (v := .tuple #[.slice none 0 0, .int .i64 1]) (by simp [results, Tryd.results117, go_sem]) rfl ⟨HH.out, Turns.refl _ _, fun h => by (cases h), fun _ _ => rfl, fun _ h => absurd h HPp.out, fun _ h => absurd h HPp.out⟩
  · clear ho hhf hhas HAd HPg
    go_enter Tryd.func117, Tryd.ntmps117
    go_wp2_with fail
    refine HB.out.mono ?_
    rintro e w' ⟨rfl, rfl⟩
    go_wp2_with fail
    refine HOf.out.mono ?_
    rintro e w' ⟨rfl, rfl⟩
    clear HB HOf
    go_wp2
    refine bodyPost_ret (v := .tuple #[.slice none 0 0, .int .i64 4]) (by simp [results, Tryd.results117, go_sem]) rfl ⟨HH.out, Turns.refl _ _, fun _ => rfl, fun h => by (cases h), fun h => by (cases h), fun h => by (cases h)⟩
theorem FlIs.frozenL (h : FlIs w B F L P S) (i : Nat) : w.frozen? ⟨L, i, none⟩ = false := by obtain ⟨_, hr⟩ := h.rowL; exact hr.frozen i
theorem FlIs.frozenP (h : FlIs w B F L P S) {k : Nat} (hk : k < S.nb) (i : Nat) : w.frozen? ⟨P k, i, none⟩ = false := by obtain ⟨_, hr⟩ := h.rowP hk; exact hr.frozen i
/-- A mode, of a block that is erased: no answer but 0. -/
theorem Mode_fl (h : FlIs w B F L P S) (k : Nat) (hk : k < S.nb) (one : Bool) (ho : S.off = false) (hf : (S.b k).failed = false) (hh : (S.b k).half = false) (hn : (S.b k).next = 0) :
    Calls Tryd.prog 115 #[.pointer (some ⟨F, 0, none⟩), .int .i64 k, .bool one] w fun e w' => e = .returned (.int .i64 0) ∧ FlIs w' B F L P (S.setB k { S.b k with one := one }) ∧ Turns w w' [L] := by
  have HB := Lib.hid (block_in h k hk)
  have HM := Lib.hid (may_in h k hk true)
  obtain ⟨_, d1, d2, d3, _⟩ := h.cells hk
  have f3 := h.frozenL (k * 5 + 3)
  have hwf := h.ok.wf k hk
  have HF : Hid (FlIs (w.setCell ⟨L, k * 5 + 3, none⟩ (.bool one)) B F L P (S.setB k { S.b k with one := one })) := h.put hk (by omega) _ _ rfl rfl ⟨by show (S.b k).next ≤ _; rw [hn]; omega, hwf.none, hwf.raw⟩
  have HT : Hid (Turns w (w.setCell ⟨L, k * 5 + 3, none⟩ (.bool one)) [L]) := (Turns.refl _ _).setCell (by simp) _
  rw [ho, hf] at HM
  rw [hh] at d2
  rw [hn] at d1
  clear h ho hf hh hn hwf
  go_enter Tryd.func115, Tryd.ntmps115
  go_wp2_with fail
  refine HB.out.mono ?_
  rintro e w' ⟨rfl, rfl⟩
  go_wp2_with fail
  refine HM.out.mono ?_
  rintro e w' ⟨rfl, rfl⟩
  clear HB HM
  go_wp2
  go_ret
  exact ⟨rfl, HF.out, HT.out⟩
theorem Fail_in (h : FlIs w B F L P S) (k : Nat) (hk : k < S.nb) : Calls Tryd.prog 20 #[.pointer (some ⟨F, 0, none⟩), .int .i64 k] w fun e w' => e = .returned (.bool true) ∧ FlIs w' B F L P (S.setB k { S.b k with failed := true }) ∧ Turns w w' [L] := by
  have HB := Lib.hid (block_in h k hk)
  obtain ⟨_, _, _, _, d4⟩ := h.cells hk
  have f4 := h.frozenL (k * 5 + 4)
  have hwf := h.ok.wf k hk
  have HF : Hid (FlIs (w.setCell ⟨L, k * 5 + 4, none⟩ (.bool true)) B F L P (S.setB k { S.b k with failed := true })) := h.put hk (by omega) _ _ rfl rfl ⟨hwf.next, hwf.none, hwf.raw⟩
  have HT : Hid (Turns w (w.setCell ⟨L, k * 5 + 4, none⟩ (.bool true)) [L]) := (Turns.refl _ _).setCell (by simp) _
  clear h hwf
  go_enter Tryd.func20, Tryd.ntmps20
  go_wp2_with fail
  refine HB.out.mono ?_
  rintro e w' ⟨rfl, rfl⟩
  clear HB
  go_wp2
  go_ret
  exact ⟨rfl, HF.out, HT.out⟩
theorem Fail_out (h : FlIs w B F L P S) (k : Int) (hk : k < 0 ∨ S.nb ≤ k) : Calls Tryd.prog 20 #[.pointer (some ⟨F, 0, none⟩), .int .i64 k] w fun e w' => e = .returned (.bool false) ∧ w = w' := by
  have HB := Lib.hid (block_out h k hk)
  clear h
  go_enter Tryd.func20, Tryd.ntmps20
  go_wp2_with fail
  refine HB.out.mono ?_
  rintro e w' ⟨rfl, rfl⟩
  clear HB
  go_wp2
  go_ret
  exact ⟨rfl, rfl⟩
end
end Go.Proofs.YtlidbkofjchnnaaDoor
