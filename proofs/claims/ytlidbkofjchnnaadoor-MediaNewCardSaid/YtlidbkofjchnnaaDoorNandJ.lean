/- nand: Erase at a flash, walked. -/
import Derived.Test.YtlidbkofjchnnaaDoorNandI
namespace Go.Proofs.YtlidbkofjchnnaaDoor
open Go.RowKit
set_option linter.unusedVariables false
set_option linter.unusedSimpArgs false

theorem Fl.setB_setB (S : Fl) (k : Nat) (x y : Bk) : (S.setB k x).setB k y = S.setB k y := by
  unfold Fl.setB
  congr 1
  funext i
  split
  · rfl
  · rename_i h; simp [h]
/-- A block that is half erased; erased. -/
def Fl.halfE (S : Fl) (k : Nat) : Fl := S.setB k { S.b k with half := true }
def Fl.wholeE (S : Fl) (k : Nat) : Fl := S.setB k { S.b k with pg := fun _ => none, next := 0, half := false }
section
variable {w w' : World} {B F L : Nat} {P : Nat → Nat} {S : Fl}
theorem FlIs.eqv {T : Fl} (h : FlIs w B F L P S) (e : S = T) : FlIs w B F L P T := e ▸ h
theorem FlIs.half (h : FlIs w B F L P S) {k : Nat} (hk : k < S.nb) (b : Bool) : FlIs (w.setCell ⟨L, k * 5 + 2, none⟩ (.bool b)) B F L P (S.setB k { S.b k with half := b }) ∧ Turns w (w.setCell ⟨L, k * 5 + 2, none⟩ (.bool b)) [L] :=
  ⟨h.put hk (by omega) _ _ rfl rfl ⟨(h.ok.wf k hk).next, (h.ok.wf k hk).none, (h.ok.wf k hk).raw⟩, (Turns.refl _ _).setCell (by simp) _⟩
theorem FlIs.nought (h : FlIs w B F L P S) {k : Nat} (hk : k < S.nb) (hn : ∀ j, (S.b k).pg j = none) : FlIs (w.setCell ⟨L, k * 5 + 1, none⟩ (.int .i64 0)) B F L P (S.setB k { S.b k with next := 0 }) ∧ Turns w (w.setCell ⟨L, k * 5 + 1, none⟩ (.int .i64 0)) [L] :=
  ⟨h.put hk (by omega) _ _ rfl rfl ⟨Nat.zero_le _, fun j _ => hn j, (h.ok.wf k hk).raw⟩, (Turns.refl _ _).setCell (by simp) _⟩
theorem Erase_failed (h : FlIs w B F L P S) (k : Nat) (hk : k < S.nb) (ho : S.off = false) (hf : (S.b k).failed = true) :
    Calls Tryd.prog 114 #[.pointer (some ⟨F, 0, none⟩), .int .i64 k] w fun e w' => e = .returned (.int .i64 7) ∧ w = w' := by
  have HBl := Lib.hid (block_in h k hk)
  have hmy0 := may_in h k hk true
  rw [ho, hf] at hmy0
  have HMy : Hid (Calls Tryd.prog 118 #[.pointer (some ⟨F, 0, none⟩), .pointer (some ⟨L, k * 5, none⟩), .bool true] w fun e w' => e = .returned (.int .i64 7) ∧ w = w') := hmy0
  clear h hmy0 ho hf
  go_enter Tryd.func114, Tryd.ntmps114
  go_wp2_with fail
  refine HBl.out.mono ?_
  rintro e w' ⟨rfl, rfl⟩
  clear HBl
  go_wp2_with fail
  refine HMy.out.mono ?_
  rintro e w' ⟨rfl, rfl⟩
  clear HMy
  go_wp2
  go_ret
  exact ⟨rfl, rfl⟩
/-- What Erase leaves. -/
def ErasePost (w : World) (B F L : Nat) (P : Nat → Nat) (S : Fl) (k : Nat) (e : Ending) (w' : World) : Prop :=
  Turns w w' [F, L, P k] ∧ (S.armed = 1 → e = .returned (.int .i64 4) ∧ FlIs w' B F L P { S with off := true, armed := 0 }) ∧
    (S.armed = 2 → e = .returned (.int .i64 4) ∧ FlIs w' B F L P { S.halfE k with off := true, armed := 0 }) ∧
    (S.armed ≠ 1 → S.armed ≠ 2 → e = .returned (.int .i64 0) ∧ FlIs w' B F L P { S.wholeE k with armed := S.armed - 2 })
set_option maxRecDepth 100000 in
set_option maxHeartbeats 4000000 in
theorem Erase_any (h : FlIs w B F L P S) (k : Nat) (hk : k < S.nb) (ho : S.off = false) (hf : (S.b k).failed = false) :
    Calls Tryd.prog 114 #[.pointer (some ⟨F, 0, none⟩), .int .i64 k] w (ErasePost w B F L P S k) := by
  have HBl := Lib.hid (block_in h k hk)
  have hmy0 := may_in h k hk true
  rw [ho, hf] at hmy0
  have HMy : Hid (Calls Tryd.prog 118 #[.pointer (some ⟨F, 0, none⟩), .pointer (some ⟨L, k * 5, none⟩), .bool true] w fun e w' => e = .returned (.int .i64 0) ∧ w = w') := hmy0
  have HH := Lib.hid h
  have HK := Lib.hid hk
  have HPost : Hid (∀ e w', Turns w w' [F, L, P k] → (S.armed = 1 → e = .returned (.int .i64 4) ∧ FlIs w' B F L P { S with off := true, armed := 0 }) →
    (S.armed = 2 → e = .returned (.int .i64 4) ∧ FlIs w' B F L P { S.halfE k with off := true, armed := 0 }) →
    (S.armed ≠ 1 → S.armed ≠ 2 → e = .returned (.int .i64 0) ∧ FlIs w' B F L P { S.wholeE k with armed := S.armed - 2 }) → ErasePost w B F L P S k e w') := fun e w' a b c d => ⟨a, b, c, d⟩
  have HOf := Lib.hid ho
  clear h hmy0 ho hf hk
  go_enter Tryd.func114, Tryd.ntmps114
  go_wp2_with fail
  refine HBl.out.mono ?_
  rintro e w' ⟨rfl, rfl⟩
  clear HBl
  go_wp2_with fail
  refine HMy.out.mono ?_
  rintro e w' ⟨rfl, rfl⟩
  clear HMy
  go_wp2
  go_loopw [19] (fun iv wr => ∃ (j : Nat) (T : Fl), iv = .int .i64 j ∧ FlIs wr B F L P T ∧ Turns w wr [F, L, P k] ∧ ((j = 0 ∧ T = S) ∨ (j = 1 ∧ S.armed ≠ 1 ∧ T = { S.halfE k with armed := S.armed - 1 }) ∨ (j = 2 ∧ S.armed ≠ 1 ∧ S.armed ≠ 2 ∧ T = { S.setB k { S.b k with half := false } with armed := S.armed - 2 }))) (fun i _ => 2 - (intOf i).toNat)
  case atStart => exact ⟨0, S, rfl, HH.out, Turns.refl _ _, .inl ⟨rfl, rfl⟩⟩
  case round =>
    obtain ⟨j, T, rfl, hT, ht, hj⟩ := hrel
    have HT := Lib.hid ht
    have HTf := Lib.hid hT
    have HSt := Lib.hid (step_fl hT)
    clear hT ht
    rcases hj with ⟨rfl, rfl⟩ | ⟨rfl, hs1, hTe⟩ | ⟨rfl, hs1, hs2, hTe⟩
    · by_cases ha : T.armed = 1
      · rw [decide_eq_false (by omega)] at HSt
        have HA := Lib.hid ha
        clear ha
        go_wp2_with fail
        refine HSt.out.mono ?_
        rintro e w2 ⟨rfl, h2, ht2⟩
        have H2 := Lib.hid h2
        have HT2 := Lib.hid ht2
        clear HSt h2 ht2
        go_wp2
        refine bodyPost_ret (v := .int .i64 4) (by simp [results, Tryd.results114, go_sem]) rfl (HPost.out _ _ (HT.out.trans HT2.out (by simp)) (fun _ => ⟨rfl, H2.out.eqv (by unfold Fl.step; rw [if_pos HA.out])⟩) (fun h => by have := HA.out; omega) (fun h => absurd HA.out h))
      · rw [decide_eq_true ha] at HSt
        have HA := Lib.hid ha
        clear ha
        go_wp2_with fail
        refine HSt.out.mono ?_
        rintro e w2 ⟨rfl, h2, ht2⟩
        have h2' := h2.eqv (T := { T with armed := T.armed - 1 }) (by unfold Fl.step; rw [if_neg HA.out])
        have h3 := h2'.half HK.out true
        have H3 := Lib.hid h3.1
        have HT3 : Hid (Turns w _ [F, L, P k]) := (HT.out.trans ht2 (by simp)).trans h3.2 (by simp)
        have d2 := (h2'.cells HK.out).2.2.1
        have f2 := h2'.frozenL (k * 5 + 2)
        clear HSt h2 ht2 h2' h3 HTf
        go_wp2
        go_roundw
        case rel => exact ⟨1, _, rfl, H3.out, HT3.out, .inr (.inl ⟨rfl, HA.out, rfl⟩)⟩
        case measure => simp [intOf]
    · have HKT : Hid (k < T.nb) := by rw [hTe]; exact HK.out
      have hTa : T.armed = S.armed - 1 := by rw [hTe]
      have HTe := Lib.hid hTe
      have HTa := Lib.hid hTa
      have HS1 := Lib.hid hs1
      by_cases ha : T.armed = 1
      · rw [decide_eq_false (by omega)] at HSt
        have HA := Lib.hid ha
        clear ha hTe hTa hs1
        go_wp2_with fail
        refine HSt.out.mono ?_
        rintro e w2 ⟨rfl, h2, ht2⟩
        have H2 := Lib.hid (h2.eqv (T := { S.halfE k with off := true, armed := 0 }) (by unfold Fl.step; rw [if_pos HA.out, HTe.out]))
        have HT2 := Lib.hid ht2
        clear HSt h2 ht2
        go_wp2
        refine bodyPost_ret (v := .int .i64 4) (by simp [results, Tryd.results114, go_sem]) rfl (HPost.out _ _ (HT.out.trans HT2.out (by simp)) (fun h => absurd h HS1.out) (fun _ => ⟨rfl, H2.out⟩) (fun _ h => by have := HA.out; have := HTa.out; omega))
      · rw [decide_eq_true ha] at HSt
        have HA := Lib.hid ha
        clear ha hTe hTa hs1
        go_wp2_with fail
        refine HSt.out.mono ?_
        rintro e w2 ⟨rfl, h2, ht2⟩
        have h2' := h2.eqv (T := { T with armed := T.armed - 1 }) (by unfold Fl.step; rw [if_neg HA.out])
        have h3 := h2'.half HKT.out false
        have H3 := Lib.hid (h3.1.eqv (T := { S.setB k { S.b k with half := false } with armed := S.armed - 2 }) (by
          rw [HTe.out]
          simp only [Fl.halfE, Fl.setB]
          congr 1
          funext i
          by_cases h : i = k <;> simp [h]))
        have HT3 : Hid (Turns w _ [F, L, P k]) := (HT.out.trans ht2 (by simp)).trans h3.2 (by simp)
        have d2 := (h2'.cells HKT.out).2.2.1
        have f2 := h2'.frozenL (k * 5 + 2)
        clear HSt h2 ht2 h2' h3 HTf
        go_wp2
        go_roundw
        case rel => exact ⟨2, _, rfl, H3.out, HT3.out, .inr (.inr ⟨rfl, HS1.out, fun h => HA.out (by have := HTa.out; omega), rfl⟩)⟩
        case measure => simp [intOf]
    · have HKT : Hid (k < T.nb) := by rw [hTe]; exact HK.out
      have HTe := Lib.hid hTe
      have HS1 := Lib.hid hs1
      have HS2 := Lib.hid hs2
      have d0 := (HTf.out.cells HKT.out).1
      obtain ⟨w2, hrun, h2, ht2⟩ := HTf.out.clear HKT.out 0
      have h3 := h2.nought (k := k) HKT.out (fun j => by rw [Fl.setB_self])
      have d1 := (h2.cells (k := k) HKT.out).2.1
      have f1 := h2.frozenL (k * 5 + 1)
      have HAd := Lib.hid (Add_fl h3.1 8 (by omega))
      have HT3 : Hid (Turns w (w2.setCell ⟨L, k * 5 + 1, none⟩ (.int .i64 0)) [F, L, P k]) := (HT.out.trans ht2 (by simp)).trans h3.2 (by simp)
      have HEq : Hid (((T.setB k { T.b k with pg := fun _ => none }).setB k { (T.setB k { T.b k with pg := fun _ => none }).b k with next := 0 }) = { S.wholeE k with armed := S.armed - 2 }) := by
        unfold Hid
        rw [HTe.out]
        simp only [Fl.wholeE, Fl.setB]
        congr 1
        funext i
        by_cases h : i = k <;> simp [h]
      clear HSt HTf hTe hs1 hs2 h2 ht2 h3
      go_wp2_with fail
      refine HAd.out.mono ?_
      rintro e w4 ⟨⟨v, rfl⟩, h4, ht4⟩
      have H4 := Lib.hid (h4.eqv HEq.out)
      have HT4 := Lib.hid ht4
      clear HAd h4 ht4
      go_wp2
      refine bodyPost_ret (v := .int .i64 0) (by simp [results, Tryd.results114, go_sem]) rfl (HPost.out _ _ (HT3.out.trans HT4.out (by simp)) (fun h => absurd h HS1.out) (fun h => absurd h HS2.out) (fun _ _ => ⟨rfl, H4.out⟩))
end
end Go.Proofs.YtlidbkofjchnnaaDoor
