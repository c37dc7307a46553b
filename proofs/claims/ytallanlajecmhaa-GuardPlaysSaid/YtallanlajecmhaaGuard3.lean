/- slices.Clone; guard's Lasting, PowerUp. -/
import Derived.Test.YtallanlajecmhaaGuard2
namespace Go.Proofs.Ytallanlajecmhaa
open Go.RowKit
set_option linter.unusedVariables false
set_option linter.unusedSimpArgs false

set_option maxHeartbeats 400000 in
theorem Clone_any (L c : Nat) (l : List Nat) (h0 : 0 < l.length) (hlen : l.length ≤ 1000) (w : World) (hs : Src w 1 (some ⟨L, 0, none⟩) l.length (intsV .u8 l)) :
    Calls Try.prog 29 #[.slice (some ⟨L, 0, none⟩) l.length c] w fun e w' => ∃ L' c', e = .returned (.slice (some ⟨L', 0, none⟩) l.length c') ∧ w'.ownsRow w.heap.size 5 1 (.slice (some ⟨L', 0, none⟩) l.length c') l.length (intsV .u8 l) ∧ Below w.heap.size w w' := by
  obtain ⟨i0, hi, hz0, hz1, hz2⟩ := info_parts u8_info
  have q22 : ∀ (w : World) (a : Option Addr) (n c n' c' : Nat), (binOp .eql 44 (.slice a n c) (.slice none n' c')).run Try.prog w = .ok (.bool a.isNone) w := fun w a n c n' c' => Lib.run_eql_slice_nil w _ _ a n c n' c' Try.underlying44
  have H1 := Lib.hid (intsV_one .u8 l)
  have HO := Lib.hid (World.ownsRow_made (base := w.heap.size) (size := 1) (e := 5) w #[] 0 (Nat.le_refl _) (Nat.zero_le _) rfl)
  have HS := Lib.hid (hs.keep (w' := w.alloc (.cells #[] 5)) (fun a v h => (World.cell?_alloc_lt _ _ _ (World.block_lt_of_cell? w a h)).trans h))
  have HB : Hid (Below w.heap.size w (w.alloc (.cells #[] 5))) := by unfold Hid; (repeat (first | (with_reducible refine Below.drew ?_) | (with_reducible refine below_drewN0 ?_ _) | ((with_reducible refine Below.setCell ?_ ?_ _); rotate_left; focus (first | omega | (simp; done) | (simp; omega) | (simp at *; omega))) | ((with_reducible refine Below.alloc ?_ ?_ _); rotate_left; focus (first | omega | (simp; done) | (simp; omega) | (simp at *; omega))) | (with_reducible exact Below.refl _ _)))
  have b1 : Hid (0 + l.length ≤ maxLen) := by unfold Hid maxLen; omega
  have b2 : Hid ((0 + l.length) * 1 ≤ 140737488355328) := by unfold Hid; omega
  have H0 := Lib.hid h0
  clear hs h0
  generalize intsV .u8 l = xs at *
  generalize l.length = n at *
  go_enter Try.func29, Try.ntmps29
  go_wp2_with (at_builtin; refine wpList_append_src _ rfl _ _ 44 rfl w.heap.size 5 i0 (.int .u8 0) 1 1 Try.underlying44 hi hz0 hz1 hz2 rfl (by decide) _ 0 [] rfl HO.out (some ⟨L, 0, none⟩) n c xs rfl HS.out H1.out b1.out b2.out (by simp) ?_; intro v' w1 hown hgrow hv)
  rw [Nat.zero_add, List.nil_append] at hown
  obtain ⟨L', c', rfl, hLB, hLs, hLn, hLm⟩ := own_at hown H0.out
  have hown := Lib.hid hown
  go_wp2
  go_ret
  refine ⟨L', c', rfl, hown.out, HB.out.grown hgrow (by simp) ?_⟩
  intro k hk
  have : w.heap.size = k := by injection hk
  omega

def lastK (ks : List Nat) : List Nat := ks.map fun x => if x = 2 then 0 else x
theorem lastK_length (ks : List Nat) : (lastK ks).length = ks.length := by simp [lastK]
theorem lastK_get (ks : List Nat) (i : Nat) (hi : i < ks.length) : (lastK ks).getD i 0 = if ks.getD i 0 = 2 then 0 else ks.getD i 0 := by simp [lastK, List.getD, hi]
/-- What lasts, k of them looked at. -/
def lastTo (ks : List Nat) (k : Nat) : List Nat := lastK (ks.take k) ++ ks.drop k
theorem lastTo_zero (ks : List Nat) : lastTo ks 0 = ks := by simp [lastTo, lastK]
theorem lastTo_all (ks : List Nat) : lastTo ks ks.length = lastK ks := by simp [lastTo]
theorem lastTo_length (ks : List Nat) (k : Nat) : (lastTo ks k).length = ks.length := by simp [lastTo, lastK]; omega
theorem lastTo_get (ks : List Nat) (k : Nat) (hk : k < ks.length) : (lastTo ks k).getD k 0 = ks.getD k 0 := by
  have : (lastK (ks.take k)).length = k := by simp [lastK]; omega
  unfold lastTo
  simp only [List.getD]
  rw [List.getElem?_append_right (by omega), this, Nat.sub_self, List.getElem?_drop, Nat.add_zero]
theorem lastTo_succ (ks : List Nat) (k : Nat) (hk : k < ks.length) : lastTo ks (k + 1) = (lastTo ks k).set k (if ks.getD k 0 = 2 then 0 else ks.getD k 0) := by
  have hl : (lastK (ks.take k)).length = k := by simp [lastK]; omega
  have e : ks.getD k 0 = ks[k] := by simp [List.getD, hk]
  have e2 : ∀ (a : List Nat) (x : Nat), lastK (a ++ [x]) = lastK a ++ [if x = 2 then 0 else x] := fun a x => by simp only [lastK, List.map_append, List.map_cons, List.map_nil]
  unfold lastTo
  rw [List.set_append_right _ _ (by omega), hl, Nat.sub_self, List.drop_eq_getElem_cons hk, List.set_cons_zero, List.take_succ_eq_append_getElem hk, e2, e, List.append_assoc]
  rfl
theorem lastTo_same (ks : List Nat) (k : Nat) (hk : k < ks.length) (h : ks.getD k 0 ≠ 2) : lastTo ks (k + 1) = lastTo ks k := by
  rw [lastTo_succ ks k hk, if_neg h]
  apply List.ext_getElem?
  intro i
  by_cases hi : i = k
  · subst hi
    have := lastTo_get ks i hk
    have h2 : i < (lastTo ks i).length := by rw [lastTo_length]; exact hk
    rw [List.getElem?_set_self h2, ← this]
    simp [List.getD, h2]
  · rw [List.getElem?_set_ne (fun e => hi e.symm)]

set_option maxHeartbeats 800000 in
theorem Lasting_any (G L c : Nat) (ks : List Nat) (h0 : 0 < ks.length) (hlen : ks.length ≤ 256) (B : Nat) (w : World) (h : GHeld w B G L c ks) (h4 : ∀ x ∈ ks, x < 4) :
    Calls Try.prog 21 #[.pointer (some ⟨G, 0, none⟩)] w fun e w' => ∃ L' c', e = .returned (.slice (some ⟨L', 0, none⟩) ks.length c') ∧ w'.ownsRow w.heap.size 5 1 (.slice (some ⟨L', 0, none⟩) ks.length c') ks.length (intsV .u8 (lastK ks)) ∧ Below w.heap.size w w' := by
  have hgc := h.cellG
  have HC := Lib.hid (Clone_any L c ks h0 (by omega) w (Src.of_own h.own))
  have H4 := Lib.hid h4
  clear h h4
  go_enter Try.func21, Try.ntmps21
  go_wp2_with fail
  refine HC.out.mono ?_
  rintro e w1 ⟨L', c', rfl, hown, hb⟩
  have hLL := own_at hown h0
  obtain ⟨g, c2, e2, hg0, hg1, hg2, hg3⟩ := hLL
  injection e2 with e2 _ e3
  injection e2 with e2
  injection e2 with e2
  subst e2 e3
  have HB := Lib.hid hb
  clear HC hgc hb
  go_wp2
  go_loopw [13] (fun i wr => ∃ k : Nat, k ≤ ks.length ∧ i = .int .i64 k ∧ wr.ownsRow w.heap.size 5 1 (.slice (some ⟨L', 0, none⟩) ks.length c') ks.length (intsV .u8 (lastTo ks k)) ∧ Below w.heap.size w wr) (fun i _ => ks.length - (intOf i).toNat)
  case atStart => exact ⟨0, by omega, rfl, by rw [lastTo_zero]; exact hown, HB.out⟩
  case round =>
    obtain ⟨k, hk, rfl, hown, hb⟩ := hrel
    have HO := Lib.hid hown
    have HW := Lib.hid hb
    by_cases hkl : k < ks.length
    · have hx := H4.out _ (getD_mem ks k hkl)
      have hc := own_cell hown k (by rw [lastTo_length]; exact hkl)
      rw [lastTo_get ks k hkl] at hc
      have hf := own_thaw hown k
      by_cases h2 : ks.getD k 0 = 2
      · rw [h2] at hc
        have HO2 : Hid ((wr.setCell ⟨L', k, none⟩ (.int .u8 ((0 : Nat) : Int))).ownsRow w.heap.size 5 1 (.slice (some ⟨L', 0, none⟩) ks.length c') ks.length (intsV .u8 (lastTo ks (k + 1)))) := by
          rw [lastTo_succ ks k hkl, if_pos h2]; exact own_put hown k 0 (by rw [lastTo_length]; exact hkl)
        clear hown hb h2 hx HO
        clear H4 h0
        generalize ks.length = n at *
        go_wp2
        go_roundw
        case rel => exact ⟨k + 1, by omega, by go_num, HO2.out, by have hw := HW.out; (have hsz0 := Below.size hw; repeat (first | (with_reducible refine Below.drew ?_) | (with_reducible refine below_drewN0 ?_ _) | ((with_reducible refine Below.setCell ?_ ?_ _); rotate_left; focus (first | omega | (simp; done) | (simp; omega) | (simp at *; omega))) | ((with_reducible refine Below.alloc ?_ ?_ _); rotate_left; focus (first | omega | (simp; done) | (simp; omega) | (simp at *; omega))) | ((with_reducible refine Below.trans ?_ (Below.mono hw ?_)); rotate_left; focus (first | omega | (simp; done) | (simp; omega) | (simp at *; omega))) | (with_reducible exact Below.refl _ _)))⟩
        case measure => simp [intOf]; omega
      · have HO2 : Hid (wr.ownsRow w.heap.size 5 1 (.slice (some ⟨L', 0, none⟩) ks.length c') ks.length (intsV .u8 (lastTo ks (k + 1)))) := by
          rw [lastTo_same ks k hkl h2]; exact hown
        clear hown hb HO
        generalize ks.getD k 0 = x at *
        clear H4 h0
        generalize ks.length = n at *
        go_wp2
        go_roundw
        case rel => exact ⟨k + 1, by omega, by go_num, HO2.out, HW.out⟩
        case measure => simp [intOf]; omega
    · obtain rfl : k = ks.length := by omega
      rw [lastTo_all] at HO
      clear hown hb
      go_wp2
      go_ret
      exact ⟨_, _, rfl, HO.out, HW.out⟩

set_option maxHeartbeats 400000 in
theorem PowerUp_any (G L c : Nat) (ks : List Nat) (h0 : 0 < ks.length) (hlen : ks.length ≤ 256) (B : Nat) (w : World) (h : GHeld w B G L c ks) (h4 : ∀ x ∈ ks, x < 4) :
    Calls Try.prog 12 #[.pointer (some ⟨G, 0, none⟩)] w fun e w' => (∃ v, e = .returned v) ∧ (∃ L' c', GHeld w' B G L' c' (lastK ks)) ∧ Turns w w' [G] := by
  have H := Lib.hid h
  have HL := Lib.hid (Lasting_any G L c ks h0 hlen B w h h4)
  clear h4
  go_enter Try.func12, Try.ntmps12
  go_wp2_with fail
  refine HL.out.mono ?_
  rintro e w1 ⟨L', c', rfl, hown, hb⟩
  have h1 := H.out.below hb
  have hg := h1.cellG
  have ht := h1.thawG
  have hle := H.out.hG
  have hlt := H.out.gLt
  have HF : Hid (GHeld (w1.setCell ⟨G, 0, none⟩ (.slice (some ⟨L', 0, none⟩) ks.length c')) B G L' c' (lastK ks)) := by
    have := h1.field (L' := L') (c' := c') (ks' := lastK ks) (by rw [lastK_length]; exact own_mono hown (by omega)) neG
    rw [lastK_length] at this
    exact this
  have HT : Hid (Turns w (w1.setCell ⟨G, 0, none⟩ (.slice (some ⟨L', 0, none⟩) ks.length c')) [G]) := (Turns.of_below hb [G]).setCell (by simp) _
  clear hown hb h1 hle h H HL
  go_wp2
  go_end0
  exact ⟨⟨_, rfl⟩, ⟨L', c', HF.out⟩, HT.out⟩
end Go.Proofs.Ytallanlajecmhaa
