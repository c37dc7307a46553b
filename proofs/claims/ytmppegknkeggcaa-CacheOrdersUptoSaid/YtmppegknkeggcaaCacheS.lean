/- locketlaw12.known. -/
import Derived.Test.YtmppegknkeggcaaCacheR
namespace Go.Proofs.Ytmppegknkeggcaa
open Go.RowKit
set_option linter.unusedVariables false
set_option linter.unusedSimpArgs false

theorem row_src {w : World} {g : Nat} {l : List Nat} {fr : Nat × Nat} (h : w.heap[g]? = some (.cells (intsV .u8 l).toArray 5 fr)) : Src w 1 (some ⟨g, 0, none⟩) l.length (intsV .u8 l) :=
  ⟨by simp [intsV_length], fun _ => ⟨_, rfl, fun j u hu => by rw [addr_add, Nat.zero_add, cell_of_row w g j _ _ fr h]; simpa using hu⟩⟩
theorem goneP_of (x : It) (k : Int × Int × List Nat) (g0 a s g : Int) (h : x.sees = k) (hg : x.g = g0) : goneP a s g x = decide (g0 = g ∧ k.1 = a ∧ k.2.1 = s) := by
  subst h; subst hg; rfl
theorem dropP_of (x : It) (k : Int × Int × List Nat) (a s : Int) (h : x.sees = k) : dropP a s x = decide (k.1 = a ∧ k.2.1 = s) := by
  subst h; rfl
theorem W64.lit (n : Int) (h : (Lit.int .i64 n).wf = true) : W64 n := h
theorem conv_const (w : World) (C : Array Value) (n c : Nat) : (convert 30 30 (.slice (some ⟨w.heap.size, 0, none⟩) n c)).run Try.prog (w.alloc (.cells C 5)) = .ok (.slice (some ⟨w.heap.size, 0, none⟩) n c) (w.alloc (.cells C 5 (C.size, C.size + 1))) :=
  Lib.run_convert_bytes_const w _ _ C n c Try.underlying30 Try.underlying5
set_option maxHeartbeats 2000000 in
theorem known_any (w : World) : Calls Try.prog 7 #[] w fun e w' => e = .returned (.bool true) ∧ Below w.heap.size w w' := by
  have HN := Lib.hid (CSt.new 2 (by omega) w w (Below.refl _ _))
  go_enter Try.func7, Try.ntmps7
  go_wp2_with fail
  refine HN.out.mono ?_
  rintro e w1 ⟨C, mb, rfl, h1, hb1⟩
  have H1 := Lib.hid h1
  clear HN h1 hb1
  have hcs := conv_const
  go_wp2_with fail
  obtain ⟨w2A, hw2A⟩ : ∃ w2A, w2A = w1.alloc (.cells #[.int .u8 97] 5 (1, 2)) := ⟨_, rfl⟩
  have HRw2 : Hid (w2A.heap[w1.heap.size]? = some (.cells (intsV .u8 [97]).toArray 5 (1, 2))) := by unfold Hid; rw [hw2A]; exact heap_alloc_new _ _
  have HAw2 : Hid (CSt w w2A C mb 2 [] 0) := by unfold Hid; rw [hw2A]; exact H1.out.below ((Below.refl _ _).alloc (Nat.le_refl _) _)
  rw [← hw2A]
  have HPw2 := Lib.hid (HAw2.out.put (by simp) ⟨0, 1, some ⟨w1.heap.size, 0, none⟩, 1, [97], 0⟩ (W64.lit 0 (by decide)) (W64.lit 1 (by decide)) (by simp) (by simp [reachBytes]) (row_src HRw2.out) (fun _ a e => by injection e with e; subst e; exact .inr ⟨_, _, HRw2.out⟩))
  clear hw2A
  refine HPw2.out.mono ?_
  rintro e w2 ⟨Aow2, cow2, outw2, restw2, yw2, rfl, hsew2, hgw2, hspw2, hrw2, hstw2, hseew2⟩
  obtain ⟨rfl, rfl⟩ := split_few hspw2 (by simp) hrw2
  have H2 : Hid (CSt w w2 C mb 2 [yw2] 0) := hstw2
  have HS2 := Lib.hid hsew2
  have HG2 := Lib.hid hgw2
  clear hsew2 hgw2 hspw2 hrw2 hstw2 hseew2 HPw2 HAw2 HRw2 H1
  go_wp2_with fail
  obtain ⟨w3A, hw3A⟩ : ∃ w3A, w3A = w2.alloc (.cells #[.int .u8 98] 5 (1, 2)) := ⟨_, rfl⟩
  have HRw3 : Hid (w3A.heap[w2.heap.size]? = some (.cells (intsV .u8 [98]).toArray 5 (1, 2))) := by unfold Hid; rw [hw3A]; exact heap_alloc_new _ _
  have HAw3 : Hid (CSt w w3A C mb 2 [yw2] 0) := by unfold Hid; rw [hw3A]; exact H2.out.below ((Below.refl _ _).alloc (Nat.le_refl _) _)
  rw [← hw3A]
  have HPw3 := Lib.hid (HAw3.out.put (by simp) ⟨0, 1, some ⟨w2.heap.size, 0, none⟩, 1, [98], 0⟩ (W64.lit 0 (by decide)) (W64.lit 1 (by decide)) (by simp) (by simp [reachBytes]) (row_src HRw3.out) (fun _ a e => by injection e with e; subst e; exact .inr ⟨_, _, HRw3.out⟩))
  clear hw3A
  refine HPw3.out.mono ?_
  rintro e w3 ⟨Aow3, cow3, outw3, restw3, yw3, rfl, hsew3, hgw3, hspw3, hrw3, hstw3, hseew3⟩
  rw [show ([yw2].filter fun z => !goneP 0 1 0 z) = [] by simp [goneP_of yw2 _ _ 0 1 0 HS2.out HG2.out]] at hspw3
  obtain ⟨rfl, rfl⟩ := split_few hspw3 (by simp) hrw3
  have H3 : Hid (CSt w w3 C mb 2 [yw3] 0) := hstw3
  have HS3 := Lib.hid hsew3
  have HG3 := Lib.hid hgw3
  clear hsew3 hgw3 hspw3 hrw3 hstw3 hseew3 HPw3 HAw3 HRw3 H2 HS2 HG2
  have HB3 := Lib.hid (H3.out.barrier (by omega))
  rw [show barG [yw3] 0 = 1 by simp [barG, HG3.out]] at HB3
  go_wp2_with fail
  refine HB3.out.mono ?_
  rintro e w4 ⟨⟨v, rfl⟩, h4⟩
  have H4 := Lib.hid h4
  clear h4 HB3 H3
  go_wp2_with fail
  obtain ⟨w5A, hw5A⟩ : ∃ w5A, w5A = w4.alloc (.cells #[.int .u8 99] 5 (1, 2)) := ⟨_, rfl⟩
  have HRw5 : Hid (w5A.heap[w4.heap.size]? = some (.cells (intsV .u8 [99]).toArray 5 (1, 2))) := by unfold Hid; rw [hw5A]; exact heap_alloc_new _ _
  have HAw5 : Hid (CSt w w5A C mb 2 [yw3] 1) := by unfold Hid; rw [hw5A]; exact H4.out.below ((Below.refl _ _).alloc (Nat.le_refl _) _)
  rw [← hw5A]
  have HPw5 := Lib.hid (HAw5.out.put (by simp) ⟨0, 1, some ⟨w4.heap.size, 0, none⟩, 1, [99], 0⟩ (W64.lit 0 (by decide)) (W64.lit 1 (by decide)) (by simp) (by simp [reachBytes]) (row_src HRw5.out) (fun _ a e => by injection e with e; subst e; exact .inr ⟨_, _, HRw5.out⟩))
  clear hw5A
  refine HPw5.out.mono ?_
  rintro e w5 ⟨Aow5, cow5, outw5, restw5, yw5, rfl, hsew5, hgw5, hspw5, hrw5, hstw5, hseew5⟩
  rw [show ([yw3].filter fun z => !goneP 0 1 1 z) = [yw3] by simp [goneP_of yw3 _ _ 0 1 1 HS3.out HG3.out]] at hspw5
  obtain ⟨rfl, rfl⟩ := split_few hspw5 (by simp) hrw5
  have H5 : Hid (CSt w w5 C mb 2 [yw3, yw5] 1) := hstw5
  have HS5 := Lib.hid hsew5
  have HG5 := Lib.hid hgw5
  clear hsew5 hgw5 hspw5 hrw5 hstw5 hseew5 HPw5 HAw5 HRw5 H4
  have HP6 := Lib.hid (H5.out.put (by simp) ⟨0, 2, none, 0, [], 0⟩ (W64.lit 0 (by decide)) (W64.lit 2 (by decide)) (by simp) (by simp [reachBytes]) ⟨rfl, by simp⟩ (fun h => by simp at h))
  go_wp2_with fail
  refine HP6.out.mono ?_
  rintro e w6 ⟨Ao, co, out, rest, y6, rfl, hse, hg, hsp, hr, hst, hsee⟩
  rw [show ([yw3, yw5].filter fun z => !goneP 0 2 1 z) = [yw3, yw5] by simp [goneP_of yw3 _ _ 0 2 1 HS3.out HG3.out, goneP_of yw5 _ _ 0 2 1 HS5.out HG5.out]] at hsp
  obtain ⟨rfl, rfl⟩ := split_over hsp (by simp) hr
  have H6 : Hid (CSt w w6 C mb 2 [yw5, y6] 1) := hst
  have HS6 := Lib.hid hse
  have HG6 := Lib.hid hg
  have HSee := Lib.hid hsee
  clear hse hg hsp hr hst hsee HP6 H5
  have HGet := Lib.hid (H6.out.get (W64.lit 0 (by decide)) (W64.lit 1 (by decide)))
  have HFind : Hid ([yw5, y6].reverse.find? (dropP 0 1) = some yw5) := by simp [Hid, dropP_of yw5 _ 0 1 HS5.out, dropP_of y6 _ 0 1 HS6.out]
  go_wp2_with fail
  refine HGet.out.mono ?_
  rintro e w7 ⟨⟨hpost, hb7⟩, h7⟩
  rw [HFind.out] at hpost
  obtain ⟨A', c', rfl, hown⟩ := hpost
  have H7 := Lib.hid h7
  obtain ⟨⟨b, off, rfl, hc⟩, hl⟩ := (HSee.out.keep (keep_below hb7)).at0 0 yw3 rfl
  have c2 := hc 2 _ rfl
  have e3 : yw3.l = [98] := congrArg (fun z => z.2.2) HS3.out
  have e5 : yw5.l = [99] := congrArg (fun z => z.2.2) HS5.out
  have cv1 : (convert 30 9 (.slice yw3.A 1 yw3.c)).run Try.prog w7 = .ok (.string { data := #[98] }) w7 := by
    have := conv_text (w := w7) (c := yw3.c) hl
    rw [e3, show textOf [98] = { data := #[98] } from by decide +kernel] at this; exact this
  have cv2 : (convert 30 9 (.slice A' 1 c')).run Try.prog w7 = .ok (.string { data := #[99] }) w7 := by
    have hd : DatIs w7 w6.heap.size (.slice A' yw5.l.length c') yw5.l := ⟨by rw [e5]; simp, by rw [e5]; simp [reachBytes], hown⟩
    have := conv_text (w := w7) (A := A') (c := c') (l := yw5.l) (DatIs.lies hd)
    rw [e5, show textOf [99] = { data := #[99] } from by decide +kernel] at this; exact this
  have HGr := Lib.hid (H7.out.groups)
  have HGn : Hid (grps [yw5, y6] = 1) := by simp [Hid, grps, gno, HG5.out, HG6.out]
  rw [HGn.out] at HGr
  rw [e5]
  rw [e3] at c2
  clear HGet hb7 h7 hc hl e3 e5 hown
  go_wp2_with fail
  refine HGr.out.mono ?_
  rintro e w8 ⟨rfl, h8⟩
  have H8 := Lib.hid h8
  have HL8 := Lib.hid (h8.len 2 rfl)
  clear HGr h8 cv1 cv2 c2
  go_wp2_with fail
  refine HL8.out.mono ?_
  rintro e w9 ⟨rfl, rfl⟩
  clear HL8
  go_wp2
  go_ret
  exact ⟨rfl, H8.out.bel⟩
end Go.Proofs.Ytmppegknkeggcaa
