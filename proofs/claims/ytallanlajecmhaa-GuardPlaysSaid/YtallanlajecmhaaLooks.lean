/- locketlaw14.looks: the two tell the same. -/
import Derived.Test.YtallanlajecmhaaRefGuard3
import Derived.Test.YtallanlajecmhaaQuietRound
import Derived.RangeFuncNested
import Derived.RangeFuncBound
import Derived.RangeFuncCalls
import Derived.RangeFuncLeaves
import Derived.Shelf.Abstract
import Derived.Shelf.RegionOpen
import Derived.OwnWalkIn
import Derived.TacticsInMore
import Derived.LoopNIn
import Derived.LoopIn
import Derived.Sort.QuietIn
import Derived.Deep.RegionHeldLaw
import Derived.Outline
namespace Go.Proofs.Ytallanlajecmhaa
open Go.RowKit Go.Shelf Go.BigFrame
attribute [local go_sem] Oper.semAt_some
set_option linter.unusedVariables false
set_option linter.unusedSimpArgs false

/-- The text of some bytes. -/
def textOf (l : List Nat) : ByteArray := (l.map fun (x : Nat) => (x : Int)).foldl (fun r n => r.push (UInt8.ofNat n.toNat)) ByteArray.empty
theorem own_text {w : World} {B L n c : Nat} {l : List Nat} (h : w.ownsRow B 5 1 (.slice (some ⟨L, 0, none⟩) n c) n (intsV .u8 l)) : (convert 44 9 (.slice (some ⟨L, 0, none⟩) n c)).run Try.prog w = .ok (.string (textOf l)) w := by
  have hn : n = l.length := by have := h.1; rw [intsV_length, Nat.mul_one] at this; exact this.symm
  rw [run_convert_bytes_string w _ _ 5 _ _ _ Try.underlying44 Try.underlying5 Try.underlying9]
  refine run_bytesToString w _ _ _ _ ?_
  have h2 := run_loadCells_list (P := Try.prog) w ⟨L, 0, none⟩ (intsV .u8 l) (fun j v hv => h.cells (g := L) rfl j v hv)
  rw [intsV_length, ← hn] at h2
  rw [h2]; congr 1
  simp [intsV]

theorem row_one {w : World} {g : Nat} {t : TypeId} {v : Value} (h : Row w g t #[v]) (u : Value) : Row (w.setCell ⟨g, 0, none⟩ u) g t #[u] := by simpa using h.put 0 u
theorem cell_one_put {w : World} {g : Nat} {t : TypeId} {v : Value} (h : Row w g t #[v]) (u : Value) : (w.setCell ⟨g, 0, none⟩ u).cell? ⟨g, 0, none⟩ = some u := by rw [(row_one h u).cell]; rfl
theorem keeps_drewN (W : World) (n : Nat) : KeepsOthers W (W.drewN n) := ⟨Nat.le_refl _, fun _ _ h _ => h⟩
/-- Groups that are free between two places: nothing comes of them. -/
theorem evs_skip (f : Nat → Nat) (p : Nat) : ∀ q, p ≤ q → (∀ j, p ≤ j → j < q → f j = 0) → evs f q = evs f p
  | 0, h, _ => by have : p = 0 := by omega
                  subst this; rfl
  | q + 1, h, hz => by
    by_cases hq : p = q + 1
    · subst hq; rfl
    · rw [evs_no f q (hz q (by omega) (by omega)), evs_skip f p q (by omega) (fun j h1 h2 => hz j h1 (by omega))]
theorem evs_prefix (f : Nat → Nat) (p : Nat) : ∀ q, p ≤ q → evs f p <+: evs f q
  | 0, h => by have : p = 0 := by omega
               subst this; exact List.prefix_refl _
  | q + 1, h => by
    by_cases hq : p = q + 1
    · subst hq; exact List.prefix_refl _
    · refine (evs_prefix f p q (by omega)).trans ?_
      rw [show evs f (q + 1) = evs f q ++ _ from rfl]
      exact List.prefix_append _ _
/-- What has come is no beginning of what comes. -/
theorem evs_not (f : Nat → Nat) (len p q : Nat) (x : Ev) (hpq : p ≤ q) (hq : q ≤ len) (hz : ∀ j, p ≤ j → j < q → f j = 0) (hne : q = len ∨ (q < len ∧ f q ≠ 0 ∧ (q < 256 ∧ f q < 4) ∧ x.1 ≠ (q, f q))) : ¬ ∃ r, r ≤ len ∧ evs f p ++ [x] = evs f r := by
  rintro ⟨r, hr, he⟩
  have e0 := evs_skip f p q hpq hz
  rw [← e0] at he
  have hlen := congrArg List.length he
  simp only [List.length_append, List.length_cons, List.length_nil] at hlen
  rcases hne with rfl | ⟨h1, h2, h3, h4⟩
  · have := (evs_prefix f r q hr).length_le
    omega
  · by_cases hrq : r ≤ q
    · have := (evs_prefix f r q hrq).length_le
      omega
    · have hp := evs_prefix f (q + 1) r (by omega)
      rw [evs_yes f q h2 h3, ← he] at hp
      have := List.prefix_append_right_inj (evs f q) |>.1 hp
      simp only [List.prefix_cons_inj, List.cons_prefix_cons] at this
      exact h4 (by rw [← this.1])

/-- Where nothing more comes, all is free. -/
theorem evs_zero (f : Nat → Nat) (len p : Nat) (h : evs f len = evs f p) (hlen : len ≤ 256) (hf : ∀ j, j < len → f j < 4) (j : Nat) (h1 : p ≤ j) (h2 : j < len) : f j = 0 := by
  by_cases hz : f j = 0
  · exact hz
  · have e1 := (evs_prefix f p j h1).length_le
    have e2 := (evs_prefix f (j + 1) len (by omega)).length_le
    rw [evs_yes f j hz ⟨by omega, hf j h2⟩, List.length_append, List.length_cons, h] at e2
    omega
set_option maxRecDepth 100000 in
set_option maxHeartbeats 4000000 in
theorem looks_any {n : Nat} (h0 : 0 < n) (hn : n ≤ 256) (G L c R M d : Nat) (ks : List Nat) (k : Int) (B B' : Nat) (w : World) (hg : GHeld w B G L c ks) (hr : RHeld w B' R M d ks) (hk : Kinds n ks) :
    Calls Try.prog 22 #[.pointer (some ⟨G, 0, none⟩), .pointer (some ⟨R, 0, none⟩), .int .i64 k] w fun e w' => e = .returned (.bool true) ∧ Below w.heap.size w w' := by
  have HG := Lib.hid hg
  have HR := Lib.hid hr
  have HK := Lib.hid hk
  clear hg hr hk
  refine (callsIn_wide (n := 3)).1 (callsIn_of_wp_marks Try.func22 rfl trivial ?_ rfl)
  simp only [Try.ntmps22, List.size_toArray, List.length_cons, List.length_nil, Nat.reduceAdd, Nat.reduceSub, Array.replicate_succ, Array.replicate_zero, List.push_toArray, List.append_toArray, List.nil_append, List.cons_append]
  refine wpIn_wide.2 ?_
  go_wp2
  obtain ⟨w0, hw0⟩ : ∃ w0, w0 = (w.alloc (.cells #[.pointer (some ⟨R, 0, none⟩)] 39)).alloc (.cells #[.bool false] 4) := ⟨_, rfl⟩
  have HB0 : Hid (Below w.heap.size w w0) := by unfold Hid; rw [hw0]; (repeat (first | (with_reducible refine Below.drew ?_) | (with_reducible refine below_drewN0 ?_ _) | ((with_reducible refine Below.setCell ?_ ?_ _); rotate_left; focus (first | omega | (simp; done) | (simp; omega) | (simp at *; omega))) | ((with_reducible refine Below.alloc ?_ ?_ _); rotate_left; focus (first | omega | (simp; done) | (simp; omega) | (simp at *; omega))) | (with_reducible exact Below.refl _ _)))
  have HR0 : Hid (Row w0 w.heap.size 39 #[.pointer (some ⟨R, 0, none⟩)]) := by unfold Hid; rw [hw0]; exact (Row.fresh w _ _).alloc _
  have HR1 : Hid (Row w0 (w.heap.size + 1) 4 #[.bool false]) := by
    unfold Hid; rw [hw0]
    have := Row.fresh (w.alloc (.cells #[.pointer (some ⟨R, 0, none⟩)] 39)) 4 #[.bool false]
    rw [World.size_alloc] at this
    exact this
  have hsz0 : w0.heap.size = w.heap.size + 1 + 1 := by rw [hw0]; simp
  rw [← hw0]
  have HG0 : Hid (GHeld w0 B G L c ks) := HG.out.below HB0.out
  have HRR0 : Hid (RHeld w0 B' R M d ks) := HR.out.below HB0.out
  clear hw0
  have hks : ks.length ≤ 256 := by rw [HK.out.1]; exact hn
  have hks0 : 0 < ks.length := by rw [HK.out.1]; exact h0
  have HcR : ∀ t : Later w0, t.u.cell? ⟨w.heap.size, 0, none⟩ = some (.pointer (some ⟨R, 0, none⟩)) := fun t => by
    rw [((HR0.out.below t.h HR0.out.lt).cell 0)]; simp
  have HK1 : Hid (∀ t : Later w0, Calls Try.prog 14 #[.pointer (some ⟨G, 0, none⟩), .int .i64 k] t.u fun e w' => e = .returned (.int .i64 (if 0 ≤ k ∧ k < ks.length then (ks.getD k.toNat 0 : Nat) else 0)) ∧ t.u = w') := fun t => Kind_any G L c ks hks k _ t.u (HG0.out.below t.h) HK.out.2
  have hkk : ((if 0 ≤ k ∧ k < ks.length then ((ks.getD k.toNat 0 : Nat) : Int) else 0 : Int)) = (kindK ks k : Nat) := by
    unfold kindK; by_cases hc : inR ks k
    · rw [if_pos hc, if_pos (show 0 ≤ k ∧ k < ks.length from hc)]
    · rw [if_neg hc, if_neg (show ¬ (0 ≤ k ∧ k < ks.length) from hc)]; rfl
  rw [hkk] at HK1
  clear hkk
  have HK2 : Hid (∀ t : Later w0, Calls Try.prog 30 #[.pointer (some ⟨R, 0, none⟩), .int .i64 k] t.u fun e w' => e = .returned (.int .i64 (kindK ks k : Nat)) ∧ t.u = w') := fun t => refKind_any hn R M d ks k _ t.u (HRR0.out.below t.h) HK.out
  have HM1 : Hid (∀ t : Later w0, Calls Try.prog 13 #[.pointer (some ⟨G, 0, none⟩), .int .i64 k] t.u fun e w' => e = .returned (.bool (decide ((0 ≤ k ∧ k < ks.length) ∧ ks.getD k.toNat 0 = 0))) ∧ t.u = w') := fun t => May_any G L c ks hks k _ t.u (HG0.out.below t.h) HK.out.2
  have HM2 : Hid (∀ t : Later w0, Calls Try.prog 31 #[.pointer (some ⟨R, 0, none⟩), .int .i64 k] t.u fun e w' => e = .returned (.bool (decide ((0 ≤ k ∧ k < ks.length) ∧ ks.getD k.toNat 0 = 0))) ∧ t.u = w') := fun t => refMay_any hn R M d ks k _ t.u (HRR0.out.below t.h) HK.out
  have HT1 : Hid (∀ t : Later w0, Calls Try.prog 15 #[.pointer (some ⟨G, 0, none⟩), .int .i64 k] t.u fun e w' => e = .returned (.int .u32 (bitsK k ks : Nat)) ∧ Below t.u.heap.size t.u w') := fun t => Bits_any G L c ks hks0 hks k _ t.u (HG0.out.below t.h) HK.out.2
  have HT2 : Hid (∀ t : Later w0, Calls Try.prog 32 #[.pointer (some ⟨R, 0, none⟩), .int .i64 k] t.u fun e w' => e = .returned (.int .u32 (bitsK k ks : Nat)) ∧ t.u = w') := fun t => refBits_any hn R M d ks k _ t.u (HRR0.out.below t.h) HK.out
  have HL1 : Hid (∀ t : Later w0, Calls Try.prog 21 #[.pointer (some ⟨G, 0, none⟩)] t.u fun e w' => ∃ L1 c1, e = .returned (.slice (some ⟨L1, 0, none⟩) ks.length c1) ∧ ∃ t' : Later w0, w' = t'.u ∧ ∀ t'' : Later w0, Below t'.u.heap.size t'.u t''.u → (convert 44 9 (.slice (some ⟨L1, 0, none⟩) ks.length c1)).run Try.prog t''.u = .ok (.string (textOf (lastK ks))) t''.u) := fun t =>
    (Lasting_any G L c ks hks0 hks _ t.u (HG0.out.below t.h) HK.out.2).mono fun e w' ⟨L1, c1, he, ho, hb⟩ => ⟨L1, c1, he, ⟨w', t.h.trans (hb.mono t.h.size)⟩, rfl, fun t'' hb' => own_text (own_below ho hb')⟩
  have HL2 : Hid (∀ t : Later w0, Calls Try.prog 33 #[.pointer (some ⟨R, 0, none⟩)] t.u fun e w' => ∃ L1 c1, e = .returned (.slice (some ⟨L1, 0, none⟩) ks.length c1) ∧ ∃ t' : Later w0, w' = t'.u ∧ Below t.u.heap.size t.u t'.u ∧ (convert 44 9 (.slice (some ⟨L1, 0, none⟩) ks.length c1)).run Try.prog t'.u = .ok (.string (textOf (lastK ks))) t'.u) := fun t =>
    (refLasting_any h0 hn R M d ks _ t.u (HRR0.out.below t.h) HK.out).mono fun e w' ⟨L1, c1, he, ho, hb⟩ => ⟨L1, c1, he, ⟨w', t.h.trans (hb.mono t.h.size)⟩, rfl, hb, own_text ho⟩
  generalize textOf (lastK ks) = S at *
  generalize bitsK k ks = β at *
  generalize kindK ks k = κ at *
  generalize decide ((0 ≤ k ∧ k < ks.length) ∧ ks.getD k.toNat 0 = 0) = μ at *
  have hc0 : w0.drew.cell? ⟨w.heap.size, 0, none⟩ = some (.pointer (some ⟨R, 0, none⟩)) := HcR ⟨w0.drew, (Below.refl _ _).drew⟩
  refine wp_region_noPanic ?_
  go_region_held_law (fun w' => w'.cell? ⟨w.heap.size, 0, none⟩ = some (.pointer (some ⟨R, 0, none⟩))) (first | exact hc0 | exact HcR _)
    (first | (go_at_call 14; refine (Later.same (HK1.out ⟨w0.drew, (Below.refl _ _).drew⟩)).mono ?_; rintro e w' ⟨rfl, t', rfl⟩) | (go_at_call 30; refine (Later.same (HK2.out _)).mono ?_; rintro e w' ⟨rfl, t', rfl⟩) | (go_at_call 13; refine (Later.same (HM1.out _)).mono ?_; rintro e w' ⟨rfl, t', rfl⟩) | (go_at_call 31; refine (Later.same (HM2.out _)).mono ?_; rintro e w' ⟨rfl, t', rfl⟩) | (go_at_call 15; refine (Later.call (HT1.out _)).mono ?_; rintro e w' ⟨rfl, t', rfl⟩) | (go_at_call 32; refine (Later.same (HT2.out _)).mono ?_; rintro e w' ⟨rfl, t', rfl⟩) | (go_at_call 21; refine (HL1.out _).mono ?_; rintro e w' ⟨L1, c1, rfl, t', rfl, hcv⟩; have hcv0 := hcv t' (Below.refl _ _)) | (go_at_call 33; refine (HL2.out _).mono ?_; rintro e w' ⟨L2, c2, rfl, t2, rfl, hbt, hcv2⟩; have hcv1 := hcv t2 hbt))
  all_goals
    refine NoPanic.normal ?_
    have HB2 : Hid (Below w.heap.size w t2.u) := HB0.out.trans (t2.h.mono HB0.out.size)
    have HG2 : Hid (GHeld t2.u B G L c ks) := HG0.out.below t2.h
    have HRa : Hid (Row t2.u w.heap.size 39 #[.pointer (some ⟨R, 0, none⟩)]) := HR0.out.below t2.h HR0.out.lt
    have HRb : Hid (Row t2.u (w.heap.size + 1) 4 #[.bool false]) := HR1.out.below t2.h HR1.out.lt
    have hsz2 : w.heap.size + 2 ≤ t2.u.heap.size := by have := t2.h.size; omega
    clear hcv hcv0 hcv1 hcv2 hbt HK1 HK2 HM1 HM2 HT1 HT2 HL1 HL2 HcR hc0 HG0 HRR0 HR0 HR1
    generalize t2.u = W0 at *
    go_wp2_with (go_at_call 26; refine (All_any G L c ks hks0 hks _ _ (HG2.out.alloc _)).mono ?_; rintro e w1 ⟨Bx, L', c', rfl, hBx, hr, ho, hb⟩)
    have hA0 : Row w1 W0.heap.size 3 #[.int .i64 0] := (Row.fresh W0 _ _).below hb (by simp)
    have hRa1 : Row w1 w.heap.size 39 #[.pointer (some ⟨R, 0, none⟩)] := (HRa.out.alloc _).below hb (by simp; omega)
    have hRb1 : Row w1 (w.heap.size + 1) 4 #[.bool false] := (HRb.out.alloc _).below hb (by simp; omega)
    have hB1 : Below w.heap.size w w1 := (HB2.out.alloc HB2.out.size _).trans (hb.mono (by simp; omega))
    have hsz1 : W0.heap.size + 1 ≤ w1.heap.size := by have := hb.size; simp at this; omega
    have hLo : W0.heap.size + 1 ≤ L' ∧ L' < w1.heap.size := by
      obtain ⟨g, c2, e2, hg0, hg1, hg2, hg3⟩ := own_at ho hks0
      injection e2 with e2 _ e3
      injection e2 with e2
      injection e2 with e2
      simp at hg0
      omega
    obtain ⟨f, hf⟩ : ∃ f : Nat → Nat, (fun j => ks.getD j 0) = f := ⟨_, rfl⟩
    have hst := All_stops Fence.wide 2 trivial rfl (by omega) Bx L' c' _ ks hks HK.out.2 w1 hr ho
    rw [hf] at hst
    refine (wpIn_wide (n := 3)).1 ?_
    refine' wpIn_rangeFunc_ownF rfl (by omega) (gf := 34) (lb := #[.pointer (some ⟨Bx, 0, none⟩)]) rfl trivial (enters_of Try.func34 (by kernel_rfl) rfl)
      hst (fun h k => Eq.trans k h) (fun W l o o' hl h _ _ => by
        have : l ≠ L' := by omega
        exact World.putObj_heap_other (fun e => this e.symm)) (Below.refl _ _) (fun _ => rfl)
      (fun pre W => ((∃ p, p ≤ ks.length ∧ pre = evs f p ∧ Row W W0.heap.size 3 #[.int .i64 (p : Nat)]) ∧ Row W w.heap.size 39 #[.pointer (some ⟨R, 0, none⟩)] ∧ Row W (w.heap.size + 1) 4 #[.bool false]) ∧ Below w.heap.size w W)
      (fun c pre _ => c = .ret ∧ ¬ ∃ r, r ≤ ks.length ∧ pre = evs f r)
      (OwnFrom.and (Own.from (fun s A B row hs hg hr => ⟨by obtain ⟨p, h1, h2, h3⟩ := hs.1; exact ⟨p, h1, h2, h3.kept hg hr⟩, hs.2.1.kept hg hr, hs.2.2.kept hg hr⟩) _) (ownFrom_below (Nat.le_refl _) (by omega)))
      (fun _ _ _ _ _ hs _ _ => hs)
      ⟨⟨⟨0, by omega, rfl, hA0⟩, hRa1, hRb1⟩, hB1⟩
      _ ?assign ?body ?done ?stop
    case assign =>
      intro l x W K hK
      gi_wp2
      exact hK
    case body =>
      rintro l pre x W ⟨⟨⟨p, hp, rfl, hRat⟩, hRp, hRb⟩, hB⟩ _
      obtain ⟨⟨g, kd⟩, hg256, hk4⟩ := x
      simp only at hg256 hk4
      have HRat := Lib.hid hRat
      have HRp := Lib.hid hRp
      have HRb := Lib.hid hRb
      have HBW := Lib.hid hB
      have HF : Hid (∀ j, f j = ks.getD j 0) := fun j => by rw [← hf]
      clear hRat hRp hRb hB hb ho hr hst hB1 hRa1 hRb1 hA0 hf
      gi_wp2
      gi_loopw [48] (fun v wr => ∃ q, p ≤ q ∧ q ≤ ks.length ∧ (∀ j, p ≤ j → j < q → f j = 0) ∧ Row wr W0.heap.size 3 #[.int .i64 (q : Nat)] ∧ Row wr w.heap.size 39 #[.pointer (some ⟨R, 0, none⟩)] ∧ Row wr (w.heap.size + 1) 4 #[.bool false] ∧ Below w.heap.size w wr ∧ KeepsOthers W wr ∧ keepB L' W wr) (fun v wr => ks.length - (match wr.cell? ⟨W0.heap.size, 0, none⟩ with | some (.int _ z) => z.toNat | _ => 0))
      case atStart => exact ⟨p, Nat.le_refl _, hp, fun j h1 h2 => by omega, HRat.out, HRp.out, HRb.out, HBW.out, KeepsOthers.refl _, rfl⟩
      case round =>
        obtain ⟨q, hpq, hq, hz, hRat', hRp', hRb', hB', hK', hL'⟩ := hrel
        have hr' := HR.out.below hB'
        have c1 := hRat'.cell 0
        have c2 := hRp'.cell 0
        have c3 := hr'.cellG
        have f1 := hRat'.frozen 0
        have c5 := hRb'.cell 0
        have f5 := hRb'.frozen 0
        simp at c1 c2 c5
        have Hz : Hid (∀ j, p ≤ j → j < q → f j = 0) := hz
        have HRat' := Lib.hid hRat'
        have HRp' := Lib.hid hRp'
        have HRb' := Lib.hid hRb'
        have HK' := Lib.hid hK'
        have HL' : Hid (keepB L' W wr) := hL'
        have HB' := Lib.hid hB'
        have hK4 := HK.out.2
        have hLneA : L' ≠ W0.heap.size := by omega
        by_cases hql : q < ks.length
        · have c4 := hr'.cell q hql
          have hq4 : ks.getD q 0 < 4 := hK4 _ (getD_mem _ _ hql)
          have hfq := HF.out q
          clear hz hRat' hRp' hRb' hK' hL' hB' hr'
          by_cases h0q : ks.getD q 0 = 0
          · rw [h0q] at c4 hfq
            have HN : Hid (∀ (W' : World) (nq : Nat), W' = (wr.drewN nq).setCell ⟨W0.heap.size, 0, none⟩ (.int .i64 ((q : Int) + 1)) → ∃ q', p ≤ q' ∧ q' ≤ ks.length ∧ (∀ j, p ≤ j → j < q' → f j = 0) ∧ Row W' W0.heap.size 3 #[.int .i64 (q' : Nat)] ∧ Row W' w.heap.size 39 #[.pointer (some ⟨R, 0, none⟩)] ∧ Row W' (w.heap.size + 1) 4 #[.bool false] ∧ Below w.heap.size w W' ∧ KeepsOthers W W' ∧ keepB L' W W') := by
              rintro W' nq rfl
              refine ⟨q + 1, by omega, by omega, fun j h1 h2 => ?_, row_one (HRat'.out.drewN nq) _, (HRp'.out.drewN nq).far (by simp; omega) _, (HRb'.out.drewN nq).far (by simp; omega) _, (below_drewN0 HB'.out nq).setCell (by simp; omega) _, (HK'.out.trans (keeps_drewN _ _)).trans (KeepsOthers.setCell _ _ _), (Below.heap_setCell _ _ _ _ (by simpa using hLneA)).trans HL'.out⟩
              by_cases hj : j = q
              · rw [hj]; exact hfq
              · exact Hz.out j h1 (by omega)
            have HME : Hid (∀ nq u, ((wr.drewN nq).setCell ⟨W0.heap.size, 0, none⟩ u).cell? ⟨W0.heap.size, 0, none⟩ = some u) := fun nq u => cell_one_put (HRat'.out.drewN nq) u
            clear HRat HRp HRb HBW hq4 h0q hfq Hz HRat' HRp' HRb' HK' HL' HB'
            gi_wp2
            (refine wpIn_region_quiet_round_lit (by kernel_rfl) (by kernel_rfl) (by kernel_rfl) ?_; (repeat (gi_big_quiet_step (fail))); refine wpQuietIn_nil ?_; intro _ hw'; obtain ⟨nq, hw''⟩ := hw'; subst hw'')
            gi_wp2
            go_roundw
            case rel => exact HN.out _ nq rfl
            case measure => rw [HME.out, c1]; simp; omega
          · have h0n : ((ks.getD q 0 : Nat) : Int) ≠ 0 := by omega
            have hge1 : decide (ks.length ≤ q) = false := by simp; omega
            have hge2 : decide ((ks.length : Int) ≤ (q : Int)) = false := by simp; omega
            have hq256 : q < 256 := by omega
            have HSk : Hid (evs f q = evs f p) := evs_skip f p q hpq Hz.out
            have HNot : Hid (∀ x : Ev, x.1 ≠ (q, f q) → ¬ ∃ r, r ≤ ks.length ∧ evs f p ++ [x] = evs f r) := fun x hx => evs_not f ks.length p q x hpq hq Hz.out (.inr ⟨hql, by rw [hfq]; exact h0q, ⟨hq256, by rw [hfq]; exact hq4⟩, hx⟩)
            have HLv : Hid (∀ nq, KeepsOthers W ((wr.drewN nq).setCell ⟨w.heap.size + 1, 0, none⟩ (.bool false))) := fun nq => (HK'.out.trans (keeps_drewN _ _)).trans (KeepsOthers.setCell _ _ _)
            clear HRat HRp HRb HBW
            generalize ks.getD q 0 = x at *
            by_cases hgq : g = q
            · subst hgq
              by_cases hkx : kd = x
              · subst hkx
                have HN : Hid (∀ (W' : World) (nq : Nat), W' = (wr.drewN nq).setCell ⟨W0.heap.size, 0, none⟩ (.int .i64 ((g : Int) + 1)) → KeepsOthers W W' ∧ keepB L' W W' ∧ ((∃ p', p' ≤ ks.length ∧ evs f p ++ [⟨(g, kd), hg256, hk4⟩] = evs f p' ∧ Row W' W0.heap.size 3 #[.int .i64 (p' : Nat)]) ∧ Row W' w.heap.size 39 #[.pointer (some ⟨R, 0, none⟩)] ∧ Row W' (w.heap.size + 1) 4 #[.bool false]) ∧ Below w.heap.size w W') := by
                  rintro W' nq rfl
                  refine ⟨(HK'.out.trans (keeps_drewN _ _)).trans (KeepsOthers.setCell _ _ _), (Below.heap_setCell _ _ _ _ (by simpa using hLneA)).trans HL'.out, ⟨⟨g + 1, by omega, ?_, row_one (HRat'.out.drewN nq) _⟩, (HRp'.out.drewN nq).far (by simp; omega) _, (HRb'.out.drewN nq).far (by simp; omega) _⟩, (below_drewN0 HB'.out nq).setCell (by simp; omega) _⟩
                  rw [evs_yes f g (by rw [hfq]; exact h0q) ⟨hg256, by rw [hfq]; exact hk4⟩, HSk.out]
                  simp [hfq]
                clear HSk HNot HLv HRat' HRp' HRb' HK' HL' HB' Hz hfq
                gi_wp2
                (refine wpIn_region_quiet_round_lit (by kernel_rfl) (by kernel_rfl) (by kernel_rfl) ?_; (repeat (gi_big_quiet_step (fail))); refine wpQuietIn_nil ?_; intro _ hw'; obtain ⟨nq, hw''⟩ := hw'; subst hw'')
                gi_wp2
                (refine wpIn_region_quiet_round_lit (by kernel_rfl) (by kernel_rfl) (by kernel_rfl) ?_; (repeat (gi_big_quiet_step (fail))); refine wpQuietIn_nil ?_; intro _ hw'; obtain ⟨nq, hw''⟩ := hw'; subst hw'')
                gi_wp2
                exact HN.out _ _ rfl
              · have hkx1 : ((kd : Int) != (x : Int)) = true := by simp; omega
                have HF := Lib.hid (HNot.out ⟨(g, kd), hg256, hk4⟩ (by simp [hfq]; exact hkx))
                clear HSk HNot HRat' HRp' HRb' HK' HL' HB' Hz hfq
                gi_wp2
                (refine wpIn_region_quiet_round_lit (by kernel_rfl) (by kernel_rfl) (by kernel_rfl) ?_; (repeat (gi_big_quiet_step (fail))); refine wpQuietIn_nil ?_; intro _ hw'; obtain ⟨nq, hw''⟩ := hw'; subst hw'')
                gi_wp2
                (refine wpIn_region_quiet_round_lit (by kernel_rfl) (by kernel_rfl) (by kernel_rfl) ?_; (repeat (gi_big_quiet_step (fail))); refine wpQuietIn_nil ?_; intro _ hw'; obtain ⟨nq, hw''⟩ := hw'; subst hw'')
                gi_wp2
                exact ⟨HLv.out _, rfl, HF.out⟩
            · have hgq1 : ((g : Int) != (q : Int)) = true := by simp; omega
              have HF := Lib.hid (HNot.out ⟨(g, kd), hg256, hk4⟩ (by simp [hgq]))
              clear HSk HNot HRat' HRp' HRb' HK' HL' HB' Hz hfq
              gi_wp2
              (refine wpIn_region_quiet_round_lit (by kernel_rfl) (by kernel_rfl) (by kernel_rfl) ?_; (repeat (gi_big_quiet_step (fail))); refine wpQuietIn_nil ?_; intro _ hw'; obtain ⟨nq, hw''⟩ := hw'; subst hw'')
              gi_wp2
              (refine wpIn_region_quiet_round_lit (by kernel_rfl) (by kernel_rfl) (by kernel_rfl) ?_; (repeat (gi_big_quiet_step (fail))); refine wpQuietIn_nil ?_; intro _ hw'; obtain ⟨nq, hw''⟩ := hw'; subst hw'')
              gi_wp2
              exact ⟨HLv.out _, rfl, HF.out⟩
        · obtain rfl : q = ks.length := by omega
          have HF := Lib.hid (evs_not f ks.length p ks.length ⟨(g, kd), hg256, hk4⟩ hpq hq hz (.inl rfl))
          have HLv : Hid (∀ nq, KeepsOthers W ((wr.drewN nq).setCell ⟨w.heap.size + 1, 0, none⟩ (.bool false))) := fun nq => (HK'.out.trans (keeps_drewN _ _)).trans (KeepsOthers.setCell _ _ _)
          clear hz hRat' hRp' hRb' hK' hL' hB' hr' HRat' HRp' HRb' HK' HL' HB' Hz HRat HRp HRb HBW
          gi_wp2
          (refine wpIn_region_quiet_round_lit (by kernel_rfl) (by kernel_rfl) (by kernel_rfl) ?_; (repeat (gi_big_quiet_step (fail))); refine wpQuietIn_nil ?_; intro _ hw'; obtain ⟨nq, hw''⟩ := hw'; subst hw'')
          gi_wp2
          (refine wpIn_region_quiet_round_lit (by kernel_rfl) (by kernel_rfl) (by kernel_rfl) ?_; (repeat (gi_big_quiet_step (fail))); refine wpQuietIn_nil ?_; intro _ hw'; obtain ⟨nq, hw''⟩ := hw'; subst hw'')
          gi_wp2
          exact ⟨HLv.out _, rfl, HF.out⟩
    case done =>
      rintro D ys W hD rfl ⟨⟨⟨p, hp, he, hRat⟩, hRp, hRb⟩, hB⟩ hK
      have HZ : Hid (∀ j, p ≤ j → j < ks.length → ks.getD j 0 = 0) := fun j h1 h2 => by
        have := evs_zero f ks.length p he hks (fun j hj => by rw [← hf]; exact HK.out.2 _ (getD_mem _ _ hj)) j h1 h2
        rw [← hf] at this; exact this
      have HRat := Lib.hid hRat
      have HRp := Lib.hid hRp
      have HRb := Lib.hid hRb
      have HBW := Lib.hid hB
      have HD := Lib.hid hK
      clear hRat hRp hRb hB hK he hb ho hr hst hB1 hRa1 hRb1 hA0 hf
      go_wp2
      go_loopw [92] (fun v wr => ∃ q, p ≤ q ∧ q ≤ ks.length ∧ Row wr W0.heap.size 3 #[.int .i64 (q : Nat)] ∧ Row wr w.heap.size 39 #[.pointer (some ⟨R, 0, none⟩)] ∧ Row wr (w.heap.size + 1) 4 #[.bool false] ∧ Below w.heap.size w wr ∧ wr.heap[D]? = some (.deferred (some []))) (fun v wr => ks.length - (match wr.cell? ⟨W0.heap.size, 0, none⟩ with | some (.int _ z) => z.toNat | _ => 0))
      case atStart => exact ⟨p, Nat.le_refl _, hp, HRat.out, HRp.out, HRb.out, HBW.out, HD.out⟩
      case round =>
        obtain ⟨q, hpq, hq, hRat', hRp', hRb', hB', hK'⟩ := hrel
        have hr' := HR.out.below hB'
        have c1 := hRat'.cell 0
        have c2 := hRp'.cell 0
        have c3 := hr'.cellG
        have f1 := hRat'.frozen 0
        have c5 := hRb'.cell 0
        have f5 := hRb'.frozen 0
        simp at c1 c2 c5
        have HRat' := Lib.hid hRat'
        have HRp' := Lib.hid hRp'
        have HRb' := Lib.hid hRb'
        have HK' := Lib.hid hK'
        have HB' := Lib.hid hB'
        clear hRat' hRp' hRb' hK' hB' HRat HRp HRb HBW HD
        by_cases hql : q < ks.length
        · have c4 := hr'.cell q hql
          rw [HZ.out q hpq hql] at c4
          have HN : Hid (∀ (W' : World) (nq : Nat), W' = (wr.drewN nq).setCell ⟨W0.heap.size, 0, none⟩ (.int .i64 ((q : Int) + 1)) → ∃ q', p ≤ q' ∧ q' ≤ ks.length ∧ Row W' W0.heap.size 3 #[.int .i64 (q' : Nat)] ∧ Row W' w.heap.size 39 #[.pointer (some ⟨R, 0, none⟩)] ∧ Row W' (w.heap.size + 1) 4 #[.bool false] ∧ Below w.heap.size w W' ∧ W'.heap[D]? = some (.deferred (some []))) := by
            rintro W' nq rfl
            refine ⟨q + 1, by omega, by omega, row_one (HRat'.out.drewN nq) _, (HRp'.out.drewN nq).far (by simp; omega) _, (HRb'.out.drewN nq).far (by simp; omega) _, (below_drewN0 HB'.out nq).setCell (by simp; omega) _, (Below.heap_setCell _ _ _ _ (by simp; omega)).trans HK'.out⟩
          have HME : Hid (∀ nq u, ((wr.drewN nq).setCell ⟨W0.heap.size, 0, none⟩ u).cell? ⟨W0.heap.size, 0, none⟩ = some u) := fun nq u => cell_one_put (HRat'.out.drewN nq) u
          clear hr' HRat' HRp' HRb' HK' HB' HZ c5 f5
          go_wp2
          go_quiet (fail)
          go_wp2
          go_roundw
          case rel => exact HN.out _ nq rfl
          case measure => rw [HME.out, c1]; simp; omega
        · obtain rfl : q = ks.length := by omega
          clear hr'
          go_wp2
          go_quiet (fail)
          go_wp2
          refine region_tail 7 (by kernel_rfl) (by kernel_rfl) (fun U hU => ?_)
          simp only [List.take_succ_cons, List.take_zero, List.drop_succ_cons, List.drop_zero]
          have e1 : U = wr.drewN (nq + 1) := by rw [hU]; simp
          have HUD : Hid ((U.setCell ⟨w.heap.size + 1, 0, none⟩ (.bool true)).heap[D]? = some (.deferred (some []))) := by unfold Hid; rw [e1]; exact (Below.heap_setCell _ _ _ _ (by simp; omega)).trans HK'.out
          have HUR : Hid (Row (U.setCell ⟨w.heap.size + 1, 0, none⟩ (.bool true)) (w.heap.size + 1) 4 #[.bool true]) := by unfold Hid; rw [e1]; exact row_one (HRb'.out.drewN _) _
          have HUB : Hid (Below w.heap.size w (U.setCell ⟨w.heap.size + 1, 0, none⟩ (.bool true))) := by unfold Hid; rw [e1]; exact (below_drewN0 HB'.out _).setCell (by simp) _
          have cU1 : U.cell? ⟨W0.heap.size, 0, none⟩ = some (.int .i64 (ks.length : Nat)) := by rw [e1]; exact c1
          have cU2 : U.cell? ⟨w.heap.size, 0, none⟩ = some (.pointer (some ⟨R, 0, none⟩)) := by rw [e1]; exact c2
          have cU3 : U.cell? ⟨R, 0, none⟩ = some (.slice (some ⟨M, 0, none⟩) ks.length d) := by rw [e1]; exact c3
          have cU5 : U.cell? ⟨w.heap.size + 1, 0, none⟩ = some (.bool false) := by rw [e1]; exact c5
          have fU5 : U.frozen? ⟨w.heap.size + 1, 0, none⟩ = false := by rw [e1]; exact f5
          clear e1 hU c1 c2 c3 c5 f5 f1 HRat' HRp' HRb' HK' HB'
          repeat still_step
          refine wpStill_nil ?_
          go_wp2
          refine ⟨by simp, .inl ⟨_, _, rfl, run_takeDeferred HUD.out, ?_⟩⟩
          have hc6 := cell_kept (W := U.setCell ⟨w.heap.size + 1, 0, none⟩ (.bool true)) (a := ⟨w.heap.size + 1, 0, none⟩) (v := .bool true) (by rw [HUR.out.cell]; rfl) (grownBy_putObj' _ D (.deferred none)) (fun r e => by cases e; exact ⟨_, HUD.out, rfl⟩)
          refine ⟨.bool true, ?_, rfl, HUB.out.trans (belowK_b (w := w) (Nat.le_refl _) _ D _ _ (by omega) HUD.out rfl rfl)⟩
          simp [results, Try.f22, go_sem, hc6]
    case stop =>
      rintro D c pre W _ ⟨k, hk, he⟩ ⟨_, hn⟩ _
      exact absurd ⟨k, hk, he⟩ hn
end Go.Proofs.Ytallanlajecmhaa
