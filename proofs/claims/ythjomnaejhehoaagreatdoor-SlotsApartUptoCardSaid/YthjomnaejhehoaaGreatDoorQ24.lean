/- What follows is laid together from several texts of mine, in their order. -/
import Derived.Test.YthjomnaejhehoaaGreatDoorQ23

namespace Go.Proofs.YthjomnaejhehoaaGreatDoor
open Go.RowKit Go.MapKept Go.ChangeMaps
set_option linter.unusedVariables false
set_option linter.unusedSimpArgs false

set_option maxRecDepth 100000 in
set_option maxHeartbeats 16000000 in
theorem lput_any {w0 w : World} {A : Ad} {x : X9} (h : W9 w0 w A x) (hU : x.U = x.V) (hop : x.op = false) (hoff : x.S.off = false) (hq : x.q + 1 < 9223372036854775808)
    (Ak : Option Addr) (ck : Nat) (ks : List Int) (hks : CellsI w Ak ks) (hk20 : ks.length ≤ 100000) (Av : Option Addr) (cv : Nat) (vss : List (List Nat)) (hvs : SvIs w Av vss) (hv20 : vss.length ≤ 100000) (h256 : ∀ x ∈ vss, (∀ u ∈ x, u < 256) ∧ x.length ≤ 1048576) (one : Bool) (hone : one = true → ks.length = 1 ∧ vss.length = 1)
    (hT1 : one = true → (∀ g o, Ak = some ⟨g, o, none⟩ → g ∉ A.St :: medT A.M A.Q A.F A.L A.P x.S.nb) ∧ ∀ g o, Av = some ⟨g, o, none⟩ → g ∉ A.St :: medT A.M A.Q A.F A.L A.P x.S.nb) :
    Calls Tryz.prog 11 #[.pointer (some ⟨A.W, 0, none⟩), .slice Ak ks.length ck, .slice Av vss.length cv, .bool one] w (PutL w0 A x) := by
  obtain ⟨c0, c1, c2, c3, c4, c5, c6, c7⟩ := h.cells
  have HH := Lib.hid h
  have HU := Lib.hid (And.intro hU (And.intro hop (And.intro hoff hq)))
  have HKs := Lib.hid (And.intro hks hvs)
  have H256 := Lib.hid h256
  have HOne := Lib.hid hone
  have HT1 := Lib.hid hT1
  obtain ⟨nk, hnk⟩ : ∃ nk, nk = ks.length := ⟨_, rfl⟩
  obtain ⟨nv, hnv⟩ : ∃ nv, nv = vss.length := ⟨_, rfl⟩
  have HN := Lib.hid (And.intro hnk hnv)
  obtain ⟨w1, hw1⟩ : ∃ w1, w1 = w.alloc (.map #[] 0) := ⟨_, rfl⟩
  obtain ⟨Nx, hNx⟩ : ∃ Nx, Nx = w.heap.size := ⟨_, rfl⟩
  have HB1 : Hid (Below w.heap.size w w1) := by unfold Hid; rw [hw1]; exact (Below.refl _ _).alloc (Nat.le_refl _) _
  have HNx1 : Hid (HasIs w1 Nx fun _ => none) := by unfold Hid; rw [hw1, hNx]; exact HasIs.fresh w
  have HW := Lib.hid (And.intro hw1 hNx)
  have H1 := Lib.hid (h.below HB1.out)
  obtain ⟨f, hmap, hf⟩ := H1.out.has
  have HF := Lib.hid hf
  obtain ⟨cn, hcn⟩ : ∃ cn, cn = (keysOf x.U).length := ⟨_, rfl⟩
  rw [← hcn] at hmap
  have HMap := Lib.hid hmap
  have hmm := @run_makeMap Tryz.prog
  obtain ⟨-, -, -, -, d4, -, -, -⟩ := H1.out.cells
  rw [hw1] at d4
  rw [← hnk] at hk20 ⊢
  rw [← hnv] at hv20 ⊢
  clear h hU hop hoff hq hks hvs h256 hone hT1 hnk hnv hmap hf hcn c0 c1 c2 c3 c4 c5 c6 c7
  obtain ⟨W, St, Bk, Vb, M, Q, F, L, H, P, Al, cl, c, vs, xb⟩ := A
  dsimp only at *
  clear hw1 hNx
  go_enter Tryz.func11, Tryz.ntmps11
  go_wp2_with (at_range; rw [← HW.out.1]; refine wpList_range_told rfl _ 34 rfl 3 9 ms_under H cn f rfl HMap.out ?_; intro w2 hit2 hb2)
  go_frame
  have HIt2 := Lib.hid hit2
  have HB2 : Hid (Below w.heap.size w w2) := HB1.out.trans (hb2.mono HB1.out.size)
  have HNx2 : Hid (HasIs w2 Nx fun _ => none) := HNx1.out.below hb2
  have HZ : Hid (w.heap.size = Nx ∧ w1.heap.size = Nx + 1 ∧ w1.heap.size < w2.heap.size) := ⟨HW.out.2.symm, by rw [HW.out.1, HW.out.2]; simp, hit2.lt.1⟩
  obtain ⟨r, hr⟩ : ∃ r, r = w1.heap.size := ⟨_, rfl⟩
  have HR := Lib.hid hr
  rw [← hr] at HIt2 ⊢
  rw [← HW.out.2]
  clear hit2 hb2 hr d4 hmm HNx1 HMap
  have HnoH : Hid (H ∉ [Nx, r] ∧ H ≠ Nx) := by
    have h1 := HH.out.has.lt
    have h2 := HZ.out
    have h3 := HR.out
    dsimp only at h1
    refine ⟨fun hm => ?_, by omega⟩
    rcases List.mem_cons.1 hm with e | hm
    · omega
    · have := List.mem_singleton.1 hm; omega
  go_loopw [10, 11] (fun _ _ wr => ∃ (ts : List Nat) (cnt : Nat), ToldIs Tryz.prog 3 wr H r f (ts.map fun (k : Nat) => Value.int .i64 (k : Int)) cnt ∧ (∀ k ∈ ts, k ∈ keysOf x.U) ∧ HasIs wr Nx (selV x.U ts) ∧ Turns w2 wr [Nx, r]) (fun _ _ wr => wr.rangeLeft H r)
  case atStart => exact ⟨[], cn, HIt2.out, by simp, by rw [selV_nil]; exact HNx2.out, Turns.refl _ _⟩
  case round =>
    obtain ⟨ts, cnt, hit, hin, hhs, ht⟩ := hrel
    have HIt := Lib.hid hit
    have HTs := Lib.hid hin
    have HHs := Lib.hid hhs
    have HT := Lib.hid ht
    clear HIt2 HNx2 hit hin hhs ht
    go_wp2_with (at_next; refine wpList_next_told rfl _ rfl 3 H r f _ cnt rfl HIt.out ?_ ?_)
    · intro h0 hall
      have HSel : Hid (HasIs wr Nx x.U) := by
        have e := selV_all (ts := ts) HH.out.okU.1 (fun k hk => by
          obtain ⟨h32, hsm⟩ := (mem_keysOf x.U k).1 hk
          obtain ⟨y, hy⟩ := Option.isSome_iff_exists.1 hsm
          obtain ⟨i, hi, e⟩ := hall _ _ ((HF.out (.int .i64 k) (.string (textOf y))).2 ⟨k, y, h32, hy, rfl, rfl⟩)
          rw [← nk_inj e]; exact hi)
        have := HHs.out
        rwa [e] at this
      have HBr : Hid (Below w.heap.size w wr) := HT.out.below HB2.out HB2.out.size (fun g hg => by
        have h2 := HZ.out
        have h3 := HR.out
        rcases List.mem_cons.1 hg with e | hg
        · omega
        · have := List.mem_singleton.1 hg; omega)
      have H3 := Lib.hid (HH.out.below HBr.out)
      clear h0 hall HIt HHs HTs HF HT HB2 H1 HB1
      obtain ⟨W0, hW0⟩ : ∃ W0, W0 = wr := ⟨_, rfl⟩
      subst hW0
      by_cases hnn : nk = nv
      · have HMy := Lib.hid (may_any W0 Ak ck ks (HKs.out.1.below' HBr.out) (by rw [← HN.out.1]; exact hk20))
        rw [← HN.out.1] at HMy
        subst hnn
        go_wp2_with fail
        refine HMy.out.mono ?_
        rintro e w4 ⟨⟨rb, rfl, hrb⟩, hb4⟩
        have HB4 : Hid (Below w.heap.size w w4) := HBr.out.trans (hb4.mono HBr.out.size)
        have H4 := Lib.hid (H3.out.below hb4)
        have HSel4 := Lib.hid (HSel.out.below hb4)
        have HRb := Lib.hid hrb
        clear HMy hrb hb4 H3 HSel
        cases rb with
        | true =>
          have HOk : Hid (okKs ks vss.length) := ⟨by have := HN.out; omega, by rw [← HN.out.1]; exact HRb.out.1 rfl⟩
          have HNQ : Hid (Nx ≠ Q ∧ w0.heap.size ≤ Nx) := by
            have h1 := HH.out.med.bad.lt
            have h2 := HH.out.bel.size
            have h3 := HW.out.2
            dsimp only at h1
            exact ⟨by omega, by omega⟩
          have HVm : Hid (∀ k y, putV x.V ks vss ks.length k = some y → y.length ≤ 1048576) := putV_size (fun k y hy => by have := HH.out.vm k y hy; omega) (fun y hy => (H256.out y hy).2) _
          go_wp2
          go_loopw [13] (fun i wr => ∃ j : Nat, i = .int .i64 j ∧ j ≤ nk ∧ HasIs wr Nx (putV x.U ks vss j) ∧ Turns w4 wr [Nx]) (fun i _ => nk - (intOf i).toNat)
          case atStart => exact ⟨0, rfl, by omega, HSel4.out, Turns.refl _ _⟩
          case round =>
            obtain ⟨j, rfl, hj, hhs, ht⟩ := hrel
            have HHs := Lib.hid hhs
            have HT := Lib.hid ht
            have HBr : Hid (Below w.heap.size w wr) := ht.below HB4.out HB4.out.size (fun g hg => by rw [List.mem_singleton.1 hg]; have := HW.out.2; omega)
            have HWr := Lib.hid (HH.out.below HBr.out)
            clear hhs ht
            by_cases hjn : j < nk
            · obtain ⟨kb, ko, hAk, hkc⟩ := HKs.out.1 j (by rw [← HN.out.1]; exact hjn)
              obtain ⟨vb, vo, Ai, ci, hAv, hvc, hv8⟩ := HKs.out.2 j (by rw [← HN.out.2]; exact hjn)
              have hup := HOk.out.2.1 j (by rw [← HN.out.1]; exact hjn)
              obtain ⟨k, hk⟩ : ∃ k : Nat, ks.getD j 0 = (k : Int) := ⟨(ks.getD j 0).toNat, by omega⟩
              have hk32 : k < 32 := by omega
              obtain ⟨y, hy⟩ : ∃ y, y = vss.getD j [] := ⟨_, rfl⟩
              rw [hk] at hkc
              rw [← hy] at hvc hv8
              have hns : ∀ b : Nat, b < w.heap.size → b ∉ [Nx] := fun b hb hm => by have := List.mem_singleton.1 hm; have := HW.out.2; omega
              have kk : ∀ t : Kept wr [Nx], t.u.cell? ⟨kb, ko + j, none⟩ = some (.int .i64 k) := fun t => t.h.cell (keep_below HBr.out _ _ hkc) (hns _ (World.block_lt_of_cell? w _ hkc))
              have kv : ∀ t : Kept wr [Nx], t.u.cell? ⟨vb, vo + j, none⟩ = some (.slice Ai y.length ci) := fun t => t.h.cell (keep_below HBr.out _ _ hvc) (hns _ (World.block_lt_of_cell? w _ hvc))
              have kc : ∀ t : Kept wr [Nx], (convert 22 9 (.slice Ai y.length ci)).run Tryz.prog t.u = .ok (.string (textOf y)) t.u := fun t => conv_text (fun i hi => by
                obtain ⟨b', off', e, hc⟩ := hv8 i hi
                exact ⟨b', off', e, t.h.cell (keep_below HBr.out _ _ hc) (hns _ (World.block_lt_of_cell? w _ hc))⟩)
              obtain ⟨w9, hr9, hs9, ht9⟩ := (HHs.out.below (Below.refl _ _).drew).set hk32 y
              have HHs9 : Hid (HasIs w9 Nx (putV x.U ks vss (j + 1))) := by
                unfold Hid putV
                rw [hk, ← hy]
                exact hs9
              have HT9 : Hid (Turns w4 w9 [Nx]) := (HT.out.trans (Turns.of_below (Below.refl _ _).drew []) (by simp)).trans ht9 (fun g hg => .inl hg)
              generalize y.length = ym at *
              generalize textOf y = tx at *
              subst hAk hAv
              have hjd : decide (j < nk) = true := decide_eq_true hjn
              clear hkc hvc hv8 hs9 ht9 hns hy hk hup
              go_wp2
              (refine region_kept ([Nx]) [0, 1, 2, 3, 4, 5, 6, 7, 8, 9] [10] (by kernel_rfl) (by kernel_rfl) (fun _ _ _ _ _ h => h) ?_; simp only [List.filterMap_cons, List.getElem?_cons_zero, List.getElem?_cons_succ, List.filterMap_nil]; (repeat ((show wpQuiet _ _ _ _ (_ :: _) _); go_big_quiet_step (fail))); refine wpQuiet_nil ?_)
              clear kk kv kc
              refine wpSeqS_last ?_
              go_wp2
              go_roundw
              case rel => exact ⟨j + 1, by go_num, by omega, HHs9.out, HT9.out⟩
              case measure => simp [intOf]; omega
            · obtain rfl : nk = j := by omega
              have HNxr : Hid (HasIs wr Nx (putV x.V ks vss ks.length)) := by have := HHs.out; rw [HU.out.1, HN.out.1] at this; exact this
              have HCt := Lib.hid (Count_any HWr.out.med.fl)
              obtain ⟨a0, -, -, -, -, -, -, -⟩ := HWr.out.cells
              dsimp only at a0
              clear HHs HT
              go_wp2_with fail
              refine HCt.out.mono ?_
              rintro e w5 ⟨⟨s1, r1, z1, rfl⟩, hb5⟩
              have H5 := Lib.hid (HWr.out.below hb5)
              have HB5 : Hid (Below w.heap.size w w5) := HBr.out.trans (hb5.mono HBr.out.size)
              have HNx5 := Lib.hid (HNxr.out.below hb5)
              obtain ⟨b0, -, b2, -, -, -, -, -⟩ := H5.out.cells
              dsimp only at b0 b2
              clear hb5 a0 HCt HNxr HWr HBr
              cases one with
              | false =>
                have HPA := Lib.hid (H5.out.putall HU.out.2.2.1 HU.out.2.2.2 Ak ck ks (HKs.out.1.below' HB5.out) (by rw [← HN.out.1]; exact hk20) Av cv vss (HKs.out.2.below HB5.out) (by rw [← HN.out.2]; exact hv20) H256.out)
                rw [← HN.out.1, ← HN.out.2] at HPA
                go_wp2_with fail
                refine HPA.out.mono ?_
                rintro e w6 hp
                clear HPA b0 b2
                by_cases hfit : FitV 192 (putV x.V ks vss (ks).length)
                · obtain ⟨wq, Nb, hbq, hNb, hNq, md', bad', hbad', ht', hcase⟩ := hp.2.2 HOk.out hfit
                  have hbq5 : Below w5.heap.size w5 wq := (fun h => h) hbq
                  have Hq := Lib.hid (H5.out.below hbq5)
                  have hNxq : HasIs wq Nx (putV x.V ks vss (ks).length) := HNx5.out.below hbq5
                  have hHq : H < w5.heap.size := H5.out.has.lt
                  have HNx6 : Hid (HasIs w6 Nx (putV x.V ks vss (ks).length)) := Hq.out.aside_has ht' (fun g hg => st_med hg) hNxq HNQ.out.1
                  have HT6 : Hid (Turns w5 w6 (St :: medT M Q F L P x.S.nb)) := (Turns.of_below hbq5 _).trans ht' (fun g hg => .inl hg)
                  have HFit := Lib.hid hfit
                  rcases hcase with ⟨k9, S', hkl, rfl, hm, hst, hkp, hoff', hnew, hprog, harm⟩ | ⟨k9, S', harm, hkl, rfl, hm, hst, hkp, hoff', hnew⟩ | ⟨-, -, -, hx⟩
                  · obtain ⟨G', h6⟩ := Hq.out.putok ht' hkl hm hst hNq hkp hbad' hnew (putV_ok HH.out.sl.okV.1 (fun y hy => (H256.out y hy).1) _ HOk.out.2) hfit HU.out.2.2.2
                    have H6 := Lib.hid h6
                    have HPr := Lib.hid hprog
                    have HNb := Lib.hid hkp.nb
                    have HOf := Lib.hid hoff'
                    have HArm := Lib.hid harm
                    have HCt2 := Lib.hid (Count_any H6.out.med.fl)
                    obtain ⟨a0, -, -, -, -, -, -, -⟩ := H6.out.cells
                    dsimp only at a0
                    dsimp only at HCt2
                    clear hp hbq hNb hNq hbad' ht' hbq5 hNxq hHq hkl hm hst hkp hoff' hnew hprog harm h6 Hq hfit
                    (go_wp2_with fail)
                    refine HCt2.out.mono ?_
                    rintro e w7 ⟨⟨s2, r2, z2, rfl⟩, hb7⟩
                    have H7 := Lib.hid (H6.out.below hb7)
                    have HNx7 := Lib.hid (HNx6.out.below hb7)
                    have HSz := Lib.hid (size_any w7 Nx _ HNx7.out HVm.out)
                    obtain ⟨sz, hsz⟩ : ∃ sz, sz = lenV (putV x.V ks vss (ks).length) + 4 * (keysOf (putV x.V ks vss (ks).length)).length := ⟨_, rfl⟩
                    have hsz2 : ¬ 176 < sz := by have := HFit.out; unfold FitV at this; omega
                    rw [← hsz] at HSz
                    rw [HPr.out]
                    clear HCt2 hb7 a0 hsz
                    go_wp2_with fail
                    refine HSz.out.mono ?_
                    rintro e w7a ⟨rfl, hb7⟩
                    have H7a := Lib.hid (H7.out.below hb7)
                    have HNx7a := Lib.hid (HNx7.out.below hb7)
                    clear HSz hb7
                    have HOkV : Hid (OkV (putV x.V ks vss (ks).length)) := putV_ok HH.out.sl.okV.1 (fun y hy => (H256.out y hy).1) _ HOk.out.2
                    have HW8 : Hid (W9 w0 (w7a.setCell ⟨W, 4, none⟩ (.map (some Nx))) ⟨W, St, Bk, Nb, M, Q, F, L, Nx, P, Al, cl, c, vs, xb⟩ ⟨S', bad', md', k9, x.q + 1, putV x.V ks vss (ks).length, G', putV x.V ks vss (ks).length, x.um, x.op, x.fail⟩) :=
                      H7a.out.store (A' := ⟨W, St, Bk, Nb, M, Q, F, L, Nx, P, Al, cl, c, vs, xb⟩) (x' := ⟨S', bad', md', k9, x.q + 1, putV x.V ks vss (ks).length, G', putV x.V ks vss (ks).length, x.um, x.op, x.fail⟩) rfl rfl (by have := H7a.out.row.put 4 (.map (some Nx)); unfold w9cells at this ⊢; simpa using this) ((Turns.refl _ _).setCell (by simp) _) H7a.out.st H7a.out.hVQ H7a.out.sl HNx7a.out HNQ.out ⟨HOkV.out, HFit.out⟩ rfl
                    obtain ⟨-, -, p2, -, p4, -, -, p7⟩ := H7a.out.cells
                    dsimp only at p2 p4 p7
                    have f4 : w7a.frozen? ⟨W, 4, none⟩ = false := H7a.out.row.frozen 4
                    by_cases hf0 : x.fail = 0
                    · have hw : IntKind.i64.wrap (IntKind.i64.wrap (x.S.progs + 1) - x.S.progs) = 1 := by rw [IntKind.wrap_i64, IntKind.wrap_i64]; omega
                      have hw2 : ¬ 2 < wrap64 (wrap64 (x.S.progs + 1) - x.S.progs) := by
                        have e : wrap64 (wrap64 (x.S.progs + 1) - x.S.progs) = 1 := by first | (simpa using hw) | (unfold wrap64; omega)
                        omega
                      rw [hf0] at p7
                      clear hf0
                      go_wp2_with fail
                      refine (Cost_any St w7a).mono ?_
                      rintro e wc ⟨rfl, rfl⟩
                      go_wp2_with fail
                      refine (Cost_any St w7a).mono ?_
                      rintro e wc ⟨rfl, rfl⟩
                      have HSm : Hid (∀ W', Below ((w7a.setCell ⟨W, 4, none⟩ (.map (some Nx)))).heap.size ((w7a.setCell ⟨W, 4, none⟩ (.map (some Nx)))) W' → Calls Tryz.prog 15 #[.pointer (some ⟨St, 0, none⟩), .map (some Nx)] W' fun e w' => e = .returned (.bool true) ∧ Below W'.heap.size W' w') := fun W' hb => (HW8.out.below hb).same rfl
                      have k2 : ∀ t : Kept ((w7a.setCell ⟨W, 4, none⟩ (.map (some Nx)))) [], t.u.cell? ⟨W, 2, none⟩ = some (.pointer (some ⟨St, 0, none⟩)) := fun t => t.h.cell HW8.out.cells.2.2.1 (by simp)
                      have k4 : ∀ t : Kept ((w7a.setCell ⟨W, 4, none⟩ (.map (some Nx)))) [], t.u.cell? ⟨W, 4, none⟩ = some (.map (some Nx)) := fun t => t.h.cell HW8.out.cells.2.2.2.2.1 (by simp)
                      go_wp2
                      (refine region_kept ([]) [0, 1, 2, 3, 4, 5, 6, 7, 8, 9, 10] [11, 12, 13] (by kernel_rfl) (by kernel_rfl) (fun _ _ _ _ _ h => h) ?_; simp only [List.filterMap_cons, List.getElem?_cons_zero, List.getElem?_cons_succ, List.filterMap_nil]; (repeat ((show wpQuiet _ _ _ _ (_ :: _) _); go_big_quiet_step (fail))); refine wpQuiet_nil ?_)
                      clear k2 k4
                      refine wpSeqS_step ?_
                      go_wp2_with fail
                      refine (HSm.out ((w7a.setCell ⟨W, 4, none⟩ (.map (some Nx)))).drew (Below.refl _ _).drew).mono ?_
                      rintro e w8 ⟨rfl, hb8⟩
                      have H8 := Lib.hid (HW8.out.below ((Below.refl _ _).drew.trans hb8))
                      have HT8 : Hid (Turns ((w7a.setCell ⟨W, 4, none⟩ (.map (some Nx)))) w8 []) := Turns.of_below ((Below.refl _ _).drew.trans hb8) _
                      clear hb8 HSm
                      go_wp2_with fail
                      refine outQ_normal HT8.out ?_
                      refine wpSeqS_step ?_
                      go_wp2
                      refine outQ_normal HT8.out ?_
                      refine wpSeqS_last ?_
                      have HFin : Hid (PutL w0 ⟨W, St, Bk, Vb, M, Q, F, L, H, P, Al, cl, c, vs, xb⟩ x (.returned (.bool true)) w8) := (⟨rfl, ⟨W, St, Bk, Nb, M, Q, F, L, Nx, P, Al, cl, c, vs, xb⟩, ⟨S', bad', md', k9, x.q + 1, putV x.V ks vss (ks).length, G', putV x.V ks vss (ks).length, x.um, x.op, x.fail⟩, H8.out, rfl, Nat.le_refl _, HU.out.2.1, rfl, HOf.out, HNb.out, rfl, rfl, rfl, rfl, rfl, rfl, fun h => ⟨rfl, HArm.out h⟩⟩)
                      go_wp2
                      go_ret
                      exact HFin.out
                    · have hf1 : ((x.fail : Int) == 0) = false := by simp; omega
                      clear hf0
                      have HSm : Hid (∀ W', Below ((w7a.setCell ⟨W, 4, none⟩ (.map (some Nx)))).heap.size ((w7a.setCell ⟨W, 4, none⟩ (.map (some Nx)))) W' → Calls Tryz.prog 15 #[.pointer (some ⟨St, 0, none⟩), .map (some Nx)] W' fun e w' => e = .returned (.bool true) ∧ Below W'.heap.size W' w') := fun W' hb => (HW8.out.below hb).same rfl
                      have k2 : ∀ t : Kept ((w7a.setCell ⟨W, 4, none⟩ (.map (some Nx)))) [], t.u.cell? ⟨W, 2, none⟩ = some (.pointer (some ⟨St, 0, none⟩)) := fun t => t.h.cell HW8.out.cells.2.2.1 (by simp)
                      have k4 : ∀ t : Kept ((w7a.setCell ⟨W, 4, none⟩ (.map (some Nx)))) [], t.u.cell? ⟨W, 4, none⟩ = some (.map (some Nx)) := fun t => t.h.cell HW8.out.cells.2.2.2.2.1 (by simp)
                      go_wp2
                      (refine region_kept ([]) [0, 1, 2, 3, 4, 5, 6, 7, 8, 9, 10] [11, 12, 13] (by kernel_rfl) (by kernel_rfl) (fun _ _ _ _ _ h => h) ?_; simp only [List.filterMap_cons, List.getElem?_cons_zero, List.getElem?_cons_succ, List.filterMap_nil]; (repeat ((show wpQuiet _ _ _ _ (_ :: _) _); go_big_quiet_step (fail))); refine wpQuiet_nil ?_)
                      clear k2 k4
                      refine wpSeqS_step ?_
                      go_wp2_with fail
                      refine (HSm.out ((w7a.setCell ⟨W, 4, none⟩ (.map (some Nx)))).drew (Below.refl _ _).drew).mono ?_
                      rintro e w8 ⟨rfl, hb8⟩
                      have H8 := Lib.hid (HW8.out.below ((Below.refl _ _).drew.trans hb8))
                      have HT8 : Hid (Turns ((w7a.setCell ⟨W, 4, none⟩ (.map (some Nx)))) w8 []) := Turns.of_below ((Below.refl _ _).drew.trans hb8) _
                      clear hb8 HSm
                      go_wp2_with fail
                      refine outQ_normal HT8.out ?_
                      refine wpSeqS_step ?_
                      go_wp2
                      refine outQ_normal HT8.out ?_
                      refine wpSeqS_last ?_
                      have HFin : Hid (PutL w0 ⟨W, St, Bk, Vb, M, Q, F, L, H, P, Al, cl, c, vs, xb⟩ x (.returned (.bool true)) w8) := (⟨rfl, ⟨W, St, Bk, Nb, M, Q, F, L, Nx, P, Al, cl, c, vs, xb⟩, ⟨S', bad', md', k9, x.q + 1, putV x.V ks vss (ks).length, G', putV x.V ks vss (ks).length, x.um, x.op, x.fail⟩, H8.out, rfl, Nat.le_refl _, HU.out.2.1, rfl, HOf.out, HNb.out, rfl, rfl, rfl, rfl, rfl, rfl, fun h => ⟨rfl, HArm.out h⟩⟩)
                      go_wp2
                      go_ret
                      exact HFin.out
                  · obtain ⟨G', h6⟩ := Hq.out.putcut ht' hkl hm hst hkp hbad' hnew
                    have H6 := Lib.hid h6
                    have HNb := Lib.hid hkp.nb
                    have HOf := Lib.hid hoff'
                    have HArm := Lib.hid harm
                    have HCt2 := Lib.hid (Count_any H6.out.med.fl)
                    obtain ⟨a0, -, -, -, -, -, -, -⟩ := H6.out.cells
                    dsimp only at a0
                    dsimp only at HCt2
                    clear hp hbq hNb hNq hbad' ht' hbq5 hNxq hHq hkl hm hst hkp hoff' hnew harm h6 Hq hfit
                    (go_wp2_with fail)
                    refine HCt2.out.mono ?_
                    rintro e w7 ⟨⟨s2, r2, z2, rfl⟩, hb7⟩
                    have H7 := Lib.hid (H6.out.below hb7)
                    have HNx7 := Lib.hid (HNx6.out.below hb7)
                    have HSz := Lib.hid (size_any w7 Nx _ HNx7.out HVm.out)
                    obtain ⟨sz, hsz⟩ : ∃ sz, sz = lenV (putV x.V ks vss (ks).length) + 4 * (keysOf (putV x.V ks vss (ks).length)).length := ⟨_, rfl⟩
                    have hsz2 : ¬ 176 < sz := by have := HFit.out; unfold FitV at this; omega
                    rw [← hsz] at HSz
                    clear HCt2 hb7 a0 hsz
                    go_wp2_with fail
                    refine HSz.out.mono ?_
                    rintro e w7a ⟨rfl, hb7⟩
                    have H7a := Lib.hid (H7.out.below hb7)
                    have HNx7a := Lib.hid (HNx7.out.below hb7)
                    clear HSz hb7
                    have HOkV : Hid (OkV (putV x.V ks vss (ks).length)) := putV_ok HH.out.sl.okV.1 (fun y hy => (H256.out y hy).1) _ HOk.out.2
                    obtain ⟨w8, hw8⟩ : ∃ w8, w8 = (w7a.setCell ⟨W, 6, none⟩ (.bool true)).setCell ⟨W, 5, none⟩ (.map (some Nx)) := ⟨_, rfl⟩
                    have HE8 := Lib.hid hw8
                    have HT8 : Hid (Turns w7a w8 [W]) := by unfold Hid; rw [hw8]; exact ((Turns.refl _ _).setCell (by simp) _).setCell (by simp) _
                    have HW8 : Hid (W9 w0 w8 ⟨W, St, Bk, Vb, M, Q, F, L, H, P, Al, cl, c, vs, xb⟩ ⟨S', bad', md', x.a, x.q, x.V, G', x.U, .map (some Nx), true, x.fail⟩) :=
                      H7a.out.store (A' := ⟨W, St, Bk, Vb, M, Q, F, L, H, P, Al, cl, c, vs, xb⟩) (x' := ⟨S', bad', md', x.a, x.q, x.V, G', x.U, .map (some Nx), true, x.fail⟩) rfl rfl (by rw [hw8]; have := (H7a.out.row.put 6 (.bool true)).put 5 (.map (some Nx)); unfold w9cells at this ⊢; simpa using this) HT8.out H7a.out.st H7a.out.hVQ H7a.out.sl H7a.out.has H7a.out.hH H7a.out.okU rfl
                    have HNx8 : HasIs w8 Nx (putV x.V ks vss (ks).length) := HNx7a.out.turns HT8.out (fun hm => by
                      have h1 := HNx7a.out
                      rw [List.mem_singleton.1 hm] at h1
                      exact h1.not_row _ _ H7a.out.row)
                    have HBk := Lib.hid (back_any HW8.out HU.out.1 (fun _ => ⟨Nx, _, rfl, HNx8, HOkV.out, HFit.out, HNQ.out.1, HNQ.out.2⟩))
                    have HOff := FlOff HW8.out.med.fl
                    dsimp only at HOff
                    rw [HOf.out] at HOff
                    have HOff := Lib.hid HOff
                    obtain ⟨p0, -, -, -, -, -, -, -⟩ := HW8.out.cells
                    dsimp only at p0
                    rw [hw8] at p0
                    obtain ⟨-, -, -, -, -, p5, p6, -⟩ := H7a.out.cells
                    dsimp only at p5 p6
                    have f5 : w7a.frozen? ⟨W, 5, none⟩ = false := H7a.out.row.frozen 5
                    have f6 : w7a.frozen? ⟨W, 6, none⟩ = false := H7a.out.row.frozen 6
                    clear hw8 HNx8
                    go_wp2_with fail
                    rw [← HE8.out]
                    refine HOff.out.mono ?_
                    rintro e w8' ⟨rfl, rfl⟩
                    clear HOff p0 p5 p6 f5 f6
                    go_wp2_with fail
                    refine HBk.out.mono ?_
                    rintro e w9 ⟨rfl, A9, x9, h9, hU9, hV9, hq9, hop9, hfl9, hof9, hnb9, hvs9, hW9, hF9, hM9, hA9, hcl9⟩
                    have HFin : Hid (PutL w0 ⟨W, St, Bk, Vb, M, Q, F, L, H, P, Al, cl, c, vs, xb⟩ x (.returned (.bool true)) w9) := ⟨rfl, A9, x9, h9, hU9, by rw [hq9]; exact Nat.le_succ _, hop9, hfl9, hof9, by rw [hnb9]; exact HNb.out, hvs9, hW9, hF9, hM9, hA9, hcl9, fun h => absurd h HArm.out⟩
                    clear HBk h9 hU9 hV9 hq9 hop9 hfl9 hof9 hnb9 hvs9 hW9 hF9 hM9 hA9 hcl9
                    go_wp2
                    go_ret
                    exact HFin.out
                  · exact (Hq.out.not7 hx).elim
                · obtain ⟨rfl, hb6'⟩ := hp.2.1 HOk.out hfit
                  have hb6 : Below w5.heap.size w5 w6 := (fun h => h) hb6'
                  have H6 := Lib.hid (H5.out.below hb6)
                  have HT6 : Hid (Turns w5 w6 (St :: medT M Q F L P x.S.nb)) := Turns.of_below hb6 _
                  have HCt2 := Lib.hid (Count_any H6.out.med.fl)
                  have HNx6 := Lib.hid (HNx5.out.below hb6)
                  obtain ⟨a0, -, -, -, -, -, -, -⟩ := H6.out.cells
                  dsimp only at a0
                  have HFit := Lib.hid hfit
                  clear hp hb6 hb6' hfit
                  (go_wp2_with fail)
                  refine HCt2.out.mono ?_
                  rintro e w7 ⟨⟨s2, r2, z2, rfl⟩, hb7⟩
                  have H7 := Lib.hid (H6.out.below hb7)
                  have HSz := Lib.hid (size_any w7 Nx _ (HNx6.out.below hb7) HVm.out)
                  obtain ⟨sz, hsz⟩ : ∃ sz, sz = lenV (putV x.V ks vss (ks).length) + 4 * (keysOf (putV x.V ks vss (ks).length)).length := ⟨_, rfl⟩
                  have hsz2 : 176 < sz := by have := HFit.out; unfold FitV at this; omega
                  rw [← hsz] at HSz
                  clear HCt2 hb7 a0 hsz
                  go_wp2_with fail
                  refine HSz.out.mono ?_
                  rintro e w7a ⟨rfl, hb7⟩
                  have H7a := Lib.hid (H7.out.below hb7)
                  clear HSz hb7
                  have HSm : Hid (∀ W', Below (w7a).heap.size (w7a) W' → Calls Tryz.prog 15 #[.pointer (some ⟨St, 0, none⟩), .map (some H)] W' fun e w' => e = .returned (.bool true) ∧ Below W'.heap.size W' w') := fun W' hb => (H7a.out.below hb).same HU.out.1
                  have k2 : ∀ t : Kept (w7a) [], t.u.cell? ⟨W, 2, none⟩ = some (.pointer (some ⟨St, 0, none⟩)) := fun t => t.h.cell H7a.out.cells.2.2.1 (by simp)
                  have k4 : ∀ t : Kept (w7a) [], t.u.cell? ⟨W, 4, none⟩ = some (.map (some H)) := fun t => t.h.cell H7a.out.cells.2.2.2.2.1 (by simp)
                  go_wp2
                  (refine region_kept ([]) [0, 1, 2, 3, 4, 5, 6, 7, 8, 9, 10] [11, 12, 13] (by kernel_rfl) (by kernel_rfl) (fun _ _ _ _ _ h => h) ?_; simp only [List.filterMap_cons, List.getElem?_cons_zero, List.getElem?_cons_succ, List.filterMap_nil]; (repeat ((show wpQuiet _ _ _ _ (_ :: _) _); go_big_quiet_step (fail))); refine wpQuiet_nil ?_)
                  clear k2 k4
                  refine wpSeqS_step ?_
                  go_wp2_with fail
                  refine (HSm.out (w7a).drew (Below.refl _ _).drew).mono ?_
                  rintro e w8 ⟨rfl, hb8⟩
                  have H8 := Lib.hid (H7a.out.below ((Below.refl _ _).drew.trans hb8))
                  have HT8 : Hid (Turns (w7a) w8 []) := Turns.of_below ((Below.refl _ _).drew.trans hb8) _
                  clear hb8 HSm
                  go_wp2_with fail
                  refine outQ_normal HT8.out ?_
                  refine wpSeqS_step ?_
                  go_wp2
                  refine outQ_normal HT8.out ?_
                  refine wpSeqS_last ?_
                  have HFin : Hid (PutL w0 ⟨W, St, Bk, Vb, M, Q, F, L, H, P, Al, cl, c, vs, xb⟩ x (.returned (.bool true)) w8) := (⟨rfl, ⟨W, St, Bk, Vb, M, Q, F, L, H, P, Al, cl, c, vs, xb⟩, x, H8.out, HU.out.1, Nat.le_succ _, HU.out.2.1, rfl, HU.out.2.2.1, rfl, rfl, rfl, rfl, rfl, rfl, rfl, fun h => ⟨rfl, h⟩⟩)
                  go_wp2
                  go_ret
                  exact HFin.out
              | true =>
                obtain ⟨h1k, h1v⟩ := HOne.out rfl
                obtain ⟨k, rfl⟩ := List.length_eq_one_iff.1 h1k
                obtain ⟨y, rfl⟩ := List.length_eq_one_iff.1 h1v
                obtain rfl : nk = 1 := by have := HN.out; simpa using this.1
                obtain ⟨kb, ko, hAk, hkc⟩ := HKs.out.1 0 (by simp)
                obtain ⟨vb, vo, Ai, ci, hAv, hvc, hv8⟩ := HKs.out.2 0 (by simp)
                have hkT := (HT1.out rfl).1 kb ko hAk
                have hvT := (HT1.out rfl).2 vb vo hAv
                subst hAk hAv
                rw [Nat.add_zero] at hkc hvc
                obtain ⟨ym, hym⟩ : ∃ ym, ym = y.length := ⟨_, rfl⟩
                have HPu : Hid (∀ W', Below w5.heap.size w5 W' → Calls Tryz.prog 14 #[.pointer (some ⟨St, 0, none⟩), .int .i64 k, .slice Ai ym ci] W' (PAPost W' w0.heap.size M Q F L P x.S 192 St Bk Vb (natsI vs) c x.a x.q x.V [k] [y])) := fun W' hb => by
                  rw [hym]
                  refine (H5.out.below hb).put1 HU.out.2.2.1 HU.out.2.2.2 k Ai ci y (fun t ht => ?_) (H256.out y (by simp))
                  obtain ⟨b', off', e, hc⟩ := hv8 t ht
                  exact ⟨b', off', e, keep_below hb _ _ (keep_below HB5.out _ _ hc)⟩
                have hWT : W ∉ St :: medT M Q F L P x.S.nb := fun hm => by
                  rcases List.mem_cons.1 hm with e | hm
                  · exact Row.ne_type H5.out.row H5.out.st.row (by decide) e
                  · exact H5.out.med.no_row H5.out.row (by decide) (by decide) (by decide) (by decide) hm
                have k2 : ∀ t : Kept w5 (St :: medT M Q F L P x.S.nb), t.u.cell? ⟨W, 2, none⟩ = some (.pointer (some ⟨St, 0, none⟩)) := fun t => t.h.cell H5.out.cells.2.2.1 hWT
                have kk : ∀ t : Kept w5 (St :: medT M Q F L P x.S.nb), t.u.cell? ⟨kb, ko, none⟩ = some (.int .i64 k) := fun t => t.h.cell (keep_below HB5.out _ _ hkc) hkT
                have kv : ∀ t : Kept w5 (St :: medT M Q F L P x.S.nb), t.u.cell? ⟨vb, vo, none⟩ = some (.slice Ai ym ci) := fun t => t.h.cell (by rw [hym]; exact keep_below HB5.out _ _ hvc) hvT
                clear hkc hvc hv8 hym h1k h1v hkT hvT hWT
                go_wp2
                (refine region_kept (St :: medT M Q F L P x.S.nb) [0, 1, 2, 3, 4, 5, 6, 7, 8, 9] [10, 11] (by kernel_rfl) (by kernel_rfl) (fun _ _ _ _ _ h => h) ?_; simp only [List.filterMap_cons, List.getElem?_cons_zero, List.getElem?_cons_succ, List.filterMap_nil]; (repeat ((show wpQuiet _ _ _ _ (_ :: _) _); go_big_quiet_step (fail))); refine wpQuiet_nil ?_)
                clear k2 kk kv
                refine wpSeqS_step ?_
                go_wp2_with fail
                refine (HPu.out w5.drew (Below.refl _ _).drew).mono ?_
                rintro e w6 hp
                clear HPu b0 b2
                by_cases hfit : FitV 192 (putV x.V [k] [y] ([k]).length)
                · obtain ⟨wq, Nb, hbq, hNb, hNq, md', bad', hbad', ht', hcase⟩ := hp.2.2 HOk.out hfit
                  have hbq5 : Below w5.heap.size w5 wq := (fun h => (Below.refl _ _).drew.trans h) hbq
                  have Hq := Lib.hid (H5.out.below hbq5)
                  have hNxq : HasIs wq Nx (putV x.V [k] [y] ([k]).length) := HNx5.out.below hbq5
                  have hHq : H < w5.heap.size := H5.out.has.lt
                  have HNx6 : Hid (HasIs w6 Nx (putV x.V [k] [y] ([k]).length)) := Hq.out.aside_has ht' (fun g hg => st_med hg) hNxq HNQ.out.1
                  have HT6 : Hid (Turns w5 w6 (St :: medT M Q F L P x.S.nb)) := (Turns.of_below hbq5 _).trans ht' (fun g hg => .inl hg)
                  have HFit := Lib.hid hfit
                  rcases hcase with ⟨k9, S', hkl, rfl, hm, hst, hkp, hoff', hnew, hprog, harm⟩ | ⟨k9, S', harm, hkl, rfl, hm, hst, hkp, hoff', hnew⟩ | ⟨-, -, -, hx⟩
                  · obtain ⟨G', h6⟩ := Hq.out.putok ht' hkl hm hst hNq hkp hbad' hnew (putV_ok HH.out.sl.okV.1 (fun y hy => (H256.out y hy).1) _ HOk.out.2) hfit HU.out.2.2.2
                    have H6 := Lib.hid h6
                    have HPr := Lib.hid hprog
                    have HNb := Lib.hid hkp.nb
                    have HOf := Lib.hid hoff'
                    have HArm := Lib.hid harm
                    have HCt2 := Lib.hid (Count_any H6.out.med.fl)
                    obtain ⟨a0, -, -, -, -, -, -, -⟩ := H6.out.cells
                    dsimp only at a0
                    dsimp only at HCt2
                    clear hp hbq hNb hNq hbad' ht' hbq5 hNxq hHq hkl hm hst hkp hoff' hnew hprog harm h6 Hq hfit
                    (go_wp2_with fail; refine outQ_normal HT6.out ?_; refine wpSeqS_last ?_; go_wp2_with fail)
                    refine HCt2.out.mono ?_
                    rintro e w7 ⟨⟨s2, r2, z2, rfl⟩, hb7⟩
                    have H7 := Lib.hid (H6.out.below hb7)
                    have HNx7 := Lib.hid (HNx6.out.below hb7)
                    have HSz := Lib.hid (size_any w7 Nx _ HNx7.out HVm.out)
                    obtain ⟨sz, hsz⟩ : ∃ sz, sz = lenV (putV x.V [k] [y] ([k]).length) + 4 * (keysOf (putV x.V [k] [y] ([k]).length)).length := ⟨_, rfl⟩
                    have hsz2 : ¬ 176 < sz := by have := HFit.out; unfold FitV at this; omega
                    rw [← hsz] at HSz
                    rw [HPr.out]
                    clear HCt2 hb7 a0 hsz
                    go_wp2_with fail
                    refine HSz.out.mono ?_
                    rintro e w7a ⟨rfl, hb7⟩
                    have H7a := Lib.hid (H7.out.below hb7)
                    have HNx7a := Lib.hid (HNx7.out.below hb7)
                    clear HSz hb7
                    have HOkV : Hid (OkV (putV x.V [k] [y] ([k]).length)) := putV_ok HH.out.sl.okV.1 (fun y hy => (H256.out y hy).1) _ HOk.out.2
                    have HW8 : Hid (W9 w0 (w7a.setCell ⟨W, 4, none⟩ (.map (some Nx))) ⟨W, St, Bk, Nb, M, Q, F, L, Nx, P, Al, cl, c, vs, xb⟩ ⟨S', bad', md', k9, x.q + 1, putV x.V [k] [y] ([k]).length, G', putV x.V [k] [y] ([k]).length, x.um, x.op, x.fail⟩) :=
                      H7a.out.store (A' := ⟨W, St, Bk, Nb, M, Q, F, L, Nx, P, Al, cl, c, vs, xb⟩) (x' := ⟨S', bad', md', k9, x.q + 1, putV x.V [k] [y] ([k]).length, G', putV x.V [k] [y] ([k]).length, x.um, x.op, x.fail⟩) rfl rfl (by have := H7a.out.row.put 4 (.map (some Nx)); unfold w9cells at this ⊢; simpa using this) ((Turns.refl _ _).setCell (by simp) _) H7a.out.st H7a.out.hVQ H7a.out.sl HNx7a.out HNQ.out ⟨HOkV.out, HFit.out⟩ rfl
                    obtain ⟨-, -, p2, -, p4, -, -, p7⟩ := H7a.out.cells
                    dsimp only at p2 p4 p7
                    have f4 : w7a.frozen? ⟨W, 4, none⟩ = false := H7a.out.row.frozen 4
                    by_cases hf0 : x.fail = 0
                    · have hw : IntKind.i64.wrap (IntKind.i64.wrap (x.S.progs + 1) - x.S.progs) = 1 := by rw [IntKind.wrap_i64, IntKind.wrap_i64]; omega
                      have hw2 : ¬ 2 < wrap64 (wrap64 (x.S.progs + 1) - x.S.progs) := by
                        have e : wrap64 (wrap64 (x.S.progs + 1) - x.S.progs) = 1 := by first | (simpa using hw) | (unfold wrap64; omega)
                        omega
                      rw [hf0] at p7
                      clear hf0
                      go_wp2_with fail
                      refine (Cost_any St w7a).mono ?_
                      rintro e wc ⟨rfl, rfl⟩
                      go_wp2_with fail
                      refine (Cost_any St w7a).mono ?_
                      rintro e wc ⟨rfl, rfl⟩
                      have HSm : Hid (∀ W', Below ((w7a.setCell ⟨W, 4, none⟩ (.map (some Nx)))).heap.size ((w7a.setCell ⟨W, 4, none⟩ (.map (some Nx)))) W' → Calls Tryz.prog 15 #[.pointer (some ⟨St, 0, none⟩), .map (some Nx)] W' fun e w' => e = .returned (.bool true) ∧ Below W'.heap.size W' w') := fun W' hb => (HW8.out.below hb).same rfl
                      have k2 : ∀ t : Kept ((w7a.setCell ⟨W, 4, none⟩ (.map (some Nx)))) [], t.u.cell? ⟨W, 2, none⟩ = some (.pointer (some ⟨St, 0, none⟩)) := fun t => t.h.cell HW8.out.cells.2.2.1 (by simp)
                      have k4 : ∀ t : Kept ((w7a.setCell ⟨W, 4, none⟩ (.map (some Nx)))) [], t.u.cell? ⟨W, 4, none⟩ = some (.map (some Nx)) := fun t => t.h.cell HW8.out.cells.2.2.2.2.1 (by simp)
                      go_wp2
                      (refine region_kept ([]) [0, 1, 2, 3, 4, 5, 6, 7, 8, 9, 10] [11, 12, 13] (by kernel_rfl) (by kernel_rfl) (fun _ _ _ _ _ h => h) ?_; simp only [List.filterMap_cons, List.getElem?_cons_zero, List.getElem?_cons_succ, List.filterMap_nil]; (repeat ((show wpQuiet _ _ _ _ (_ :: _) _); go_big_quiet_step (fail))); refine wpQuiet_nil ?_)
                      clear k2 k4
                      refine wpSeqS_step ?_
                      go_wp2_with fail
                      refine (HSm.out ((w7a.setCell ⟨W, 4, none⟩ (.map (some Nx)))).drew (Below.refl _ _).drew).mono ?_
                      rintro e w8 ⟨rfl, hb8⟩
                      have H8 := Lib.hid (HW8.out.below ((Below.refl _ _).drew.trans hb8))
                      have HT8 : Hid (Turns ((w7a.setCell ⟨W, 4, none⟩ (.map (some Nx)))) w8 []) := Turns.of_below ((Below.refl _ _).drew.trans hb8) _
                      clear hb8 HSm
                      go_wp2_with fail
                      refine outQ_normal HT8.out ?_
                      refine wpSeqS_step ?_
                      go_wp2
                      refine outQ_normal HT8.out ?_
                      refine wpSeqS_last ?_
                      have HFin : Hid (PutL w0 ⟨W, St, Bk, Vb, M, Q, F, L, H, P, Al, cl, c, vs, xb⟩ x (.returned (.bool true)) w8) := (⟨rfl, ⟨W, St, Bk, Nb, M, Q, F, L, Nx, P, Al, cl, c, vs, xb⟩, ⟨S', bad', md', k9, x.q + 1, putV x.V [k] [y] ([k]).length, G', putV x.V [k] [y] ([k]).length, x.um, x.op, x.fail⟩, H8.out, rfl, Nat.le_refl _, HU.out.2.1, rfl, HOf.out, HNb.out, rfl, rfl, rfl, rfl, rfl, rfl, fun h => ⟨rfl, HArm.out h⟩⟩)
                      go_wp2
                      go_ret
                      exact HFin.out
                    · have hf1 : ((x.fail : Int) == 0) = false := by simp; omega
                      clear hf0
                      have HSm : Hid (∀ W', Below ((w7a.setCell ⟨W, 4, none⟩ (.map (some Nx)))).heap.size ((w7a.setCell ⟨W, 4, none⟩ (.map (some Nx)))) W' → Calls Tryz.prog 15 #[.pointer (some ⟨St, 0, none⟩), .map (some Nx)] W' fun e w' => e = .returned (.bool true) ∧ Below W'.heap.size W' w') := fun W' hb => (HW8.out.below hb).same rfl
                      have k2 : ∀ t : Kept ((w7a.setCell ⟨W, 4, none⟩ (.map (some Nx)))) [], t.u.cell? ⟨W, 2, none⟩ = some (.pointer (some ⟨St, 0, none⟩)) := fun t => t.h.cell HW8.out.cells.2.2.1 (by simp)
                      have k4 : ∀ t : Kept ((w7a.setCell ⟨W, 4, none⟩ (.map (some Nx)))) [], t.u.cell? ⟨W, 4, none⟩ = some (.map (some Nx)) := fun t => t.h.cell HW8.out.cells.2.2.2.2.1 (by simp)
                      go_wp2
                      (refine region_kept ([]) [0, 1, 2, 3, 4, 5, 6, 7, 8, 9, 10] [11, 12, 13] (by kernel_rfl) (by kernel_rfl) (fun _ _ _ _ _ h => h) ?_; simp only [List.filterMap_cons, List.getElem?_cons_zero, List.getElem?_cons_succ, List.filterMap_nil]; (repeat ((show wpQuiet _ _ _ _ (_ :: _) _); go_big_quiet_step (fail))); refine wpQuiet_nil ?_)
                      clear k2 k4
                      refine wpSeqS_step ?_
                      go_wp2_with fail
                      refine (HSm.out ((w7a.setCell ⟨W, 4, none⟩ (.map (some Nx)))).drew (Below.refl _ _).drew).mono ?_
                      rintro e w8 ⟨rfl, hb8⟩
                      have H8 := Lib.hid (HW8.out.below ((Below.refl _ _).drew.trans hb8))
                      have HT8 : Hid (Turns ((w7a.setCell ⟨W, 4, none⟩ (.map (some Nx)))) w8 []) := Turns.of_below ((Below.refl _ _).drew.trans hb8) _
                      clear hb8 HSm
                      go_wp2_with fail
                      refine outQ_normal HT8.out ?_
                      refine wpSeqS_step ?_
                      go_wp2
                      refine outQ_normal HT8.out ?_
                      refine wpSeqS_last ?_
                      have HFin : Hid (PutL w0 ⟨W, St, Bk, Vb, M, Q, F, L, H, P, Al, cl, c, vs, xb⟩ x (.returned (.bool true)) w8) := (⟨rfl, ⟨W, St, Bk, Nb, M, Q, F, L, Nx, P, Al, cl, c, vs, xb⟩, ⟨S', bad', md', k9, x.q + 1, putV x.V [k] [y] ([k]).length, G', putV x.V [k] [y] ([k]).length, x.um, x.op, x.fail⟩, H8.out, rfl, Nat.le_refl _, HU.out.2.1, rfl, HOf.out, HNb.out, rfl, rfl, rfl, rfl, rfl, rfl, fun h => ⟨rfl, HArm.out h⟩⟩)
                      go_wp2
                      go_ret
                      exact HFin.out
                  · obtain ⟨G', h6⟩ := Hq.out.putcut ht' hkl hm hst hkp hbad' hnew
                    have H6 := Lib.hid h6
                    have HNb := Lib.hid hkp.nb
                    have HOf := Lib.hid hoff'
                    have HArm := Lib.hid harm
                    have HCt2 := Lib.hid (Count_any H6.out.med.fl)
                    obtain ⟨a0, -, -, -, -, -, -, -⟩ := H6.out.cells
                    dsimp only at a0
                    dsimp only at HCt2
                    clear hp hbq hNb hNq hbad' ht' hbq5 hNxq hHq hkl hm hst hkp hoff' hnew harm h6 Hq hfit
                    (go_wp2_with fail; refine outQ_normal HT6.out ?_; refine wpSeqS_last ?_; go_wp2_with fail)
                    refine HCt2.out.mono ?_
                    rintro e w7 ⟨⟨s2, r2, z2, rfl⟩, hb7⟩
                    have H7 := Lib.hid (H6.out.below hb7)
                    have HNx7 := Lib.hid (HNx6.out.below hb7)
                    have HSz := Lib.hid (size_any w7 Nx _ HNx7.out HVm.out)
                    obtain ⟨sz, hsz⟩ : ∃ sz, sz = lenV (putV x.V [k] [y] ([k]).length) + 4 * (keysOf (putV x.V [k] [y] ([k]).length)).length := ⟨_, rfl⟩
                    have hsz2 : ¬ 176 < sz := by have := HFit.out; unfold FitV at this; omega
                    rw [← hsz] at HSz
                    clear HCt2 hb7 a0 hsz
                    go_wp2_with fail
                    refine HSz.out.mono ?_
                    rintro e w7a ⟨rfl, hb7⟩
                    have H7a := Lib.hid (H7.out.below hb7)
                    have HNx7a := Lib.hid (HNx7.out.below hb7)
                    clear HSz hb7
                    have HOkV : Hid (OkV (putV x.V [k] [y] ([k]).length)) := putV_ok HH.out.sl.okV.1 (fun y hy => (H256.out y hy).1) _ HOk.out.2
                    obtain ⟨w8, hw8⟩ : ∃ w8, w8 = (w7a.setCell ⟨W, 6, none⟩ (.bool true)).setCell ⟨W, 5, none⟩ (.map (some Nx)) := ⟨_, rfl⟩
                    have HE8 := Lib.hid hw8
                    have HT8 : Hid (Turns w7a w8 [W]) := by unfold Hid; rw [hw8]; exact ((Turns.refl _ _).setCell (by simp) _).setCell (by simp) _
                    have HW8 : Hid (W9 w0 w8 ⟨W, St, Bk, Vb, M, Q, F, L, H, P, Al, cl, c, vs, xb⟩ ⟨S', bad', md', x.a, x.q, x.V, G', x.U, .map (some Nx), true, x.fail⟩) :=
                      H7a.out.store (A' := ⟨W, St, Bk, Vb, M, Q, F, L, H, P, Al, cl, c, vs, xb⟩) (x' := ⟨S', bad', md', x.a, x.q, x.V, G', x.U, .map (some Nx), true, x.fail⟩) rfl rfl (by rw [hw8]; have := (H7a.out.row.put 6 (.bool true)).put 5 (.map (some Nx)); unfold w9cells at this ⊢; simpa using this) HT8.out H7a.out.st H7a.out.hVQ H7a.out.sl H7a.out.has H7a.out.hH H7a.out.okU rfl
                    have HNx8 : HasIs w8 Nx (putV x.V [k] [y] ([k]).length) := HNx7a.out.turns HT8.out (fun hm => by
                      have h1 := HNx7a.out
                      rw [List.mem_singleton.1 hm] at h1
                      exact h1.not_row _ _ H7a.out.row)
                    have HBk := Lib.hid (back_any HW8.out HU.out.1 (fun _ => ⟨Nx, _, rfl, HNx8, HOkV.out, HFit.out, HNQ.out.1, HNQ.out.2⟩))
                    have HOff := FlOff HW8.out.med.fl
                    dsimp only at HOff
                    rw [HOf.out] at HOff
                    have HOff := Lib.hid HOff
                    obtain ⟨p0, -, -, -, -, -, -, -⟩ := HW8.out.cells
                    dsimp only at p0
                    rw [hw8] at p0
                    obtain ⟨-, -, -, -, -, p5, p6, -⟩ := H7a.out.cells
                    dsimp only at p5 p6
                    have f5 : w7a.frozen? ⟨W, 5, none⟩ = false := H7a.out.row.frozen 5
                    have f6 : w7a.frozen? ⟨W, 6, none⟩ = false := H7a.out.row.frozen 6
                    clear hw8 HNx8
                    go_wp2_with fail
                    rw [← HE8.out]
                    refine HOff.out.mono ?_
                    rintro e w8' ⟨rfl, rfl⟩
                    clear HOff p0 p5 p6 f5 f6
                    go_wp2_with fail
                    refine HBk.out.mono ?_
                    rintro e w9 ⟨rfl, A9, x9, h9, hU9, hV9, hq9, hop9, hfl9, hof9, hnb9, hvs9, hW9, hF9, hM9, hA9, hcl9⟩
                    have HFin : Hid (PutL w0 ⟨W, St, Bk, Vb, M, Q, F, L, H, P, Al, cl, c, vs, xb⟩ x (.returned (.bool true)) w9) := ⟨rfl, A9, x9, h9, hU9, by rw [hq9]; exact Nat.le_succ _, hop9, hfl9, hof9, by rw [hnb9]; exact HNb.out, hvs9, hW9, hF9, hM9, hA9, hcl9, fun h => absurd h HArm.out⟩
                    clear HBk h9 hU9 hV9 hq9 hop9 hfl9 hof9 hnb9 hvs9 hW9 hF9 hM9 hA9 hcl9
                    go_wp2
                    go_ret
                    exact HFin.out
                  · exact (Hq.out.not7 hx).elim
                · obtain ⟨rfl, hb6'⟩ := hp.2.1 HOk.out hfit
                  have hb6 : Below w5.heap.size w5 w6 := (fun h => (Below.refl _ _).drew.trans h) hb6'
                  have H6 := Lib.hid (H5.out.below hb6)
                  have HT6 : Hid (Turns w5 w6 (St :: medT M Q F L P x.S.nb)) := Turns.of_below hb6 _
                  have HCt2 := Lib.hid (Count_any H6.out.med.fl)
                  have HNx6 := Lib.hid (HNx5.out.below hb6)
                  obtain ⟨a0, -, -, -, -, -, -, -⟩ := H6.out.cells
                  dsimp only at a0
                  have HFit := Lib.hid hfit
                  clear hp hb6 hb6' hfit
                  (go_wp2_with fail; refine outQ_normal HT6.out ?_; refine wpSeqS_last ?_; go_wp2_with fail)
                  refine HCt2.out.mono ?_
                  rintro e w7 ⟨⟨s2, r2, z2, rfl⟩, hb7⟩
                  have H7 := Lib.hid (H6.out.below hb7)
                  have HSz := Lib.hid (size_any w7 Nx _ (HNx6.out.below hb7) HVm.out)
                  obtain ⟨sz, hsz⟩ : ∃ sz, sz = lenV (putV x.V [k] [y] ([k]).length) + 4 * (keysOf (putV x.V [k] [y] ([k]).length)).length := ⟨_, rfl⟩
                  have hsz2 : 176 < sz := by have := HFit.out; unfold FitV at this; omega
                  rw [← hsz] at HSz
                  clear HCt2 hb7 a0 hsz
                  go_wp2_with fail
                  refine HSz.out.mono ?_
                  rintro e w7a ⟨rfl, hb7⟩
                  have H7a := Lib.hid (H7.out.below hb7)
                  clear HSz hb7
                  have HSm : Hid (∀ W', Below (w7a).heap.size (w7a) W' → Calls Tryz.prog 15 #[.pointer (some ⟨St, 0, none⟩), .map (some H)] W' fun e w' => e = .returned (.bool true) ∧ Below W'.heap.size W' w') := fun W' hb => (H7a.out.below hb).same HU.out.1
                  have k2 : ∀ t : Kept (w7a) [], t.u.cell? ⟨W, 2, none⟩ = some (.pointer (some ⟨St, 0, none⟩)) := fun t => t.h.cell H7a.out.cells.2.2.1 (by simp)
                  have k4 : ∀ t : Kept (w7a) [], t.u.cell? ⟨W, 4, none⟩ = some (.map (some H)) := fun t => t.h.cell H7a.out.cells.2.2.2.2.1 (by simp)
                  go_wp2
                  (refine region_kept ([]) [0, 1, 2, 3, 4, 5, 6, 7, 8, 9, 10] [11, 12, 13] (by kernel_rfl) (by kernel_rfl) (fun _ _ _ _ _ h => h) ?_; simp only [List.filterMap_cons, List.getElem?_cons_zero, List.getElem?_cons_succ, List.filterMap_nil]; (repeat ((show wpQuiet _ _ _ _ (_ :: _) _); go_big_quiet_step (fail))); refine wpQuiet_nil ?_)
                  clear k2 k4
                  refine wpSeqS_step ?_
                  go_wp2_with fail
                  refine (HSm.out (w7a).drew (Below.refl _ _).drew).mono ?_
                  rintro e w8 ⟨rfl, hb8⟩
                  have H8 := Lib.hid (H7a.out.below ((Below.refl _ _).drew.trans hb8))
                  have HT8 : Hid (Turns (w7a) w8 []) := Turns.of_below ((Below.refl _ _).drew.trans hb8) _
                  clear hb8 HSm
                  go_wp2_with fail
                  refine outQ_normal HT8.out ?_
                  refine wpSeqS_step ?_
                  go_wp2
                  refine outQ_normal HT8.out ?_
                  refine wpSeqS_last ?_
                  have HFin : Hid (PutL w0 ⟨W, St, Bk, Vb, M, Q, F, L, H, P, Al, cl, c, vs, xb⟩ x (.returned (.bool true)) w8) := (⟨rfl, ⟨W, St, Bk, Vb, M, Q, F, L, H, P, Al, cl, c, vs, xb⟩, x, H8.out, HU.out.1, Nat.le_succ _, HU.out.2.1, rfl, HU.out.2.2.1, rfl, rfl, rfl, rfl, rfl, rfl, rfl, fun h => ⟨rfl, h⟩⟩)
                  go_wp2
                  go_ret
                  exact HFin.out
        | false =>
          have HNo : Hid (¬ okKs ks vss.length) := fun hk => by
            have := HRb.out.2 (by rw [HN.out.1]; exact hk.2)
            cases this
          have HCt := Lib.hid (Count_any H4.out.med.fl)
          obtain ⟨a0, -, -, -, -, -, -, -⟩ := H4.out.cells
          dsimp only at a0
          have hzd : (nk = 0 ∧ ((0 : Int) < nk) = False) ∨ (0 < nk ∧ decide (0 < nk) = true) := by
            rcases Nat.eq_zero_or_pos nk with h | h
            · left; exact ⟨h, by simp [h]⟩
            · right; exact ⟨h, decide_eq_true h⟩
          rcases hzd with ⟨hz, hz2⟩ | ⟨hz, hz2⟩
          all_goals
            (try subst hz)
            go_wp2
            refine wp_loop_rounds 1 ?_
            rw [rounds_succ]
            go_wp2_with fail
            refine HCt.out.mono ?_
            rintro e w5 ⟨⟨s1, r1, z1, rfl⟩, hb5⟩
            have H5 := Lib.hid (H4.out.below hb5)
            have HB5 : Hid (Below w.heap.size w w5) := HB4.out.trans (hb5.mono HB4.out.size)
            obtain ⟨b0, -, b2, -, -, -, -, -⟩ := H5.out.cells
            dsimp only at b0 b2
            clear hb5 a0 HCt
            cases one with
            | false =>
              have HPA := Lib.hid (H5.out.putall HU.out.2.2.1 HU.out.2.2.2 Ak ck ks (HKs.out.1.below' HB5.out) (by rw [← HN.out.1]; exact hk20) Av cv vss (HKs.out.2.below HB5.out) (by rw [← HN.out.2]; exact hv20) H256.out)
              rw [← HN.out.1, ← HN.out.2] at HPA
              go_wp2_with fail
              refine HPA.out.mono ?_
              rintro e w6 hp
              obtain ⟨rfl, hb6⟩ := hp.1 HNo.out
              have H6 := Lib.hid (H5.out.below hb6)
              have HCt2 := Lib.hid (Count_any H6.out.med.fl)
              obtain ⟨a0, -, -, -, -, -, -, -⟩ := H6.out.cells
              dsimp only at a0
              clear HPA hp hb6 b0 b2
              go_wp2_with fail
              refine HCt2.out.mono ?_
              rintro e w7 ⟨⟨s2, r2, z2, rfl⟩, hb7⟩
              have H7 := Lib.hid (H6.out.below hb7)
              clear HCt2 hb7 a0
              have HSm : Hid (∀ W', Below (w7).heap.size (w7) W' → Calls Tryz.prog 15 #[.pointer (some ⟨St, 0, none⟩), .map (some H)] W' fun e w' => e = .returned (.bool true) ∧ Below W'.heap.size W' w') := fun W' hb => (H7.out.below hb).same HU.out.1
              have k2 : ∀ t : Kept (w7) [], t.u.cell? ⟨W, 2, none⟩ = some (.pointer (some ⟨St, 0, none⟩)) := fun t => t.h.cell H7.out.cells.2.2.1 (by simp)
              have k4 : ∀ t : Kept (w7) [], t.u.cell? ⟨W, 4, none⟩ = some (.map (some H)) := fun t => t.h.cell H7.out.cells.2.2.2.2.1 (by simp)
              go_wp2
              (refine region_kept ([]) [0, 1, 2, 3, 4, 5, 6, 7, 8, 9, 10] [11, 12, 13] (by kernel_rfl) (by kernel_rfl) (fun _ _ _ _ _ h => h) ?_; simp only [List.filterMap_cons, List.getElem?_cons_zero, List.getElem?_cons_succ, List.filterMap_nil]; (repeat ((show wpQuiet _ _ _ _ (_ :: _) _); go_big_quiet_step (fail))); refine wpQuiet_nil ?_)
              clear k2 k4
              refine wpSeqS_step ?_
              go_wp2_with fail
              refine (HSm.out (w7).drew (Below.refl _ _).drew).mono ?_
              rintro e w8 ⟨rfl, hb8⟩
              have H8 := Lib.hid (H7.out.below ((Below.refl _ _).drew.trans hb8))
              have HT8 : Hid (Turns (w7) w8 []) := Turns.of_below ((Below.refl _ _).drew.trans hb8) _
              clear hb8 HSm
              go_wp2_with fail
              refine outQ_normal HT8.out ?_
              refine wpSeqS_step ?_
              go_wp2
              refine outQ_normal HT8.out ?_
              refine wpSeqS_last ?_
              have HFin : Hid (PutL w0 ⟨W, St, Bk, Vb, M, Q, F, L, H, P, Al, cl, c, vs, xb⟩ x (.returned (.bool true)) w8) := (⟨rfl, ⟨W, St, Bk, Vb, M, Q, F, L, H, P, Al, cl, c, vs, xb⟩, x, H8.out, HU.out.1, Nat.le_succ _, HU.out.2.1, rfl, HU.out.2.2.1, rfl, rfl, rfl, rfl, rfl, rfl, rfl, fun h => ⟨rfl, h⟩⟩)
              go_wp2
              go_ret
              exact HFin.out
            | true =>
              first
              | (exfalso; have h1 := HOne.out rfl; have h2 := HN.out; omega)
              | skip
              all_goals
                obtain ⟨h1k, h1v⟩ := HOne.out rfl
                obtain ⟨k, rfl⟩ := List.length_eq_one_iff.1 h1k
                obtain ⟨y, rfl⟩ := List.length_eq_one_iff.1 h1v
                obtain rfl : nk = 1 := by have := HN.out; simpa using this.1
                obtain ⟨kb, ko, rfl, hkc⟩ := HKs.out.1 0 (by simp)
                obtain ⟨vb, vo, Ai, ci, rfl, hvc, hv8⟩ := HKs.out.2 0 (by simp)
                rw [Nat.add_zero] at hkc hvc
                obtain ⟨ym, hym⟩ : ∃ ym, ym = y.length := ⟨_, rfl⟩
                have HPu : Hid (∀ W', Below w5.heap.size w5 W' → Calls Tryz.prog 14 #[.pointer (some ⟨St, 0, none⟩), .int .i64 k, .slice Ai ym ci] W' (PAPost W' w0.heap.size M Q F L P x.S 192 St Bk Vb (natsI vs) c x.a x.q x.V [k] [y])) := fun W' hb => by
                  rw [hym]
                  refine (H5.out.below hb).put1 HU.out.2.2.1 HU.out.2.2.2 k Ai ci y (fun t ht => ?_) (H256.out y (by simp))
                  obtain ⟨b', off', e, hc⟩ := hv8 t ht
                  exact ⟨b', off', e, keep_below hb _ _ (keep_below HB5.out _ _ hc)⟩
                have k2 : ∀ t : Kept w5 [], t.u.cell? ⟨W, 2, none⟩ = some (.pointer (some ⟨St, 0, none⟩)) := fun t => t.h.cell H5.out.cells.2.2.1 (by simp)
                have kk : ∀ t : Kept w5 [], t.u.cell? ⟨kb, ko, none⟩ = some (.int .i64 k) := fun t => t.h.cell (keep_below HB5.out _ _ hkc) (by simp)
                have kv : ∀ t : Kept w5 [], t.u.cell? ⟨vb, vo, none⟩ = some (.slice Ai ym ci) := fun t => t.h.cell (by rw [hym]; exact keep_below HB5.out _ _ hvc) (by simp)
                clear hkc hvc hv8 hym h1k h1v
                go_wp2
                (refine region_kept ([]) [0, 1, 2, 3, 4, 5, 6, 7, 8, 9] [10, 11] (by kernel_rfl) (by kernel_rfl) (fun _ _ _ _ _ h => h) ?_; simp only [List.filterMap_cons, List.getElem?_cons_zero, List.getElem?_cons_succ, List.filterMap_nil]; (repeat ((show wpQuiet _ _ _ _ (_ :: _) _); go_big_quiet_step (fail))); refine wpQuiet_nil ?_)
                clear k2 kk kv
                refine wpSeqS_step ?_
                go_wp2_with fail
                refine (HPu.out w5.drew (Below.refl _ _).drew).mono ?_
                rintro e w6 hp
                obtain ⟨rfl, hb6'⟩ := hp.1 HNo.out
                have hb6 : Below w5.heap.size w5 w6 := (Below.refl _ _).drew.trans hb6'
                have H6 := Lib.hid (H5.out.below hb6)
                have HT6 : Hid (Turns w5 w6 []) := Turns.of_below hb6 _
                have HCt2 := Lib.hid (Count_any H6.out.med.fl)
                obtain ⟨a0, -, -, -, -, -, -, -⟩ := H6.out.cells
                dsimp only at a0
                clear HPu hp hb6 hb6' b0 b2
                go_wp2_with fail
                refine outQ_normal HT6.out ?_
                refine wpSeqS_last ?_
                go_wp2_with fail
                refine HCt2.out.mono ?_
                rintro e w7 ⟨⟨s2, r2, z2, rfl⟩, hb7⟩
                have H7 := Lib.hid (H6.out.below hb7)
                clear HCt2 hb7 a0
                have HSm : Hid (∀ W', Below (w7).heap.size (w7) W' → Calls Tryz.prog 15 #[.pointer (some ⟨St, 0, none⟩), .map (some H)] W' fun e w' => e = .returned (.bool true) ∧ Below W'.heap.size W' w') := fun W' hb => (H7.out.below hb).same HU.out.1
                have k2 : ∀ t : Kept (w7) [], t.u.cell? ⟨W, 2, none⟩ = some (.pointer (some ⟨St, 0, none⟩)) := fun t => t.h.cell H7.out.cells.2.2.1 (by simp)
                have k4 : ∀ t : Kept (w7) [], t.u.cell? ⟨W, 4, none⟩ = some (.map (some H)) := fun t => t.h.cell H7.out.cells.2.2.2.2.1 (by simp)
                go_wp2
                (refine region_kept ([]) [0, 1, 2, 3, 4, 5, 6, 7, 8, 9, 10] [11, 12, 13] (by kernel_rfl) (by kernel_rfl) (fun _ _ _ _ _ h => h) ?_; simp only [List.filterMap_cons, List.getElem?_cons_zero, List.getElem?_cons_succ, List.filterMap_nil]; (repeat ((show wpQuiet _ _ _ _ (_ :: _) _); go_big_quiet_step (fail))); refine wpQuiet_nil ?_)
                clear k2 k4
                refine wpSeqS_step ?_
                go_wp2_with fail
                refine (HSm.out (w7).drew (Below.refl _ _).drew).mono ?_
                rintro e w8 ⟨rfl, hb8⟩
                have H8 := Lib.hid (H7.out.below ((Below.refl _ _).drew.trans hb8))
                have HT8 : Hid (Turns (w7) w8 []) := Turns.of_below ((Below.refl _ _).drew.trans hb8) _
                clear hb8 HSm
                go_wp2_with fail
                refine outQ_normal HT8.out ?_
                refine wpSeqS_step ?_
                go_wp2
                refine outQ_normal HT8.out ?_
                refine wpSeqS_last ?_
                have HFin : Hid (PutL w0 ⟨W, St, Bk, Vb, M, Q, F, L, H, P, Al, cl, c, vs, xb⟩ x (.returned (.bool true)) w8) := (⟨rfl, ⟨W, St, Bk, Vb, M, Q, F, L, H, P, Al, cl, c, vs, xb⟩, x, H8.out, HU.out.1, Nat.le_succ _, HU.out.2.1, rfl, HU.out.2.2.1, rfl, rfl, rfl, rfl, rfl, rfl, rfl, fun h => ⟨rfl, h⟩⟩)
                go_wp2
                go_ret
                exact HFin.out
      · have HNo : Hid (¬ okKs ks vss.length) := fun hk => by
          have := hk.1
          have := HN.out; omega
        have HCt := Lib.hid (Count_any H3.out.med.fl)
        obtain ⟨a0, -, -, -, -, -, -, -⟩ := H3.out.cells
        dsimp only at a0
        have hzd : (nk = 0 ∧ ((0 : Int) < nk) = False) ∨ (0 < nk ∧ decide (0 < nk) = true) := by
          rcases Nat.eq_zero_or_pos nk with h | h
          · left; exact ⟨h, by simp [h]⟩
          · right; exact ⟨h, decide_eq_true h⟩
        rcases hzd with ⟨hz, hz2⟩ | ⟨hz, hz2⟩
        all_goals
          (try subst hz)
          go_wp2
          refine wp_loop_rounds 1 ?_
          rw [rounds_succ]
          go_wp2_with fail
          refine HCt.out.mono ?_
          rintro e w5 ⟨⟨s1, r1, z1, rfl⟩, hb5⟩
          have H5 := Lib.hid (H3.out.below hb5)
          have HB5 : Hid (Below w.heap.size w w5) := HBr.out.trans (hb5.mono HBr.out.size)
          obtain ⟨b0, -, b2, -, -, -, -, -⟩ := H5.out.cells
          dsimp only at b0 b2
          clear hb5 a0 HCt
          cases one with
          | false =>
            have HPA := Lib.hid (H5.out.putall HU.out.2.2.1 HU.out.2.2.2 Ak ck ks (HKs.out.1.below' HB5.out) (by rw [← HN.out.1]; exact hk20) Av cv vss (HKs.out.2.below HB5.out) (by rw [← HN.out.2]; exact hv20) H256.out)
            rw [← HN.out.1, ← HN.out.2] at HPA
            go_wp2_with fail
            refine HPA.out.mono ?_
            rintro e w6 hp
            obtain ⟨rfl, hb6⟩ := hp.1 HNo.out
            have H6 := Lib.hid (H5.out.below hb6)
            have HCt2 := Lib.hid (Count_any H6.out.med.fl)
            obtain ⟨a0, -, -, -, -, -, -, -⟩ := H6.out.cells
            dsimp only at a0
            clear HPA hp hb6 b0 b2
            go_wp2_with fail
            refine HCt2.out.mono ?_
            rintro e w7 ⟨⟨s2, r2, z2, rfl⟩, hb7⟩
            have H7 := Lib.hid (H6.out.below hb7)
            clear HCt2 hb7 a0
            have HSm : Hid (∀ W', Below (w7).heap.size (w7) W' → Calls Tryz.prog 15 #[.pointer (some ⟨St, 0, none⟩), .map (some H)] W' fun e w' => e = .returned (.bool true) ∧ Below W'.heap.size W' w') := fun W' hb => (H7.out.below hb).same HU.out.1
            have k2 : ∀ t : Kept (w7) [], t.u.cell? ⟨W, 2, none⟩ = some (.pointer (some ⟨St, 0, none⟩)) := fun t => t.h.cell H7.out.cells.2.2.1 (by simp)
            have k4 : ∀ t : Kept (w7) [], t.u.cell? ⟨W, 4, none⟩ = some (.map (some H)) := fun t => t.h.cell H7.out.cells.2.2.2.2.1 (by simp)
            go_wp2
            (refine region_kept ([]) [0, 1, 2, 3, 4, 5, 6, 7, 8, 9, 10] [11, 12, 13] (by kernel_rfl) (by kernel_rfl) (fun _ _ _ _ _ h => h) ?_; simp only [List.filterMap_cons, List.getElem?_cons_zero, List.getElem?_cons_succ, List.filterMap_nil]; (repeat ((show wpQuiet _ _ _ _ (_ :: _) _); go_big_quiet_step (fail))); refine wpQuiet_nil ?_)
            clear k2 k4
            refine wpSeqS_step ?_
            go_wp2_with fail
            refine (HSm.out (w7).drew (Below.refl _ _).drew).mono ?_
            rintro e w8 ⟨rfl, hb8⟩
            have H8 := Lib.hid (H7.out.below ((Below.refl _ _).drew.trans hb8))
            have HT8 : Hid (Turns (w7) w8 []) := Turns.of_below ((Below.refl _ _).drew.trans hb8) _
            clear hb8 HSm
            go_wp2_with fail
            refine outQ_normal HT8.out ?_
            refine wpSeqS_step ?_
            go_wp2
            refine outQ_normal HT8.out ?_
            refine wpSeqS_last ?_
            have HFin : Hid (PutL w0 ⟨W, St, Bk, Vb, M, Q, F, L, H, P, Al, cl, c, vs, xb⟩ x (.returned (.bool true)) w8) := (⟨rfl, ⟨W, St, Bk, Vb, M, Q, F, L, H, P, Al, cl, c, vs, xb⟩, x, H8.out, HU.out.1, Nat.le_succ _, HU.out.2.1, rfl, HU.out.2.2.1, rfl, rfl, rfl, rfl, rfl, rfl, rfl, fun h => ⟨rfl, h⟩⟩)
            go_wp2
            go_ret
            exact HFin.out
          | true =>
            first
            | (exfalso; have h1 := HOne.out rfl; have h2 := HN.out; omega)
            | skip
            all_goals
              obtain ⟨h1k, h1v⟩ := HOne.out rfl
              obtain ⟨k, rfl⟩ := List.length_eq_one_iff.1 h1k
              obtain ⟨y, rfl⟩ := List.length_eq_one_iff.1 h1v
              obtain rfl : nk = 1 := by have := HN.out; simpa using this.1
              obtain ⟨kb, ko, rfl, hkc⟩ := HKs.out.1 0 (by simp)
              obtain ⟨vb, vo, Ai, ci, rfl, hvc, hv8⟩ := HKs.out.2 0 (by simp)
              rw [Nat.add_zero] at hkc hvc
              obtain ⟨ym, hym⟩ : ∃ ym, ym = y.length := ⟨_, rfl⟩
              have HPu : Hid (∀ W', Below w5.heap.size w5 W' → Calls Tryz.prog 14 #[.pointer (some ⟨St, 0, none⟩), .int .i64 k, .slice Ai ym ci] W' (PAPost W' w0.heap.size M Q F L P x.S 192 St Bk Vb (natsI vs) c x.a x.q x.V [k] [y])) := fun W' hb => by
                rw [hym]
                refine (H5.out.below hb).put1 HU.out.2.2.1 HU.out.2.2.2 k Ai ci y (fun t ht => ?_) (H256.out y (by simp))
                obtain ⟨b', off', e, hc⟩ := hv8 t ht
                exact ⟨b', off', e, keep_below hb _ _ (keep_below HB5.out _ _ hc)⟩
              have k2 : ∀ t : Kept w5 [], t.u.cell? ⟨W, 2, none⟩ = some (.pointer (some ⟨St, 0, none⟩)) := fun t => t.h.cell H5.out.cells.2.2.1 (by simp)
              have kk : ∀ t : Kept w5 [], t.u.cell? ⟨kb, ko, none⟩ = some (.int .i64 k) := fun t => t.h.cell (keep_below HB5.out _ _ hkc) (by simp)
              have kv : ∀ t : Kept w5 [], t.u.cell? ⟨vb, vo, none⟩ = some (.slice Ai ym ci) := fun t => t.h.cell (by rw [hym]; exact keep_below HB5.out _ _ hvc) (by simp)
              clear hkc hvc hv8 hym h1k h1v
              go_wp2
              (refine region_kept ([]) [0, 1, 2, 3, 4, 5, 6, 7, 8, 9] [10, 11] (by kernel_rfl) (by kernel_rfl) (fun _ _ _ _ _ h => h) ?_; simp only [List.filterMap_cons, List.getElem?_cons_zero, List.getElem?_cons_succ, List.filterMap_nil]; (repeat ((show wpQuiet _ _ _ _ (_ :: _) _); go_big_quiet_step (fail))); refine wpQuiet_nil ?_)
              clear k2 kk kv
              refine wpSeqS_step ?_
              go_wp2_with fail
              refine (HPu.out w5.drew (Below.refl _ _).drew).mono ?_
              rintro e w6 hp
              obtain ⟨rfl, hb6'⟩ := hp.1 HNo.out
              have hb6 : Below w5.heap.size w5 w6 := (Below.refl _ _).drew.trans hb6'
              have H6 := Lib.hid (H5.out.below hb6)
              have HT6 : Hid (Turns w5 w6 []) := Turns.of_below hb6 _
              have HCt2 := Lib.hid (Count_any H6.out.med.fl)
              obtain ⟨a0, -, -, -, -, -, -, -⟩ := H6.out.cells
              dsimp only at a0
              clear HPu hp hb6 hb6' b0 b2
              go_wp2_with fail
              refine outQ_normal HT6.out ?_
              refine wpSeqS_last ?_
              go_wp2_with fail
              refine HCt2.out.mono ?_
              rintro e w7 ⟨⟨s2, r2, z2, rfl⟩, hb7⟩
              have H7 := Lib.hid (H6.out.below hb7)
              clear HCt2 hb7 a0
              have HSm : Hid (∀ W', Below (w7).heap.size (w7) W' → Calls Tryz.prog 15 #[.pointer (some ⟨St, 0, none⟩), .map (some H)] W' fun e w' => e = .returned (.bool true) ∧ Below W'.heap.size W' w') := fun W' hb => (H7.out.below hb).same HU.out.1
              have k2 : ∀ t : Kept (w7) [], t.u.cell? ⟨W, 2, none⟩ = some (.pointer (some ⟨St, 0, none⟩)) := fun t => t.h.cell H7.out.cells.2.2.1 (by simp)
              have k4 : ∀ t : Kept (w7) [], t.u.cell? ⟨W, 4, none⟩ = some (.map (some H)) := fun t => t.h.cell H7.out.cells.2.2.2.2.1 (by simp)
              go_wp2
              (refine region_kept ([]) [0, 1, 2, 3, 4, 5, 6, 7, 8, 9, 10] [11, 12, 13] (by kernel_rfl) (by kernel_rfl) (fun _ _ _ _ _ h => h) ?_; simp only [List.filterMap_cons, List.getElem?_cons_zero, List.getElem?_cons_succ, List.filterMap_nil]; (repeat ((show wpQuiet _ _ _ _ (_ :: _) _); go_big_quiet_step (fail))); refine wpQuiet_nil ?_)
              clear k2 k4
              refine wpSeqS_step ?_
              go_wp2_with fail
              refine (HSm.out (w7).drew (Below.refl _ _).drew).mono ?_
              rintro e w8 ⟨rfl, hb8⟩
              have H8 := Lib.hid (H7.out.below ((Below.refl _ _).drew.trans hb8))
              have HT8 : Hid (Turns (w7) w8 []) := Turns.of_below ((Below.refl _ _).drew.trans hb8) _
              clear hb8 HSm
              go_wp2_with fail
              refine outQ_normal HT8.out ?_
              refine wpSeqS_step ?_
              go_wp2
              refine outQ_normal HT8.out ?_
              refine wpSeqS_last ?_
              have HFin : Hid (PutL w0 ⟨W, St, Bk, Vb, M, Q, F, L, H, P, Al, cl, c, vs, xb⟩ x (.returned (.bool true)) w8) := (⟨rfl, ⟨W, St, Bk, Vb, M, Q, F, L, H, P, Al, cl, c, vs, xb⟩, x, H8.out, HU.out.1, Nat.le_succ _, HU.out.2.1, rfl, HU.out.2.2.1, rfl, rfl, rfl, rfl, rfl, rfl, rfl, fun h => ⟨rfl, h⟩⟩)
              go_wp2
              go_ret
              exact HFin.out
    · intro key v w8 cnt8 hfk hnk hit8 hlt8 hg8 hen
      obtain ⟨k, y, hk32, hVk, rfl, rfl⟩ := (HF.out key v).1 hfk
      have hhs8 : HasIs w8 Nx (selV x.U ts) := HHs.out.turns (Turns.of_grown hg8) (by
        have h2 := HZ.out
        have h3 := HR.out
        simp; omega)
      obtain ⟨w9, hr9, hs9, ht9⟩ := hhs8.set hk32 y
      have HIt9 : Hid (ToldIs Tryz.prog 3 w9 H r f ((k :: ts).map fun (k : Nat) => Value.int .i64 (k : Int)) cnt8) := hit8.turns ht9 (by have := HnoH.out.2; simp; omega) (by have h2 := HZ.out; have h3 := HR.out; simp; omega)
      have HHs9 : Hid (HasIs w9 Nx (selV x.U (k :: ts))) := by rw [selV_upd hVk] at hs9; exact hs9
      have HT9 : Hid (Turns w2 w9 [Nx, r]) := (HT.out.trans (Turns.of_grown hg8) (fun g hg => .inl (by rw [List.mem_singleton.1 hg]; simp))).trans ht9 (fun g hg => .inl (by rw [List.mem_singleton.1 hg]; simp))
      have HIn9 : Hid (∀ i ∈ k :: ts, i ∈ keysOf x.U) := fun i hi => by
        rcases List.mem_cons.1 hi with e | hi
        · rw [e]; exact (mem_keysOf x.U k).2 ⟨hk32, by rw [hVk]; rfl⟩
        · exact HTs.out i hi
      have hle : w9.rangeLeft H r = cnt8 := HIt9.out.left_eq
      have hlt : wr.rangeLeft H r = cnt := HIt.out.left_eq
      have HM : Hid (w9.rangeLeft H r < wr.rangeLeft H r) := by unfold Hid; omega
      obtain ⟨tx, htx⟩ : ∃ tx, tx = textOf y := ⟨_, rfl⟩
      rw [← htx] at hen hr9
      clear hfk hnk hit8 hlt8 hg8 hle hlt hVk hhs8 hs9 ht9 htx
      go_wp2
      go_roundw
      case rel => exact ⟨k :: ts, cnt8, HIt9.out, HIn9.out, HHs9.out, HT9.out⟩
      case measure => exact HM.out
end Go.Proofs.YthjomnaejhehoaaGreatDoor
