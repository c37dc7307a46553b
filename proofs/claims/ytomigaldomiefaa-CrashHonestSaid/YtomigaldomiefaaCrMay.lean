/- crash: May. -/
import Derived.Test.YtomigaldomiefaaCrPred
namespace Go.Proofs.Ytomigaldomiefaa
open Go.RowKit Go.Shelf Go.MapKept Go.ChangeMaps
attribute [local go_sem] Oper.semAt_some
attribute [local simp, local go_sem] wide_fn
set_option linter.unusedVariables false
set_option linter.unusedSimpArgs false
set_option maxRecDepth 100000 in
set_option maxHeartbeats 4000000 in
theorem May_any (B C H L : Nat) (v4 v5 : Value) (S : Cr) (T : List Nat) (f : FuncId) (lb : Array Value) (rd : Nat → List Nat) (w : World) (hrd : RdOk w T S.n f lb rd) (h : CrIs w B C H L v4 v5 S) :
    Calls Try.prog 11 #[.pointer (some ⟨C, 0, none⟩), .func (.func f) #[] lb] w fun e w' => e = .returned (.bool (S.may rd)) ∧ Below w.heap.size w w' := by
  obtain ⟨w1, hw1⟩ : ∃ w1, w1 = (w.alloc (.cells #[.pointer (some ⟨C, 0, none⟩)] 25)).alloc (.cells #[.func (.func f) #[] lb] 33) := ⟨_, rfl⟩
  obtain ⟨Zs, hZs⟩ : ∃ Zs, Zs = w.heap.size := ⟨_, rfl⟩
  obtain ⟨Zr, hZr⟩ : ∃ Zr, Zr = w.heap.size + 1 := ⟨_, rfl⟩
  have HB1 : Hid (Below w.heap.size w w1) := by unfold Hid; rw [hw1]; (repeat (first | (with_reducible refine Below.drew ?_) | (with_reducible refine below_drewN0 ?_ _) | ((with_reducible refine Below.setCell ?_ ?_ _); rotate_left; focus (first | omega | (simp; done) | (simp; omega) | (simp at *; omega))) | ((with_reducible refine Below.alloc ?_ ?_ _); rotate_left; focus (first | omega | (simp; done) | (simp; omega) | (simp at *; omega))) | (with_reducible exact Below.refl _ _)))
  have HR1 : Hid (Row w1 Zs 25 #[.pointer (some ⟨C, 0, none⟩)]) := by unfold Hid; rw [hw1, hZs]; exact (Row.fresh _ _ _).alloc _
  have HR2 : Hid (Row w1 Zr 33 #[.func (.func f) #[] lb]) := by
    unfold Hid; rw [hw1, hZr]
    have := Row.fresh (w.alloc (.cells #[.pointer (some ⟨C, 0, none⟩)] 25)) 33 #[.func (.func f) #[] lb]
    rw [World.size_alloc] at this; exact this
  have HC1 := Lib.hid (h.below HB1.out)
  have HRd : Hid (RdOk w1 T S.n f lb rd) := hrd.later (Turns.of_below HB1.out T)
  have HM := Lib.hid (moving_any B C H L v4 v5 S w1 HC1.out)
  have HW1 := Lib.hid hw1
  have HZs := Lib.hid hZs
  have HZr := Lib.hid hZr
  obtain ⟨n, hn⟩ : ∃ n, n = S.n := ⟨_, rfl⟩
  have HN := Lib.hid hn
  obtain ⟨ms, hms⟩ : ∃ ms, ms = (List.range S.n).filter S.mov := ⟨_, rfl⟩
  have HMs := Lib.hid hms
  have hns : n < 4294967296 := by rw [hn]; exact h.n.2
  have HMl : Hid (ms.length ≤ 4294967296) := by
    unfold Hid; rw [hms]
    have := List.length_filter_le S.mov (List.range S.n)
    rw [List.length_range] at this; omega
  have HMe : Hid ((seenL S.n S.mov).map encZ = ms.map (fun (p : Nat) => encZ p) ∧ (seenL S.n S.mov).length = ms.length) := by
    unfold Hid seenL; rw [hms]; simp [List.map_map, Function.comp_def]
  have c1 := HR1.out.cell 0
  simp only [List.getElem?_toArray, List.getElem?_cons_zero, List.getElem?_cons_succ] at c1
  clear h hrd hw1 hZs hZr hn hms
  go_enter Try.func11, Try.ntmps11
  go_wp2_with fail
  rw [← HW1.out, ← HZr.out, ← HZs.out]
  refine HM.out.mono ?_
  rintro e w2 ⟨v, rfl, hown, hb⟩
  rw [HMe.out.1, HMe.out.2] at hown
  have HB2 : Hid (Below w1.heap.size w1 w2) := hb
  have HOw := Lib.hid hown
  have HC2 := Lib.hid (HC1.out.below hb)
  have HRs2 := Lib.hid (HR1.out.below hb HR1.out.lt)
  have HRr2 := Lib.hid (HR2.out.below hb HR2.out.lt)
  have HRd2 : Hid (RdOk w2 T S.n f lb rd) := HRd.out.later (Turns.of_below hb T)
  clear HM hb hown c1
  have c1 := HRs2.out.cell 0
  have c2 := HC2.out.row.cell 0
  simp only [List.getElem?_toArray, List.getElem?_cons_zero, List.getElem?_cons_succ] at c1 c2
  rw [← HN.out] at c2
  go_wp2_with fail
  clear c1 c2
  go_loopw [6, 7, 8, 16] (fun _ _ _ i wr => ∃ j : Nat, i = .int .i64 j ∧ j ≤ n ∧ (∀ p, p < j → S.mov p = true ∨ S.at 0 p (rd p) = true) ∧ Below w2.heap.size w2 wr) (fun _ _ _ i _ => n - (intOf i).toNat)
  case atStart => exact ⟨0, rfl, by omega, fun p hp => by omega, Below.refl _ _⟩
  case round =>
    obtain ⟨j, rfl, hj, hpre, hb⟩ := hrel
    have HPre := Lib.hid hpre
    have HB := Lib.hid hb
    clear hpre hb
    by_cases hjn : j < n
    · have HSr := Lib.hid (search_any w1.heap.size v ms HMl.out wr (own_below HOw.out HB.out) (by rw [HMs.out]; exact (List.pairwise_lt_range.filter _).imp fun h => by omega) j)
      have HIn : Hid (ms.contains j = S.mov j) := by
        unfold Hid
        rw [Bool.eq_iff_iff, List.contains_iff_mem, HMs.out, List.mem_filter, List.mem_range]
        exact ⟨fun h => h.2, fun h => ⟨by rw [← HN.out]; exact hjn, h⟩⟩
      go_wp2_with fail
      refine HSr.out.mono ?_
      rintro e w3 ⟨i, rfl, hb3⟩
      have HB3 : Hid (Below w2.heap.size w2 w3) := HB.out.trans (hb3.mono HB.out.size)
      rw [HIn.out]
      clear hb3 HSr
      go_wp2_with fail
      have k1 : ∀ t : Later w3, t.u.cell? ⟨Zs, 0, none⟩ = some (.pointer (some ⟨C, 0, none⟩)) := fun t => ((HRs2.out.below HB3.out HRs2.out.lt).below t.h (HRs2.out.below HB3.out HRs2.out.lt).lt).cell 0
      have k2 : ∀ t : Later w3, t.u.cell? ⟨Zr, 0, none⟩ = some (.func (.func f) #[] lb) := fun t => ((HRr2.out.below HB3.out HRr2.out.lt).below t.h (HRr2.out.below HB3.out HRr2.out.lt).lt).cell 0
      have hS : ∃ t : Later w3, w3.drew = t.u := ⟨⟨_, (Below.refl _ _).drew⟩, rfl⟩
      cases hm : S.mov j with
      | true =>
        have HPre2 : Hid (∀ p, p < j + 1 → S.mov p = true ∨ S.at 0 p (rd p) = true) := fun p hp => by
          rcases Nat.lt_or_ge p j with h | h
          · exact HPre.out p h
          · obtain rfl : p = j := by omega
            exact .inl hm
        clear hm
        refine wp_region_noPanic ?_
        refine region_treeW (fun u => ∃ t : Later w3, u = t.u) (Tn.takes [0, 1, 2, 3, 4, 5, 6] (.one 7 (.one 8 (.take 9 (.take 10 .nil))))) (by kernel_rfl) (by kernel_rfl) (fun _ _ _ _ _ h => h) hS ?_
        simp only [Tn.takes]
        (repeat ((with_reducible refine wpTree_take (by with_unfolding_all exact rfl) ?_); (with_reducible (show wpQuiet _ _ _ _ (_ :: _) _)); go_big_quiet_step (fail); (with_reducible refine wpQuiet_nil ?_)))
        ((with_reducible refine wpTree_skip (by with_unfolding_all exact rfl) (by with_unfolding_all exact rfl) hS ?_); simp only [Act.put, List.setIfInBounds_toArray, List.set_cons_succ, List.set_cons_zero])
        ((with_reducible refine wpTree_skip (by with_unfolding_all exact rfl) (by with_unfolding_all exact rfl) hS ?_); simp only [Act.put, List.setIfInBounds_toArray, List.set_cons_succ, List.set_cons_zero])
        (repeat ((with_reducible refine wpTree_take (by with_unfolding_all exact rfl) ?_); (with_reducible (show wpQuiet _ _ _ _ (_ :: _) _)); go_big_quiet_step (fail); (with_reducible refine wpQuiet_nil ?_)))
        with_reducible refine wpTree_nil ?_
        refine NoPanic.normal ?_
        clear k1 k2 hS
        go_wp2
        go_roundw
        case rel => exact ⟨j + 1, by go_num, by omega, HPre2.out, HB3.out.drew⟩
        case measure => simp [intOf]; omega
      | false =>
        have HRp : Hid (Calls Try.prog f (#[.int .i64 j] ++ lb) w3.drew fun e w' => ∃ A c, e = .returned (.slice A (rd j).length c) ∧ Cells8 w' A (rd j) ∧ Below w3.drew.heap.size w3.drew w') := HRd2.out.ok j (by rw [← HN.out]; exact hjn) _ (Turns.of_below HB3.out.drew T)
        have hrun := HRd.out.run
        have HMv := Lib.hid hm
        clear hm
        refine wp_region_noPanic ?_
        refine region_treeW (fun u => ∃ t : Later w3, u = t.u) (Tn.takes [0, 1, 2, 3, 4, 5, 6] (.one 7 (.one 8 (.take 9 (.take 10 .nil))))) (by kernel_rfl) (by kernel_rfl) (fun _ _ _ _ _ h => h) hS ?_
        simp only [Tn.takes]
        (repeat ((with_reducible refine wpTree_take (by with_unfolding_all exact rfl) ?_); (with_reducible (show wpQuiet _ _ _ _ (_ :: _) _)); go_big_quiet_step (fail); (with_reducible refine wpQuiet_nil ?_)))
        (with_reducible refine wpTree_one (by with_unfolding_all exact rfl) ?_)
        gi_wp2_with fail
        refine ((callsIn_wide (n := 8)).2 HRp.out).mono ?_
        rintro e w4 ⟨A, c, rfl, hc8, hb⟩
        have HB4 : Hid (Below w3.heap.size w3 w4) := (Below.refl _ _).drew.trans hb
        have HB24 : Hid (Below w2.heap.size w2 w4) := HB3.out.trans (HB4.out.mono HB3.out.size)
        have HAt := Lib.hid (at_any B C H L v4 v5 S 0 j (Nat.zero_le _) (by rw [← HN.out]; exact hjn) A c (rd j) (HRd.out.byte j) w4 (HC2.out.below HB24.out) hc8)
        clear hc8 hb
        generalize (rd j).length = ln at *
        gi_wp2_with fail
        (with_reducible refine outQ_normal ?_ ?_); exact ⟨⟨w4, HB4.out⟩, rfl⟩
        (with_reducible refine wpTree_one (by with_unfolding_all exact rfl) ?_)
        gi_wp2_with fail
        refine ((callsIn_wide (n := 8)).2 HAt.out).mono ?_
        rintro e w5 ⟨rfl, hb⟩
        have HB5 : Hid (Below w3.heap.size w3 w5) := HB4.out.trans (hb.mono HB4.out.size)
        have HB25 : Hid (Below w2.heap.size w2 w5) := HB3.out.trans (HB5.out.mono HB3.out.size)
        clear hb
        gi_wp2_with fail
        (with_reducible refine outQ_normal ?_ ?_); exact ⟨⟨w5, HB5.out⟩, rfl⟩
        (repeat ((with_reducible refine wpTree_take (by with_unfolding_all exact rfl) ?_); (with_reducible (show wpQuiet _ _ _ _ (_ :: _) _)); go_big_quiet_step (fail); (with_reducible refine wpQuiet_nil ?_)))
        with_reducible refine wpTree_nil ?_
        refine NoPanic.normal ?_
        clear k1 k2 hS hrun
        cases ha : S.at 0 j (rd j) with
        | true =>
          have HPre2 : Hid (∀ p, p < j + 1 → S.mov p = true ∨ S.at 0 p (rd p) = true) := fun p hp => by
            rcases Nat.lt_or_ge p j with h | h
            · exact HPre.out p h
            · obtain rfl : p = j := by omega
              exact .inr ha
          clear ha
          go_wp2
          go_roundw
          case rel => exact ⟨j + 1, by go_num, by omega, HPre2.out, HB25.out⟩
          case measure => simp [intOf]; omega
        | false =>
          have HF : Hid (S.may rd = false) := by
            unfold Hid Cr.may
            rw [Bool.and_eq_false_iff]
            refine .inl ?_
            rw [List.all_eq_false]
            exact ⟨j, List.mem_range.2 (by rw [← HN.out]; exact hjn), by rw [HMv.out, ha]; simp⟩
          clear ha
          go_wp2
          go_ret
          exact ⟨by rw [HF.out]; rfl, HB1.out.trans ((HB2.out.trans (HB25.out.mono HB2.out.size)).mono HB1.out.size)⟩
    · obtain rfl : j = n := by omega
      have HLe := Lib.hid (Levels_any (HC2.out.below HB.out))
      have c1 := (HRs2.out.below HB.out HRs2.out.lt).cell 0
      simp only [List.getElem?_toArray, List.getElem?_cons_zero, List.getElem?_cons_succ] at c1
      obtain ⟨gn, hgn⟩ : ∃ gn, gn = S.groups.length + 1 := ⟨_, rfl⟩
      have HGn := Lib.hid hgn
      rw [← hgn] at HLe
      have hg32 : gn ≤ 1048577 := by have := HC2.out.few.1; omega
      clear hgn
      go_wp2_with fail
      refine HLe.out.mono ?_
      rintro e w3 ⟨rfl, hw3⟩
      subst hw3
      clear HLe c1
      go_wp2_with fail
      have HB0 := Lib.hid HB.out
      have HAll : Hid ((List.range S.n).all (fun p => S.mov p || S.at 0 p (rd p)) = true) := by
        unfold Hid
        rw [List.all_eq_true]
        intro p hp
        rcases HPre.out p (by rw [HN.out]; exact List.mem_range.1 hp) with h | h <;> simp [h]
      go_loopw [9, 39] (fun _ i wr => ∃ k : Nat, i = .int .i64 k ∧ k ≤ gn ∧ (∀ q, q < k → (List.range S.n).all (fun p => !S.mov p || S.at q p (rd p)) = false) ∧ Below w2.heap.size w2 wr) (fun _ i _ => gn - (intOf i).toNat)
      case atStart => exact ⟨0, rfl, by omega, fun q hq => by omega, HB.out⟩
      case round =>
        obtain ⟨k, rfl, hk, hno, hb⟩ := hrel
        have HNo := Lib.hid hno
        have HBk := Lib.hid hb
        clear hno hb
        by_cases hkn : k < gn
        · have hkg : k ≤ S.groups.length := by have := HGn.out; omega
          obtain ⟨wz, hwz⟩ : ∃ wz, wz = wr.alloc (.cells #[.int .i64 k] 3) := ⟨_, rfl⟩
          obtain ⟨Zk, hZk⟩ : ∃ Zk, Zk = wr.heap.size := ⟨_, rfl⟩
          have HRz : Hid (Row wz Zk 3 #[.int .i64 k]) := by unfold Hid; rw [hwz, hZk]; exact Row.fresh _ _ _
          have HBz : Hid (Below w2.heap.size w2 wz) := by unfold Hid; rw [hwz]; exact HBk.out.alloc HBk.out.size _
          have HWz := Lib.hid hwz
          have HZk := Lib.hid hZk
          have HCo := Lib.hid (ContainsFunc_any w1.heap.size v ms HMl.out wz (own_below HOw.out HBz.out) 39 #[.pointer (some ⟨Zs, 0, none⟩), .pointer (some ⟨Zk, 0, none⟩), .pointer (some ⟨Zr, 0, none⟩)]
            (enters_of Try.func39 (by kernel_rfl) rfl) (fun p => !S.at k p (rd p)) (fun p hp w' hb => by
              have hpn : p < S.n := by rw [HMs.out] at hp; exact List.mem_range.1 (List.mem_filter.1 hp).1
              have hb2 : Below w2.heap.size w2 w' := HBz.out.trans (hb.mono HBz.out.size)
              exact May1_any B C H L v4 v5 S k p hkg hpn w2 T f lb rd HRd2.out w' (Turns.of_below hb2 T) (HC2.out.below hb2) Zs Zk Zr ((HRs2.out.below hb2 HRs2.out.lt).cell 0) ((HRz.out.below hb HRz.out.lt).cell 0) ((HRr2.out.below hb2 HRr2.out.lt).cell 0)))
          have HAn : Hid ((ms.any fun p => !S.at k p (rd p)) = !((List.range S.n).all (fun p => !S.mov p || S.at k p (rd p)))) := by
            unfold Hid
            rw [HMs.out, List.any_filter, List.any_eq_not_all_not]
            congr 2
            funext p
            cases S.mov p <;> simp
          clear hwz hZk
          go_wp2_with fail
          rw [← HWz.out, ← HZk.out]
          refine HCo.out.mono ?_
          rintro e w4 ⟨rfl, hb⟩
          rw [HAn.out]
          have HB4 : Hid (Below w2.heap.size w2 w4) := HBz.out.trans (hb.mono HBz.out.size)
          clear hb HCo
          cases ha : (List.range S.n).all (fun p => !S.mov p || S.at k p (rd p)) with
          | true =>
            have HF : Hid (S.may rd = true) := by
              unfold Hid Cr.may
              rw [Bool.and_eq_true]
              exact ⟨HAll.out, List.any_eq_true.2 ⟨k, List.mem_range.2 (by have := HGn.out; omega), ha⟩⟩
            clear ha
            go_wp2
            go_ret
            exact ⟨by rw [HF.out]; rfl, HB1.out.trans ((HB2.out.trans (HB4.out.mono HB2.out.size)).mono HB1.out.size)⟩
          | false =>
            have HNo2 : Hid (∀ q, q < k + 1 → (List.range S.n).all (fun p => !S.mov p || S.at q p (rd p)) = false) := fun q hq => by
              rcases Nat.lt_or_ge q k with h | h
              · exact HNo.out q h
              · obtain rfl : q = k := by omega
                exact ha
            clear ha
            go_wp2
            go_roundw
            case rel => exact ⟨k + 1, by go_num, by omega, HNo2.out, HB4.out⟩
            case measure => simp [intOf]; omega
        · obtain rfl : k = gn := by omega
          have HF : Hid (S.may rd = false) := by
            unfold Hid Cr.may
            rw [Bool.and_eq_false_iff]
            refine .inr ?_
            rw [List.any_eq_false]
            intro q hq
            rw [HNo.out q (by have := List.mem_range.1 hq; have := HGn.out; omega)]
            simp
          go_wp2
          go_ret
          exact ⟨by rw [HF.out]; rfl, HB1.out.trans ((HB2.out.trans (HBk.out.mono HB2.out.size)).mono HB1.out.size)⟩
end Go.Proofs.Ytomigaldomiefaa
