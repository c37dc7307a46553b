/- What follows is laid together from several texts of mine, in their order. -/
import Derived.Test.YtomigaldomiefaaQ13
import Derived.Test.YtomigaldomiefaaQ17

namespace Go.Proofs.Ytomigaldomiefaa
open Go.RowKit Go.Shelf Go.MapKept Go.ChangeMaps
attribute [local go_sem] Oper.semAt_some
attribute [local simp, local go_sem] wide_fn
set_option linter.unusedVariables false
set_option linter.unusedSimpArgs false
set_option maxRecDepth 100000 in
set_option maxHeartbeats 4000000 in
theorem May_any (B C H L : Nat) (v4 v5 : Value) (S : Cr) (T : List Nat) (f : FuncId) (lb : Array Value) (rd : Nat → List Nat) (w : World) (hrd : RdOk w T S.n f lb rd) (h : CrIs w B C H L v4 v5 S) :
    Calls Try.prog 11 #[.pointer (some ⟨C, 0, none⟩), .func (.func f) #[] lb] w fun e w' => e = .returned (.bool (S.may rd)) ∧ Below w.heap.size w w' := by
  obtain ⟨w1, hw1⟩ : ∃ w1, w1 = (w.alloc (.cells #[.pointer (some ⟨C, 0, none⟩)] 25)).alloc (.cells #[.func (.func f) #[] lb] 33) := ⟨_, rfl⟩
  obtain ⟨Zs, hZs⟩ : ∃ Zs, Zs = w.heap.size := ⟨_, rfl⟩
  obtain ⟨Zr, hZr⟩ : ∃ Zr, Zr = w.heap.size + 1 := ⟨_, rfl⟩
  have HB1 : Hid (Below w.heap.size w w1) := by unfold Hid; rw [hw1]; (repeat (first | (with_reducible refine Below.drew ?_) | (with_reducible refine below_drewN0 ?_ _) | ((with_reducible refine Below.setCell ?_ ?_ _); rotate_left; focus (first | omega | (simp; done) | (simp; omega) | (simp at *; omega))) | ((with_reducible refine Below.alloc ?_ ?_ _); rotate_left; focus (first | omega | (simp; done) | (simp; omega) | (simp at *; omega))) | (with_reducible exact Below.refl _ _)))
  have HR1 : Hid (Row w1 Zs 25 #[.pointer (some ⟨C, 0, none⟩)]) := by unfold Hid; rw [hw1, hZs]; exact (Row.fresh _ _ _).alloc _
  have HR2 : Hid (Row w1 Zr 33 #[.func (.func f) #[] lb]) := by
    unfold Hid; rw [hw1, hZr]
    have := Row.fresh (w.alloc (.cells #[.pointer (some ⟨C, 0, none⟩)] 25)) 33 #[.func (.func f) #[] lb]
    rw [World.size_alloc] at this; exact this
  have HC1 := Lib.hid (h.below HB1.out)
  have HRd : Hid (RdOk w1 T S.n f lb rd) := hrd.later (Turns.of_below HB1.out T)
  have HM := Lib.hid (moving_any B C H L v4 v5 S w1 HC1.out)
  have HW1 := Lib.hid hw1
  have HZs := Lib.hid hZs
  have HZr := Lib.hid hZr
  obtain ⟨n, hn⟩ : ∃ n, n = S.n := ⟨_, rfl⟩
  have HN := Lib.hid hn
  obtain ⟨ms, hms⟩ : ∃ ms, ms = (List.range S.n).filter S.mov := ⟨_, rfl⟩
  have HMs := Lib.hid hms
  have hns : n < 4294967296 := by rw [hn]; exact h.n.2
  have HMl : Hid (ms.length ≤ 4294967296) := by
    unfold Hid; rw [hms]
    have := List.length_filter_le S.mov (List.range S.n)
    rw [List.length_range] at this; omega
  have HMe : Hid ((seenL S.n S.mov).map encZ = ms.map (fun (p : Nat) => encZ p) ∧ (seenL S.n S.mov).length = ms.length) := by
    unfold Hid seenL; rw [hms]; simp [List.map_map, Function.comp_def]
  have c1 := HR1.out.cell 0
  simp only [List.getElem?_toArray, List.getElem?_cons_zero, List.getElem?_cons_succ] at c1
  clear h hrd hw1 hZs hZr hn hms
  go_enter Try.func11, Try.ntmps11
  go_wp2_with fail
  rw [← HW1.out, ← HZr.out, ← HZs.out]
  refine HM.out.mono ?_
  rintro e w2 ⟨v, rfl, hown, hb⟩
  rw [HMe.out.1, HMe.out.2] at hown
  have HB2 : Hid (Below w1.heap.size w1 w2) := hb
  have HOw := Lib.hid hown
  have HC2 := Lib.hid (HC1.out.below hb)
  have HRs2 := Lib.hid (HR1.out.below hb HR1.out.lt)
  have HRr2 := Lib.hid (HR2.out.below hb HR2.out.lt)
  have HRd2 : Hid (RdOk w2 T S.n f lb rd) := HRd.out.later (Turns.of_below hb T)
  clear HM hb hown c1
  have c1 := HRs2.out.cell 0
  have c2 := HC2.out.row.cell 0
  simp only [List.getElem?_toArray, List.getElem?_cons_zero, List.getElem?_cons_succ] at c1 c2
  rw [← HN.out] at c2
  go_wp2_with fail
  clear c1 c2
  go_loopw [6, 7, 8, 16] (fun _ _ _ i wr => ∃ j : Nat, i = .int .i64 j ∧ j ≤ n ∧ (∀ p, p < j → S.mov p = true ∨ S.at 0 p (rd p) = true) ∧ Below w2.heap.size w2 wr) (fun _ _ _ i _ => n - (intOf i).toNat)
  case atStart => exact ⟨0, rfl, by omega, fun p hp => by omega, Below.refl _ _⟩
  case round =>
    obtain ⟨j, rfl, hj, hpre, hb⟩ := hrel
    have HPre := Lib.hid hpre
    have HB := Lib.hid hb
    clear hpre hb
    by_cases hjn : j < n
    · have HSr := Lib.hid (search_any w1.heap.size v ms HMl.out wr (own_below HOw.out HB.out) (by rw [HMs.out]; exact (List.pairwise_lt_range.filter _).imp fun h => by omega) j)
      have HIn : Hid (ms.contains j = S.mov j) := by
        unfold Hid
        rw [Bool.eq_iff_iff, List.contains_iff_mem, HMs.out, List.mem_filter, List.mem_range]
        exact ⟨fun h => h.2, fun h => ⟨by rw [← HN.out]; exact hjn, h⟩⟩
      go_wp2_with fail
      refine HSr.out.mono ?_
      rintro e w3 ⟨i, rfl, hb3⟩
      have HB3 : Hid (Below w2.heap.size w2 w3) := HB.out.trans (hb3.mono HB.out.size)
      rw [HIn.out]
      clear hb3 HSr
      go_wp2_with fail
      have k1 : ∀ t : Later w3, t.u.cell? ⟨Zs, 0, none⟩ = some (.pointer (some ⟨C, 0, none⟩)) := fun t => ((HRs2.out.below HB3.out HRs2.out.lt).below t.h (HRs2.out.below HB3.out HRs2.out.lt).lt).cell 0
      have k2 : ∀ t : Later w3, t.u.cell? ⟨Zr, 0, none⟩ = some (.func (.func f) #[] lb) := fun t => ((HRr2.out.below HB3.out HRr2.out.lt).below t.h (HRr2.out.below HB3.out HRr2.out.lt).lt).cell 0
      have hS : ∃ t : Later w3, w3.drew = t.u := ⟨⟨_, (Below.refl _ _).drew⟩, rfl⟩
      cases hm : S.mov j with
      | true =>
        have HPre2 : Hid (∀ p, p < j + 1 → S.mov p = true ∨ S.at 0 p (rd p) = true) := fun p hp => by
          rcases Nat.lt_or_ge p j with h | h
          · exact HPre.out p h
          · obtain rfl : p = j := by omega
            exact .inl hm
        clear hm
        refine wp_region_noPanic ?_
        refine region_treeW (fun u => ∃ t : Later w3, u = t.u) (Tn.takes [0, 1, 2, 3, 4, 5, 6] (.one 7 (.one 8 (.take 9 (.take 10 .nil))))) (by kernel_rfl) (by kernel_rfl) (fun _ _ _ _ _ h => h) hS ?_
        simp only [Tn.takes]
        (repeat ((with_reducible refine wpTree_take (by with_unfolding_all exact rfl) ?_); (with_reducible (show wpQuiet _ _ _ _ (_ :: _) _)); go_big_quiet_step (fail); (with_reducible refine wpQuiet_nil ?_)))
        ((with_reducible refine wpTree_skip (by with_unfolding_all exact rfl) (by with_unfolding_all exact rfl) hS ?_); simp only [Act.put, List.setIfInBounds_toArray, List.set_cons_succ, List.set_cons_zero])
        ((with_reducible refine wpTree_skip (by with_unfolding_all exact rfl) (by with_unfolding_all exact rfl) hS ?_); simp only [Act.put, List.setIfInBounds_toArray, List.set_cons_succ, List.set_cons_zero])
        (repeat ((with_reducible refine wpTree_take (by with_unfolding_all exact rfl) ?_); (with_reducible (show wpQuiet _ _ _ _ (_ :: _) _)); go_big_quiet_step (fail); (with_reducible refine wpQuiet_nil ?_)))
        with_reducible refine wpTree_nil ?_
        refine NoPanic.normal ?_
        clear k1 k2 hS
        go_wp2
        go_roundw
        case rel => exact ⟨j + 1, by go_num, by omega, HPre2.out, HB3.out.drew⟩
        case measure => simp [intOf]; omega
      | false =>
        have HRp : Hid (Calls Try.prog f (#[.int .i64 j] ++ lb) w3.drew fun e w' => ∃ A c, e = .returned (.slice A (rd j).length c) ∧ Cells8 w' A (rd j) ∧ Below w3.drew.heap.size w3.drew w') := HRd2.out.ok j (by rw [← HN.out]; exact hjn) _ (Turns.of_below HB3.out.drew T)
        have hrun := HRd.out.run
        have HMv := Lib.hid hm
        clear hm
        refine wp_region_noPanic ?_
        refine region_treeW (fun u => ∃ t : Later w3, u = t.u) (Tn.takes [0, 1, 2, 3, 4, 5, 6] (.one 7 (.one 8 (.take 9 (.take 10 .nil))))) (by kernel_rfl) (by kernel_rfl) (fun _ _ _ _ _ h => h) hS ?_
        simp only [Tn.takes]
        (repeat ((with_reducible refine wpTree_take (by with_unfolding_all exact rfl) ?_); (with_reducible (show wpQuiet _ _ _ _ (_ :: _) _)); go_big_quiet_step (fail); (with_reducible refine wpQuiet_nil ?_)))
        (with_reducible refine wpTree_one (by with_unfolding_all exact rfl) ?_)
        gi_wp2_with fail
        refine ((callsIn_wide (n := 8)).2 HRp.out).mono ?_
        rintro e w4 ⟨A, c, rfl, hc8, hb⟩
        have HB4 : Hid (Below w3.heap.size w3 w4) := (Below.refl _ _).drew.trans hb
        have HB24 : Hid (Below w2.heap.size w2 w4) := HB3.out.trans (HB4.out.mono HB3.out.size)
        have HAt := Lib.hid (at_any B C H L v4 v5 S 0 j (Nat.zero_le _) (by rw [← HN.out]; exact hjn) A c (rd j) (HRd.out.byte j) w4 (HC2.out.below HB24.out) hc8)
        clear hc8 hb
        generalize (rd j).length = ln at *
        gi_wp2_with fail
        (with_reducible refine outQ_normal ?_ ?_); exact ⟨⟨w4, HB4.out⟩, rfl⟩
        (with_reducible refine wpTree_one (by with_unfolding_all exact rfl) ?_)
        gi_wp2_with fail
        refine ((callsIn_wide (n := 8)).2 HAt.out).mono ?_
        rintro e w5 ⟨rfl, hb⟩
        have HB5 : Hid (Below w3.heap.size w3 w5) := HB4.out.trans (hb.mono HB4.out.size)
        have HB25 : Hid (Below w2.heap.size w2 w5) := HB3.out.trans (HB5.out.mono HB3.out.size)
        clear hb
        gi_wp2_with fail
        (with_reducible refine outQ_normal ?_ ?_); exact ⟨⟨w5, HB5.out⟩, rfl⟩
        (repeat ((with_reducible refine wpTree_take (by with_unfolding_all exact rfl) ?_); (with_reducible (show wpQuiet _ _ _ _ (_ :: _) _)); go_big_quiet_step (fail); (with_reducible refine wpQuiet_nil ?_)))
        with_reducible refine wpTree_nil ?_
        refine NoPanic.normal ?_
        clear k1 k2 hS hrun
        cases ha : S.at 0 j (rd j) with
        | true =>
          have HPre2 : Hid (∀ p, p < j + 1 → S.mov p = true ∨ S.at 0 p (rd p) = true) := fun p hp => by
            rcases Nat.lt_or_ge p j with h | h
            · exact HPre.out p h
            · obtain rfl : p = j := by omega
              exact .inr ha
          clear ha
          go_wp2
          go_roundw
          case rel => exact ⟨j + 1, by go_num, by omega, HPre2.out, HB25.out⟩
          case measure => simp [intOf]; omega
        | false =>
          have HF : Hid (S.may rd = false) := by
            unfold Hid Cr.may
            rw [Bool.and_eq_false_iff]
            refine .inl ?_
            rw [List.all_eq_false]
            exact ⟨j, List.mem_range.2 (by rw [← HN.out]; exact hjn), by rw [HMv.out, ha]; simp⟩
          clear ha
          go_wp2
          go_ret
          exact ⟨by rw [HF.out]; rfl, HB1.out.trans ((HB2.out.trans (HB25.out.mono HB2.out.size)).mono HB1.out.size)⟩
    · obtain rfl : j = n := by omega
      have HLe := Lib.hid (Levels_any (HC2.out.below HB.out))
      have c1 := (HRs2.out.below HB.out HRs2.out.lt).cell 0
      simp only [List.getElem?_toArray, List.getElem?_cons_zero, List.getElem?_cons_succ] at c1
      obtain ⟨gn, hgn⟩ : ∃ gn, gn = S.groups.length + 1 := ⟨_, rfl⟩
      have HGn := Lib.hid hgn
      rw [← hgn] at HLe
      have hg32 : gn ≤ 1048577 := by have := HC2.out.few.1; omega
      clear hgn
      go_wp2_with fail
      refine HLe.out.mono ?_
      rintro e w3 ⟨rfl, hw3⟩
      subst hw3
      clear HLe c1
      go_wp2_with fail
      have HB0 := Lib.hid HB.out
      have HAll : Hid ((List.range S.n).all (fun p => S.mov p || S.at 0 p (rd p)) = true) := by
        unfold Hid
        rw [List.all_eq_true]
        intro p hp
        rcases HPre.out p (by rw [HN.out]; exact List.mem_range.1 hp) with h | h <;> simp [h]
      go_loopw [9, 39] (fun _ i wr => ∃ k : Nat, i = .int .i64 k ∧ k ≤ gn ∧ (∀ q, q < k → (List.range S.n).all (fun p => !S.mov p || S.at q p (rd p)) = false) ∧ Below w2.heap.size w2 wr) (fun _ i _ => gn - (intOf i).toNat)
      case atStart => exact ⟨0, rfl, by omega, fun q hq => by omega, HB.out⟩
      case round =>
        obtain ⟨k, rfl, hk, hno, hb⟩ := hrel
        have HNo := Lib.hid hno
        have HBk := Lib.hid hb
        clear hno hb
        by_cases hkn : k < gn
        · have hkg : k ≤ S.groups.length := by have := HGn.out; omega
          obtain ⟨wz, hwz⟩ : ∃ wz, wz = wr.alloc (.cells #[.int .i64 k] 3) := ⟨_, rfl⟩
          obtain ⟨Zk, hZk⟩ : ∃ Zk, Zk = wr.heap.size := ⟨_, rfl⟩
          have HRz : Hid (Row wz Zk 3 #[.int .i64 k]) := by unfold Hid; rw [hwz, hZk]; exact Row.fresh _ _ _
          have HBz : Hid (Below w2.heap.size w2 wz) := by unfold Hid; rw [hwz]; exact HBk.out.alloc HBk.out.size _
          have HWz := Lib.hid hwz
          have HZk := Lib.hid hZk
          have HCo := Lib.hid (ContainsFunc_any w1.heap.size v ms HMl.out wz (own_below HOw.out HBz.out) 39 #[.pointer (some ⟨Zs, 0, none⟩), .pointer (some ⟨Zk, 0, none⟩), .pointer (some ⟨Zr, 0, none⟩)]
            (enters_of Try.func39 (by kernel_rfl) rfl) (fun p => !S.at k p (rd p)) (fun p hp w' hb => by
              have hpn : p < S.n := by rw [HMs.out] at hp; exact List.mem_range.1 (List.mem_filter.1 hp).1
              have hb2 : Below w2.heap.size w2 w' := HBz.out.trans (hb.mono HBz.out.size)
              exact May1_any B C H L v4 v5 S k p hkg hpn w2 T f lb rd HRd2.out w' (Turns.of_below hb2 T) (HC2.out.below hb2) Zs Zk Zr ((HRs2.out.below hb2 HRs2.out.lt).cell 0) ((HRz.out.below hb HRz.out.lt).cell 0) ((HRr2.out.below hb2 HRr2.out.lt).cell 0)))
          have HAn : Hid ((ms.any fun p => !S.at k p (rd p)) = !((List.range S.n).all (fun p => !S.mov p || S.at k p (rd p)))) := by
            unfold Hid
            rw [HMs.out, List.any_filter, List.any_eq_not_all_not]
            congr 2
            funext p
            cases S.mov p <;> simp
          clear hwz hZk
          go_wp2_with fail
          rw [← HWz.out, ← HZk.out]
          refine HCo.out.mono ?_
          rintro e w4 ⟨rfl, hb⟩
          rw [HAn.out]
          have HB4 : Hid (Below w2.heap.size w2 w4) := HBz.out.trans (hb.mono HBz.out.size)
          clear hb HCo
          cases ha : (List.range S.n).all (fun p => !S.mov p || S.at k p (rd p)) with
          | true =>
            have HF : Hid (S.may rd = true) := by
              unfold Hid Cr.may
              rw [Bool.and_eq_true]
              exact ⟨HAll.out, List.any_eq_true.2 ⟨k, List.mem_range.2 (by have := HGn.out; omega), ha⟩⟩
            clear ha
            go_wp2
            go_ret
            exact ⟨by rw [HF.out]; rfl, HB1.out.trans ((HB2.out.trans (HB4.out.mono HB2.out.size)).mono HB1.out.size)⟩
          | false =>
            have HNo2 : Hid (∀ q, q < k + 1 → (List.range S.n).all (fun p => !S.mov p || S.at q p (rd p)) = false) := fun q hq => by
              rcases Nat.lt_or_ge q k with h | h
              · exact HNo.out q h
              · obtain rfl : q = k := by omega
                exact ha
            clear ha
            go_wp2
            go_roundw
            case rel => exact ⟨k + 1, by go_num, by omega, HNo2.out, HB4.out⟩
            case measure => simp [intOf]; omega
        · obtain rfl : k = gn := by omega
          have HF : Hid (S.may rd = false) := by
            unfold Hid Cr.may
            rw [Bool.and_eq_false_iff]
            refine .inr ?_
            rw [List.any_eq_false]
            intro q hq
            rw [HNo.out q (by have := List.mem_range.1 hq; have := HGn.out; omega)]
            simp
          go_wp2
          go_ret
          exact ⟨by rw [HF.out]; rfl, HB1.out.trans ((HB2.out.trans (HBk.out.mono HB2.out.size)).mono HB1.out.size)⟩
end Go.Proofs.Ytomigaldomiefaa

namespace Go.Proofs.Ytomigaldomiefaa
open Go.RowKit Go.Shelf Go.MapKept Go.ChangeMaps
attribute [local go_sem] Oper.semAt_some
attribute [local simp, local go_sem] wide_fn
set_option linter.unusedVariables false
set_option linter.unusedSimpArgs false
/-- What is so from now on, of the places before j. -/
def Cr.settled (S : Cr) (rd : Nat → List Nat) (j : Nat) : Cr := { n := S.n, sz := S.sz, has := fun q => if q < j ∧ (rd q).length = S.sz then some (rd q) else S.has q, loose := fun _ => false, groups := [], fly := [] }
theorem settled_step (S : Cr) (rd : Nat → List Nat) (j : Nat) (h : (rd j).length = S.sz) : S.settled rd (j + 1) = { S.settled rd j with has := updH (S.settled rd j).has j (rd j) } := by
  unfold Cr.settled updH
  congr 1
  funext q
  by_cases e : q = j
  · subst e; rw [if_pos ⟨by omega, h⟩, if_pos rfl]
  · rw [if_neg e]
    show _ = if q < j ∧ (rd q).length = S.sz then some (rd q) else S.has q
    by_cases h2 : q < j ∧ (rd q).length = S.sz
    · rw [if_pos h2, if_pos ⟨by omega, h2.2⟩]
    · rw [if_neg h2, if_neg (fun h3 => h2 ⟨by omega, h3.2⟩)]
theorem settled_skip (S : Cr) (rd : Nat → List Nat) (j : Nat) (h : ¬ (rd j).length = S.sz) : S.settled rd (j + 1) = S.settled rd j := by
  unfold Cr.settled
  congr 1
  funext q
  by_cases h2 : q < j ∧ (rd q).length = S.sz
  · rw [if_pos h2, if_pos ⟨by omega, h2.2⟩]
  · rw [if_neg h2, if_neg (fun h3 => by
      by_cases e : q = j
      · exact h (e ▸ h3.2)
      · exact h2 ⟨by omega, h3.2⟩)]
section
variable {w : World} {B C H L : Nat} {v4 v5 : Value} {S : Cr}
theorem CrIs.clearL (h : CrIs w B C H L v4 v5 S) (ty : TypeId) :
    ∃ w1, (Builtin.clear_ #[65] ty #[.map (some L)]).run Try.prog w = .ok (.tuple #[]) w1 ∧ CrIs w1 B C H L v4 v5 { S with loose := fun _ => false } ∧ Turns w w1 [L] := by
  obtain ⟨⟨m, f, h1, h2⟩, h3⟩ := h.loose
  obtain ⟨w1, hr, hm, hg⟩ := h1.clear (ty := ty) spotL_under
  exact ⟨w1, hr, h.putL (Turns.of_grown hg) ⟨⟨_, _, hm, by simp⟩, by simp⟩, Turns.of_grown hg⟩
set_option maxRecDepth 100000 in
set_option maxHeartbeats 4000000 in
theorem Settle_any (f : FuncId) (lb : Array Value) (rd : Nat → List Nat) (hrd : RdOk w [C, H, L] S.n f lb rd) (h : CrIs w B C H L v4 v5 S) :
    Calls Try.prog 17 #[.pointer (some ⟨C, 0, none⟩), .func (.func f) #[] lb] w fun e w' => e = .returned (.bool (S.may rd)) ∧ (if S.may rd = true then CrIs w' B C H L (.slice none 0 0) (.slice none 0 0) (S.settled rd S.n) else CrIs w' B C H L v4 v5 S) ∧ Turns w w' [C, H, L] := by
  have HM := Lib.hid (May_any B C H L v4 v5 S [C, H, L] f lb rd w hrd h)
  have HC0 := Lib.hid h
  have HRd := Lib.hid hrd
  clear h hrd
  cases hm : S.may rd with
  | false =>
    rw [hm] at HM
    clear hm
    go_enter Try.func17, Try.ntmps17
    go_wp2_with fail
    refine HM.out.mono ?_
    rintro e w1 ⟨rfl, hb⟩
    have HB := Lib.hid hb
    clear HM hb
    go_wp2
    go_ret
    exact ⟨rfl, HC0.out.below HB.out, Turns.of_below HB.out _⟩
  | true =>
    rw [hm] at HM
    clear hm
    go_enter Try.func17, Try.ntmps17
    go_wp2_with fail
    refine HM.out.mono ?_
    rintro e w1 ⟨rfl, hb⟩
    have HB := Lib.hid hb
    have HC1 := Lib.hid (HC0.out.below hb)
    obtain ⟨w2, hcl, hc2, ht2⟩ := HC1.out.clearL 0
    have HC2 := Lib.hid hc2
    have HT2 : Hid (Turns w w2 [C, H, L]) := (Turns.of_below hb _).trans ht2 (fun k hk => .inl (by rw [List.mem_singleton.1 hk]; simp))
    have c3 := HC1.out.row.cell 3
    have hc4 := HC2.out.put4 (GrsIs.nil w2 B) (by simp) (by simp)
    have HC4 := Lib.hid hc4
    have HC5 := Lib.hid (hc4.put5 (WrsIs.nil _ B) (by simp [OkL]) (by simp))
    have z4 := HC2.out.row.frozen 4
    have z5 := HC4.out.row.frozen 5
    have d4 := HC2.out.row.cell 4
    have d5 := HC4.out.row.cell 5
    simp only [List.getElem?_toArray, List.getElem?_cons_zero, List.getElem?_cons_succ] at c3 d4 d5
    obtain ⟨w5, hw5⟩ : ∃ w5, w5 = (w2.setCell ⟨C, 4, none⟩ (.slice none 0 0)).setCell ⟨C, 5, none⟩ (.slice none 0 0) := ⟨_, rfl⟩
    have HT5 : Hid (Turns w w5 [C, H, L]) := by unfold Hid; rw [hw5]; exact (HT2.out.setCell (by simp) _).setCell (by simp) _
    have HC6 : Hid (CrIs w5 B C H L (.slice none 0 0) (.slice none 0 0) (S.settled rd 0)) := by unfold Hid; rw [hw5]; exact HC5.out
    have HW5 := Lib.hid hw5
    obtain ⟨n, hn⟩ : ∃ n, n = S.n := ⟨_, rfl⟩
    have HN := Lib.hid hn
    have hn32 : n < 4294967296 := by rw [hn]; exact HC0.out.n.2
    have d0 : ((w2.setCell ⟨C, 4, none⟩ (.slice none 0 0)).setCell ⟨C, 5, none⟩ (.slice none 0 0)).cell? ⟨C, 0, none⟩ = some (.int .i64 n) := by rw [hn]; exact HC5.out.row.cell 0
    have HSz : Hid (S.sz ≤ 65536) := HC0.out.sz.2
    clear HM hb hc2 ht2 hw5 hn hc4
    go_wp2_with fail
    rw [← HW5.out]
    clear hcl z4 z5 c3 d4 d5 d0
    go_loopw [5, 6, 25] (fun _ _ i wr => ∃ j : Nat, i = .int .i64 j ∧ j ≤ n ∧ CrIs wr B C H L (.slice none 0 0) (.slice none 0 0) (S.settled rd j) ∧ Turns w wr [C, H, L]) (fun _ _ i _ => n - (intOf i).toNat)
    case atStart => exact ⟨0, rfl, by omega, HC6.out, HT5.out⟩
    case round =>
      obtain ⟨j, rfl, hj, hc, ht⟩ := hrel
      have HCj := Lib.hid hc
      have HTj := Lib.hid ht
      by_cases hjn : j < n
      · have HRj := Lib.hid (HRd.out.ok j (by rw [← HN.out]; exact hjn) wr ht)
        have hrun := HRd.out.run
        clear hc ht
        go_wp2_with fail
        refine HRj.out.mono ?_
        rintro e w7 ⟨A, c, rfl, hc8, hb⟩
        have HC7 := Lib.hid (HCj.out.below hb)
        have HT7 : Hid (Turns w w7 [C, H, L]) := HTj.out.then_below hb
        have H8 := Lib.hid hc8
        obtain ⟨sz, hsz⟩ : ∃ sz, sz = S.sz := ⟨_, rfl⟩
        have HSe := Lib.hid hsz
        have c1 : w7.cell? ⟨C, 1, none⟩ = some (.int .i64 sz) := by rw [hsz]; exact HC7.out.row.cell 1
        clear hb hc8 HRj hrun hsz
        by_cases hl : (rd j).length = sz
        · have HStep := Lib.hid (settled_step S rd j (by rw [hl]; exact HSe.out))
          have kc : ∀ t : Kept w7 [], (convert 22 9 (.slice A (rd j).length c)).run Try.prog t.u = .ok (.string (textOf (rd j))) t.u := fun t => conv_text (H8.out.keep fun a v h => t.h.cell h (by simp))
          have k1 : ∀ t : Kept w7 [], t.u.cell? ⟨C, 2, none⟩ = some (.map (some H)) := fun t => (t.h.row HC7.out.row (by simp)).cell 2
          obtain ⟨w8, hup, hc8, ht8⟩ := (HC7.out.drewN 1).put (x := (j, rd j)) ⟨by show j < S.n; rw [← HN.out]; exact hjn, by show (rd j).length = S.sz; rw [hl]; exact HSe.out, HRd.out.byte j⟩
          have HUp : Hid ((Instr.mapUpdate 64 (.map (some H)) (.agg #[.int .i64 j]) (.string (textOf (rd j)))).run Try.prog w7.drew = .ok () w8) := hup
          have HC8 : Hid (CrIs w8 B C H L (.slice none 0 0) (.slice none 0 0) (S.settled rd (j + 1))) := by rw [HStep.out]; exact hc8
          have HT8 : Hid (Turns w w8 [C, H, L]) := HT7.out.drew.trans (show Turns w7.drew w8 [H] from ht8) (fun k hk => .inl (by rw [List.mem_singleton.1 hk]; simp))
          rw [hl] at kc
          rw [hl]
          clear hup hc8 ht8 hl
          go_wp2_with fail
          (refine region_kept ([]) [0, 1, 2, 3, 4, 5, 6, 7] [8] (by kernel_rfl) (by kernel_rfl) (fun _ _ _ _ _ h => h) ?_; simp only [List.filterMap_cons, List.getElem?_cons_zero, List.getElem?_cons_succ, List.filterMap_nil]; (repeat ((show wpQuiet _ _ _ _ (_ :: _) _); go_big_quiet_step (fail))); refine wpQuiet_nil ?_)
          clear k1 kc
          have hup := HUp.out
          refine wpSeqS_last ?_
          go_wp2
          clear hup HUp
          go_roundw
          case rel => exact ⟨j + 1, by go_num, by omega, HC8.out, HT8.out⟩
          case measure => simp [intOf]; omega
        · have HStep := Lib.hid (settled_skip S rd j (fun h => hl (by rw [h]; exact HSe.out.symm)))
          have hl2 : ¬ ((rd j).length : Int) = sz := by omega
          generalize (rd j).length = ln at *
          go_wp2_with fail
          go_roundw
          case rel => exact ⟨j + 1, by go_num, by omega, by rw [HStep.out]; exact HC7.out, HT7.out⟩
          case measure => simp [intOf]; omega
      · obtain rfl : j = n := by omega
        clear hc ht
        go_wp2
        go_ret
        exact ⟨rfl, by rw [← HN.out]; exact HCj.out, HTj.out⟩
end
end Go.Proofs.Ytomigaldomiefaa

namespace Go.Proofs.Ytomigaldomiefaa
open Go.RowKit Go.MapKept Go.ChangeMaps
set_option linter.unusedVariables false
set_option linter.unusedSimpArgs false

theorem RfIs.congr {w : World} {B R X L : Nat} {v3 v4 : Value} {S S' : Cr} (h : RfIs w B R X L v3 v4 S) (en : S'.n = S.n) (es : S'.sz = S.sz) (eh : ∀ p, p < S.n → S'.base0 p = S.base0 p) (el : ∀ p, p < S.n → S'.loose p = S.loose p) (eg : S'.groups = S.groups) (ef : S'.fly = S.fly) : RfIs w B R X L v3 v4 S' :=
  ⟨by rw [en, es]; exact h.row, by rw [en]; exact h.has.same eh, by rw [en]; exact h.loose.same el, by rw [eg]; exact h.grs, by rw [ef]; exact h.fly, h.low, by rw [en]; exact h.n, by rw [es]; exact h.sz, fun p hp => by rw [en] at hp; rw [eh p hp, es]; exact h.okH p hp,
    by rw [eg, en, es]; exact h.okG, by rw [ef, en, es]; exact h.okF, by rw [eg, ef]; exact h.few⟩
/-- Amid Settle. -/
def Cr.amid (S : Cr) (rd : Nat → List Nat) (j : Nat) : Cr := { S with has := fun q => if q < j ∧ (rd q).length = S.sz then some (rd q) else S.has q, loose := fun q => if q < j then false else S.loose q }
theorem amid_base (S : Cr) (rd : Nat → List Nat) (j q : Nat) : (S.amid rd j).base0 q = if q < j ∧ (rd q).length = S.sz then rd q else S.base0 q := by
  unfold Cr.base0 Cr.amid
  by_cases h : q < j ∧ (rd q).length = S.sz
  · simp [h]
  · simp [h]
theorem amid_zero (S : Cr) (rd : Nat → List Nat) : S.amid rd 0 = S := by
  unfold Cr.amid; simp
section
variable {w : World} {B R X L : Nat} {v3 v4 : Value} {S : Cr} {rd : Nat → List Nat} {j : Nat}
theorem RfIs.amid_yes (h : RfIs w B R X L v3 v4 { { S.amid rd j with loose := updL (S.amid rd j).loose j false } with has := updH (S.amid rd j).has j (rd j) }) (hs : (rd j).length = S.sz) : RfIs w B R X L v3 v4 (S.amid rd (j + 1)) := by
  refine h.congr rfl rfl (fun p hp => ?_) (fun p hp => ?_) rfl rfl
  · rw [amid_base]
    unfold Cr.base0 updH
    by_cases e : p = j
    · subst e; simp [hs]
    · simp only [e, if_false]
      have := amid_base S rd j p
      unfold Cr.base0 at this
      rw [this]
      by_cases h1 : p < j
      · simp [h1, show p < j + 1 by omega]
      · simp [h1, show ¬ p < j + 1 by omega]
  · unfold updL Cr.amid
    by_cases e : p = j
    · subst e; simp
    · by_cases h1 : p < j
      · simp [e, h1, show p < j + 1 by omega]
      · simp [e, h1, show ¬ p < j + 1 by omega]
theorem RfIs.amid_no (h : RfIs w B R X L v3 v4 { S.amid rd j with loose := updL (S.amid rd j).loose j false }) (hs : ¬ (rd j).length = S.sz) : RfIs w B R X L v3 v4 (S.amid rd (j + 1)) := by
  refine h.congr rfl rfl (fun p hp => ?_) (fun p hp => ?_) rfl rfl
  · rw [amid_base]
    have := amid_base S rd j p
    unfold Cr.base0 at this ⊢
    rw [this]
    by_cases e : p = j
    · subst e; simp [hs]
    · by_cases h1 : p < j
      · simp [h1, show p < j + 1 by omega]
      · simp [h1, show ¬ p < j + 1 by omega]
  · unfold updL Cr.amid
    by_cases e : p = j
    · subst e; simp
    · by_cases h1 : p < j
      · simp [e, h1, show p < j + 1 by omega]
      · simp [e, h1, show ¬ p < j + 1 by omega]
theorem RfIs.amid_end (h : RfIs w B R X L v3 v4 { { S.amid rd S.n with groups := [] } with fly := [] }) : RfIs w B R X L v3 v4 (S.settled rd S.n) :=
  h.congr rfl rfl (fun p hp => rfl) (fun p hp => by
    have hp' : p < S.n := hp
    show false = if p < S.n then false else S.loose p
    rw [if_pos hp']) rfl rfl
end
set_option maxRecDepth 100000 in
set_option maxHeartbeats 4000000 in
theorem rfSettle_any (B R X L : Nat) (v3 v4 : Value) (S : Cr) (A : Option Addr) (c : Nat) (ds : List (List Nat)) (w : World) (h : RfIs w B R X L v3 v4 S) (hr : ∀ wr, Turns w wr [R, X, L] → RdsAt wr A ds) (hnt : 0 < ds.length → ∀ a, A = some a → a.block ∉ [R, X, L]) (hl : ds.length ≤ 1048576) (hb : ∀ d ∈ ds, ∀ u ∈ d, u < 256) :
    Calls Try.prog 29 #[.pointer (some ⟨R, 0, none⟩), .slice A ds.length c] w fun e w' => e = .returned (.bool (S.may (rdOf ds))) ∧ (if S.may (rdOf ds) = true then RfIs w' B R X L (.slice none 0 0) (.slice none 0 0) (S.settled (rdOf ds) S.n) else RfIs w' B R X L v3 v4 S) ∧ Turns w w' [R, X, L] := by
  obtain ⟨j0, ji, jz0, jz1, jz2⟩ := info_parts u8_info
  have HM := Lib.hid (rfMay_any B R X L v3 v4 S A c ds w h (hr w (Turns.refl _ _)) hl hb)
  have HC := Lib.hid h
  have HR := Lib.hid hr
  have HNt := Lib.hid hnt
  have HBy := Lib.hid hb
  obtain ⟨m, hm⟩ : ∃ m, m = ds.length := ⟨_, rfl⟩
  have HMl := Lib.hid hm
  rw [← hm] at hl HM ⊢
  have hBw : B ≤ w.heap.size := by have := h.low; have := h.lt; omega
  clear h hr hb hm hnt
  cases hmy : S.may (rdOf ds) with
  | false =>
    rw [hmy] at HM
    clear hmy
    go_enter Try.func29, Try.ntmps29
    go_wp2_with fail
    refine HM.out.mono ?_
    rintro e w1 ⟨rfl, hb⟩
    have HB := Lib.hid hb
    clear HM hb
    go_wp2
    go_ret
    exact ⟨rfl, HC.out.below HB.out, Turns.of_below HB.out _⟩
  | true =>
    rw [hmy] at HM
    clear hmy
    go_enter Try.func29, Try.ntmps29
    go_wp2_with fail
    refine HM.out.mono ?_
    rintro e w1 ⟨rfl, hb⟩
    have HB := Lib.hid hb
    obtain ⟨n, hn⟩ : ∃ n, n = S.n := ⟨_, rfl⟩
    have HN := Lib.hid hn
    have hn16 : n ≤ 16384 := by rw [hn]; exact HC.out.n.2
    have HC0 : Hid (RfIs w1 B R X L v3 v4 (S.amid (rdOf ds) 0)) := by unfold Hid; rw [amid_zero]; exact HC.out.below hb
    have HT0 : Hid (Turns w w1 [R, X, L]) := Turns.of_below hb _
    clear HM hb hn
    go_wp2_with fail
    go_loopw [5] (fun i wr => ∃ j : Nat, i = .int .i64 j ∧ j ≤ n ∧ RfIs wr B R X L v3 v4 (S.amid (rdOf ds) j) ∧ Turns w wr [R, X, L]) (fun i _ => n - (intOf i).toNat)
    case atStart => exact ⟨0, rfl, by omega, HC0.out, HT0.out⟩
    case round =>
      clear HC0 HT0
      obtain ⟨j, rfl, hj, hc, ht⟩ := hrel
      have d1 : wr.cell? ⟨R, 1, none⟩ = some (.slice (some ⟨X, 0, none⟩) n n) := by rw [HN.out]; exact hc.cells.2.1
      have d2 : wr.cell? ⟨R, 2, none⟩ = some (.slice (some ⟨L, 0, none⟩) n n) := by rw [HN.out]; exact hc.cells.2.2.1
      have HCj := Lib.hid hc
      have HTj := Lib.hid ht
      by_cases hjn : j < n
      · have hjS : j < (S.amid (rdOf ds) j).n := by rw [HN.out] at hjn; exact hjn
        obtain ⟨y1, y2⟩ := hc.loose.at hjS
        have hP := hc.putL hjS false
        have hTp : Turns w (wr.setCell ⟨L, j, none⟩ (.bool false)) [R, X, L] := ht.setCell (by simp) _
        generalize (S.amid (rdOf ds) j).loose j = bl at y1
        obtain ⟨w2, hw2⟩ : ∃ w2, w2 = wr.setCell ⟨L, j, none⟩ (.bool false) := ⟨_, rfl⟩
        have HW2 := Lib.hid hw2
        rw [← hw2] at hP hTp
        have HP := Lib.hid hP
        have HTp := Lib.hid hTp
        have e0 := hP.cells.1
        have e1 := hP.cells.2.1
        obtain ⟨sz, hsz⟩ : ∃ sz, sz = S.sz := ⟨_, rfl⟩
        have HSz := Lib.hid hsz
        have e0 : w2.cell? ⟨R, 0, none⟩ = some (.int .i64 sz) := by rw [hsz]; exact hP.cells.1
        have e1 : w2.cell? ⟨R, 1, none⟩ = some (.slice (some ⟨X, 0, none⟩) n n) := by rw [HN.out]; exact hP.cells.2.1
        have hsz5 : sz ≤ 512 := by rw [hsz]; exact hP.sz.2
        rw [hw2] at e0 e1
        clear hc ht hP hTp hw2 hsz
        by_cases hjm : j < m
        · obtain ⟨d, hd⟩ : ∃ d, ds[j]? = some d := ⟨_, List.getElem?_eq_getElem (by rw [← HMl.out]; exact hjm)⟩
          have HE : Hid (rdOf ds j = d) := by unfold Hid rdOf; rw [List.getD_eq_getElem?_getD, hd]; rfl
          obtain ⟨g, off, A1, c1, e2, hcell, hc8⟩ := HR.out _ HTp.out j d hd
          subst e2
          have HDs := Lib.hid (HBy.out d (List.mem_of_getElem? hd))
          obtain ⟨dl, hdl⟩ : ∃ dl, dl = d.length := ⟨_, rfl⟩
          have HDl := Lib.hid hdl
          rw [← hdl] at hcell
          rw [HW2.out] at hcell
          have hjd : decide (j < m) = true := decide_eq_true hjm
          have HC8 := Lib.hid hc8
          clear hc8 hd hdl
          by_cases hs : dl = sz
          · have hz2 : ((dl : Int) == sz) = true := beq_iff_eq.2 (by omega)
            go_wp2_with fail
            clear d1 d2 y1 y2
            go_quiet (fail)
            rw [← HW2.out]
            rw [← HW2.out] at e1 hcell
            have HP3 : Hid (RfIs (w2.drewN nq) B R X L v3 v4 { S.amid (rdOf ds) j with loose := updL (S.amid (rdOf ds) j).loose j false }) := HP.out.keep (T := []) (((Turns.refl w2 []).drewN nq)) (by simp) (nodat_nil _)
            have HT3 : Hid (Turns w (w2.drewN nq) [R, X, L]) := HTp.out.drewN _
            have HC83 : Hid (Cells8 (w2.drewN nq) A1 d) := HC8.out
            have e13 : (w2.drewN nq).cell? ⟨R, 1, none⟩ = some (.slice (some ⟨X, 0, none⟩) n n) := e1
            have hc3 : (w2.drewN nq).cell? ⟨g, off + j, none⟩ = some (.slice A1 dl c1) := hcell
            have HSq := Lib.hid hs
            have hdl5 : dl ≤ 512 := by omega
            clear e0 e1 hcell HP HTp HC8 hs hz2
            generalize w2.drewN nq = w3 at *
            have hRX := HP3.out.ne.1
            have hgX : g ≠ X := fun e => HNt.out (by have := HMl.out; omega) _ rfl (by simp [e])
            have k1 : ∀ t : Kept w3 [X], t.u.cell? ⟨R, 1, none⟩ = some (.slice (some ⟨X, 0, none⟩) n n) := fun t => t.h.cell e13 (by simpa using hRX)
            have k2 : ∀ t : Kept w3 [X], t.u.cell? ⟨g, off + j, none⟩ = some (.slice A1 dl c1) := fun t => t.h.cell hc3 (by simpa using hgX)
            clear e13 hc3
            go_wp2_with fail
            (refine region_kept ([X]) [0, 1, 2, 3, 4, 6, 7, 8, 9] [5, 10, 11, 12] (by kernel_rfl) (by kernel_rfl) (fun _ _ _ _ _ h => h) ?_; simp only [List.filterMap_cons, List.getElem?_cons_zero, List.getElem?_cons_succ, List.filterMap_nil]; (repeat ((show wpQuiet _ _ _ _ (_ :: _) _); go_big_quiet_step (fail))); refine wpQuiet_nil ?_)
            clear k1 k2
            have hBle : B ≤ w3.heap.size := Nat.le_trans hBw HT3.out.size
            have HB3 : Hid (Below w3.heap.size w3 (w3.drew.alloc (.cells #[] 5))) := by unfold Hid; (repeat (first | (with_reducible refine Below.drew ?_) | (with_reducible refine below_drewN0 ?_ _) | ((with_reducible refine Below.setCell ?_ ?_ _); rotate_left; focus (first | omega | (simp; done) | (simp; omega) | (simp at *; omega))) | ((with_reducible refine Below.alloc ?_ ?_ _); rotate_left; focus (first | omega | (simp; done) | (simp; omega) | (simp at *; omega))) | (with_reducible exact Below.refl _ _)))
            have HO3 : Hid ((w3.drew.alloc (.cells #[] 5)).ownsRow B 5 1 (.slice (some ⟨w3.heap.size, 0, none⟩) 0 0) 0 []) := World.ownsRow_made (base := B) (size := 1) (e := 5) w3.drew #[] 0 hBle (Nat.zero_le _) rfl
            have HS3 : Hid (Src (w3.drew.alloc (.cells #[] 5)) 1 A1 dl (intsV .u8 d)) := by rw [HDl.out]; exact Src.bytes (HC83.out.keep (keep_below HB3.out))
            refine wpSeqS_step ?_
            go_wp2_with fail
            refine outQ_normal (Turns.of_below HB3.out _) ?_
            refine wpSeqS_step (wpList_append_src _ rfl (.tmp 46) (.tmp 50) 22 rfl B 5 j0 (.int .u8 0) 1 1 Try.underlying22 ji jz0 jz1 jz2 rfl (by decide) (.slice (some ⟨w3.heap.size, 0, none⟩) 0 0) 0 [] rfl HO3.out A1 dl c1 _ rfl HS3.out (intsV_one .u8 d) (by unfold maxLen; omega) (by omega) (by simp; omega) ?_)
            intro va w4 hown hgrow hat
            rw [Nat.zero_add, List.nil_append] at hown
            obtain ⟨A4, c4, rfl, _, _⟩ := own_shape hown
            have HB4 : Hid (Below w3.heap.size w3 w4) := HB3.out.grown hgrow (by simp) (fun k hk => by
              have : w3.heap.size = k := by injection hk
              omega)
            have HD4 : Hid (DatIs w4 B (.slice A4 d.length c4) d) := ⟨HDs.out, by rw [← HDl.out]; unfold reachBytes; omega, by rw [← HDl.out]; exact hown⟩
            have hP4 := HP3.out.below HB4.out
            have hP5 := hP4.putX (p := j) hjS HD4.out (by rw [← HDl.out]; show dl = S.sz; rw [← HSz.out]; exact HSq.out)
            have HP6 : Hid (RfIs (w4.setCell ⟨X, j, none⟩ (.slice A4 dl c4)) B R X L v3 v4 (S.amid (rdOf ds) (j + 1))) := by
              refine RfIs.amid_yes ?_ (by rw [HE.out, ← HDl.out, ← HSz.out]; exact HSq.out)
              rw [HE.out, HDl.out]; exact hP5
            obtain ⟨A9, c9, y5, _, y6⟩ := hP4.has.at (p := j) hjS
            generalize (Cr.base0 _ j).length = l9 at y5
            have HT6 : Hid (Turns w (w4.setCell ⟨X, j, none⟩ (.slice A4 dl c4)) [R, X, L]) := (HT3.out.then_below HB4.out).setCell (by simp) _
            clear hown hgrow hat HO3 HS3 hP4 hP5
            refine wpList_nil (outQ_normal (Turns.of_below HB4.out _) ?_)
            refine wpSeqS_step ?_
            go_wp2_with fail
            refine outQ_normal (Turns.of_below HB4.out _) ?_
            refine wpSeqS_last ?_
            go_wp2
            go_roundw
            case rel => exact ⟨j + 1, by go_num, by omega, HP6.out, HT6.out⟩
            case measure => simp [intOf]; omega
          · have hz2 : ((dl : Int) == sz) = false := beq_eq_false_iff_ne.2 (by omega)
            have HX := Lib.hid ((HP.out.amid_no (by rw [HE.out, ← HDl.out, ← HSz.out]; exact hs)).keep (T := []) (((Turns.refl w2 []).drewN 1)) (by simp) (nodat_nil _))
            go_wp2_with fail
            clear d1 d2 y1 y2
            go_quiet (fail)
            rw [← HW2.out]
            have HX : Hid (RfIs (w2.drewN nq) B R X L v3 v4 (S.amid (rdOf ds) (j + 1))) := (HP.out.amid_no (by rw [HE.out, ← HDl.out, ← HSz.out]; exact hs)).keep (T := []) (((Turns.refl w2 []).drewN nq)) (by simp) (nodat_nil _)
            clear e0 e1 hcell
            go_wp2_with fail
            go_roundw
            case rel => exact ⟨j + 1, by go_num, by omega, HX.out, HTp.out.drewN _⟩
            case measure => simp [intOf]; omega
        · have hjd : decide (j < m) = false := decide_eq_false hjm
          have hjd2 : ¬ (j : Int) < m := by omega
          have HE : Hid (rdOf ds j = []) := by unfold Hid rdOf; rw [List.getD_eq_getElem?_getD, List.getElem?_eq_none (by rw [← HMl.out]; omega)]; rfl
          go_wp2_with fail
          clear d1 d2 y1 y2
          go_quiet (fail)
          rw [← HW2.out]
          have HX : Hid (RfIs (w2.drewN nq) B R X L v3 v4 (S.amid (rdOf ds) (j + 1))) := (HP.out.amid_no (by rw [HE.out]; have h1 : 1 ≤ S.sz := HP.out.sz.1; intro e; simp at e; omega)).keep (T := []) (((Turns.refl w2 []).drewN nq)) (by simp) (nodat_nil _)
          clear e0 e1
          go_wp2_with fail
          go_roundw
          case rel => exact ⟨j + 1, by go_num, by omega, HX.out, HTp.out.drewN _⟩
          case measure => simp [intOf]; omega
      · obtain rfl : j = n := by omega
        have hP := hc.put3 (GrsIs.nil wr B) (by simp) (by simp)
        have z3 := hc.row.frozen 3
        have x3 := hc.cells.2.2.2.1
        have z4 := hP.row.frozen 4
        have x4 := hP.cells.2.2.2.2
        have hP2 := hP.put4 (WrsIs.nil _ B) (by simp [OkL]) (by simp)
        rw [HN.out] at hP2
        have HE := Lib.hid hP2.amid_end
        have HTe : Hid (Turns w ((wr.setCell ⟨R, 3, none⟩ (.slice none 0 0)).setCell ⟨R, 4, none⟩ (.slice none 0 0)) [R, X, L]) := (ht.setCell (by simp) _).setCell (by simp) _
        clear hP hP2 hc ht
        go_wp2
        clear d1 d2 x3 x4 z3 z4
        go_ret
        exact ⟨rfl, HE.out, HTe.out⟩
end Go.Proofs.Ytomigaldomiefaa

namespace Go.Proofs.Ytomigaldomiefaa
set_option linter.unusedVariables false
set_option linter.unusedSimpArgs false

theorem text_toList (d : List Nat) : (textOf d).toList = bytesOf d := by rw [ByteArray.toList_eq, textOf_data]
theorem bytes_inj {d e : List Nat} (hd : ∀ u ∈ d, u < 256) (he : ∀ u ∈ e, u < 256) (h : bytesOf d = bytesOf e) : d = e := by
  rw [← nums_bytes hd, ← nums_bytes he, h]
theorem text_less (d e : List Nat) : Op.bytesLess (textOf d).toList (textOf e).toList = decide (bytesOf d < bytesOf e) := by
  rw [text_toList, text_toList]
  have : ∀ (x y : List UInt8), Op.bytesLess x y = decide (x < y) := by
    intro x
    induction x with
    | nil =>
      intro y
      cases y with
      | nil => rw [Op.bytesLess]; exact (decide_eq_false (List.lt_irrefl _)).symm
      | cons b y => rw [Op.bytesLess]; exact (decide_eq_true (List.nil_lt_cons _ _)).symm
    | cons a x ih =>
      intro y
      cases y with
      | nil => rw [Op.bytesLess]; exact (decide_eq_false (List.not_lt_nil _)).symm
      | cons b y =>
        rw [Op.bytesLess, ih y, Bool.eq_iff_iff]
        simp only [Bool.or_eq_true, Bool.and_eq_true, decide_eq_true_eq, beq_iff_eq, List.cons_lt_cons_iff]
  exact this _ _
section
variable {ts : List (List Nat)} {x : List Nat} {n : Nat}
theorem SortN.ins (h : SortN ts) (ok : ∀ d ∈ ts, ∀ u ∈ d, u < 256) (okx : ∀ u ∈ x, u < 256) (h1 : ∀ i y, i < n → ts[i]? = some y → bytesOf y < bytesOf x) (h2 : ∀ y, ts[n]? = some y → ¬ bytesOf y < bytesOf x ∧ y ≠ x) : SortN (ts.take n ++ x :: ts.drop n) := by
  obtain ⟨hn, hp⟩ := h
  have htd : ts.take n ++ ts.drop n = ts := List.take_append_drop n ts
  rw [← htd] at hn hp
  obtain ⟨p1, p2, p3⟩ := List.pairwise_append.1 hp
  obtain ⟨n1, n2, n3⟩ := List.nodup_append.1 hn
  have hlt : ∀ a ∈ ts.take n, bytesOf a < bytesOf x := fun a ha => by
    obtain ⟨i, hi⟩ := List.mem_iff_getElem?.1 ha
    rw [List.getElem?_take] at hi
    split at hi
    · exact h1 i a (by assumption) hi
    · cases hi
  have hdr : ∀ b ∈ ts.drop n, bytesOf x ≤ bytesOf b ∧ b ≠ x := fun b hb => by
    cases hd : ts.drop n with
    | nil => rw [hd] at hb; cases hb
    | cons y r =>
      have hy : ts[n]? = some y := by
        have := congrArg (fun l : List (List Nat) => l[0]?) hd
        simpa using this
      obtain ⟨q1, q2⟩ := h2 y hy
      have q1 := List.not_lt.1 q1
      rw [hd] at hb p2 n2
      rcases List.mem_cons.1 hb with rfl | hb
      · exact ⟨q1, q2⟩
      · obtain ⟨p4, _⟩ := List.pairwise_cons.1 p2
        refine ⟨List.le_trans q1 (p4 b hb), fun e => q2 ?_⟩
        have h3 := p4 b hb
        rw [e] at h3
        have hym : y ∈ ts := List.mem_of_getElem? hy
        exact bytes_inj (ok y hym) okx (List.le_antisymm h3 q1)
  refine ⟨List.nodup_append.2 ⟨n1, List.nodup_cons.2 ⟨fun hx => (hdr x hx).2 rfl, n2⟩, fun a ha b hb => ?_⟩, List.pairwise_append.2 ⟨p1, List.pairwise_cons.2 ⟨fun b hb => (hdr b hb).1, p2⟩, fun a ha b hb => ?_⟩⟩
  · rcases List.mem_cons.1 hb with rfl | hb
    · intro e
      have := hlt a ha
      rw [e] at this
      exact List.lt_irrefl _ this
    · exact n3 a ha b hb
  · rcases List.mem_cons.1 hb with rfl | hb
    · exact List.le_of_lt (hlt a ha)
    · exact p3 a ha b hb
theorem mem_ins (ts : List (List Nat)) (x : List Nat) (n : Nat) (d : List Nat) : d ∈ ts.take n ++ x :: ts.drop n ↔ d = x ∨ d ∈ ts := by
  have htd : ts.take n ++ ts.drop n = ts := List.take_append_drop n ts
  rw [List.mem_append, List.mem_cons]
  conv => rhs; rw [← htd, List.mem_append]
  constructor
  · rintro (h | h | h)
    · exact .inr (.inl h)
    · exact .inl h
    · exact .inr (.inr h)
  · rintro (h | h | h)
    · exact .inr (.inl h)
    · exact .inl h
    · exact .inr (.inr h)
theorem SortN.uniq {a b : List (List Nat)} (ha : SortN a) (hb : SortN b) (ok : ∀ d ∈ a, ∀ u ∈ d, u < 256) (hm : ∀ d, d ∈ a ↔ d ∈ b) : a = b := by
  have hp : a.Perm b := (List.perm_ext_iff_of_nodup ha.1 hb.1).2 hm
  exact List.Perm.eq_of_pairwise (le := fun d e => bytesOf d ≤ bytesOf e) (fun d e hd he h1 h2 => bytes_inj (ok d hd) (ok e ((hm e).2 he)) (List.le_antisymm h1 h2)) ha.2 hb.2 hp
theorem SortN.nil : SortN [] := ⟨by simp, by simp⟩
end
end Go.Proofs.Ytomigaldomiefaa
