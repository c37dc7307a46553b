/- CacheOrders: what leaves by Puts and by a Flush, applied in order, leaves each sector as the last write of it did, whatever size and whatever acts, where what is read is of bulk at most 1048576: the law returns true, and its arguments read as before. -/
import Derived.Test.YtmppegknkeggcaaCacheW
import Derived.Test.YtmppegknkeggcaaDropsPlain
namespace Go.Proofs.Ytmppegknkeggcaa
open Go.RowKit
set_option linter.unusedVariables false
set_option linter.unusedSimpArgs false

set_option maxRecDepth 100000 in
set_option maxHeartbeats 1000000 in
theorem orders_out (most : Int) (ad : Option Addr) (cap : Nat) (its : List It) (hn : its.length ≤ 1048576) (hs : sumL its ≤ 1048576) (hf : fewB its = false ∨ most < 0 ∨ 64 < most) (w : World) (hW : ActsW w ad its) :
    Calls Try.prog 3 #[.int .i64 most, .slice ad its.length cap] w fun e w' => e = .returned (.bool true) ∧ Below w.heap.size w w' := by
  have HFew := Lib.hid (fun W (hb : Below w.heap.size w W) => few_any ad cap its hn hs W (hW.keep (keep_below hb)))
  have key : fewB its = false ∨ (fewB its = true ∧ most < 0) ∨ (fewB its = true ∧ ¬ most < 0 ∧ 64 < most) := by
    rcases hf with h | h | h
    · exact .inl h
    · cases fewB its
      · exact .inl rfl
      · exact .inr (.inl ⟨rfl, h⟩)
    · cases fewB its
      · exact .inl rfl
      · exact .inr (.inr ⟨rfl, by omega, h⟩)
  clear hW hn hs hf
  generalize fewB its = β at *
  generalize its.length = n at *
  rcases key with rfl | ⟨rfl, h1⟩ | ⟨rfl, h1, h2⟩
  all_goals
    go_enter Try.func3, Try.ntmps3
    go_wp2_with fail
    refine (known_any _).mono ?_
    rintro e w1 ⟨rfl, hb1⟩
    have HB := Lib.hid hb1
    have HF := Lib.hid (HFew.out w1 hb1)
    clear hb1 HFew
    go_wp2_with fail
    refine HF.out.mono ?_
    rintro e w2 ⟨rfl, rfl⟩
    go_wp2
    go_ret
    exact ⟨rfl, HB.out⟩

set_option maxRecDepth 100000 in
set_option maxHeartbeats 4000000 in
theorem orders_walk (most : Nat) (ad : Option Addr) (cap : Nat) (its : List It) (hn : its.length ≤ 1048576) (hs : sumL its ≤ 1048576) (hf : fewB its = true) (hmost : most ≤ 64) (w : World) (hW : ActsW w ad its) :
    Calls Try.prog 3 #[.int .i64 most, .slice ad its.length cap] w fun e w' => e = .returned (.bool true) ∧ Below w.heap.size w w' := by
  have HFew := fun W (hb : Below w.heap.size w W) => few_any ad cap its hn hs W (hW.keep (keep_below hb))
  rw [hf] at HFew
  have HFew := Lib.hid HFew
  have h300 : its.length ≤ 300 := by simp [fewB] at hf; exact hf.1
  have HLn : Hid (∀ x ∈ its, x.l.length ≤ reachBytes) := fun x hx => by have := sumL_mem hx; simp [reachBytes]; omega
  have HW := Lib.hid hW
  obtain ⟨n, hnn⟩ : ∃ n, n = its.length := ⟨_, rfl⟩
  have HN := Lib.hid hnn
  rw [← hnn] at h300 HFew ⊢
  clear hW hn hs hf hnn
  have hmm := @run_makeMap Try.prog
  have d1 : decide ((most : Int) < 0) = false := by simp
  have d2 : decide ((64 : Int) < most) = false := by simp; omega
  go_enter Try.func3, Try.ntmps3
  go_wp2_with fail
  refine (known_any _).mono ?_
  rintro e w1 ⟨rfl, hb1⟩
  have HF := Lib.hid (HFew.out w1 hb1)
  have HNew := Lib.hid (CSt.new most hmost w w1 hb1)
  clear hb1 HFew
  go_wp2_with fail
  refine HF.out.mono ?_
  rintro e w2 ⟨rfl, rfl⟩
  clear HF
  go_wp2_with fail
  refine HNew.out.mono ?_
  rintro e w3 ⟨C, mb, rfl, h3, _⟩
  obtain ⟨w4, hw4⟩ : ∃ w4, w4 = (w3.alloc (.map #[] 0)).alloc (.map #[] 0) := ⟨_, rfl⟩
  have H4 : Hid (∃ A c nl no, OSt w w4 C mb most w3.heap.size (w3.heap.size + 1) A c nl no [] 0 (lastOf ([] ++ [])) (lastOf [])) := by
    obtain ⟨A, c, hh, hb⟩ := h3
    have hb4 : Below w3.heap.size w3 w4 := by rw [hw4]; (repeat (first | (with_reducible refine Below.drew ?_) | (with_reducible refine below_drewN0 ?_ _) | ((with_reducible refine Below.setCell ?_ ?_ _); rotate_left; focus (first | omega | (simp; done) | (simp; omega) | (simp at *; omega))) | ((with_reducible refine Below.alloc ?_ ?_ _); rotate_left; focus (first | omega | (simp; done) | (simp; omega) | (simp at *; omega))) | (with_reducible exact Below.refl _ _)))
    have hs0 : SIs (w3.alloc (.map #[] 0)) w3.heap.size 0 (fun _ _ => none) := SIs.fresh w3
    have hs1 := SIs.fresh (w3.alloc (.map #[] 0))
    rw [World.size_alloc] at hs1
    have hml := hh.cnt.lt
    exact ⟨A, c, 0, 0, hh.below hb4, by rw [hw4]; exact hs0.turns (S := []) ((Turns.refl _ _).alloc _) (by simp), by rw [hw4]; exact hs1, ⟨hb.size, by have := hb.size; omega, by omega, by omega, by omega⟩, hb.trans (hb4.mono hb.size)⟩
  obtain ⟨ml, hml⟩ : ∃ ml, ml = w3.heap.size := ⟨_, rfl⟩
  obtain ⟨mo, hmo⟩ : ∃ mo, mo = w3.heap.size + 1 := ⟨_, rfl⟩
  rw [← hmo, ← hml] at H4
  clear h3 HNew
  have hmo2 : mo = ml + 1 := by omega
  have HMO := Lib.hid hmo2
  clear hmo2 hmo
  go_wp2
  rw [← hw4, ← hml]
  clear hw4 hml
  rw [← HMO.out]
  go_loopw [9, 10, 11] (fun nv lv i wr => ∃ (k p : Nat) (A : Option Addr) (c nl no : Nat) (items outs : List It) (g : Int), k ≤ n ∧ i = .int .i64 k ∧ nv = .int .i64 p ∧ lv = .int .i64 (outs.length : Nat) ∧ OSt w wr C mb most ml mo A c nl no items g (lastOf (outs ++ items)) (lastOf outs) ∧
    (outs.length + items.length ≤ p ∧ p ≤ k ∧ items.length ≤ most) ∧ (0 ≤ g ∧ g ≤ k)) (fun _ _ i _ => n - (intOf i).toNat)
  case atStart =>
    obtain ⟨A, c, nl, no, h⟩ := H4.out
    exact ⟨0, 0, A, c, nl, no, [], [], 0, by omega, rfl, rfl, rfl, h, ⟨by simp, by omega, by simp⟩, by omega⟩
  case round =>
    obtain ⟨k, p, A, c, nl, no, items, outs, g, hk, rfl, rfl, rfl, ho, ⟨hc1, hc2, hc3⟩, hg⟩ := hrel
    have HO := Lib.hid ho
    have Hg := Lib.hid hg
    clear H4 ho hg hmm
    obtain ⟨q, hq⟩ : ∃ q, q = outs.length := ⟨_, rfl⟩
    have HQ := Lib.hid hq
    rw [← hq] at hc1 ⊢
    clear hq
    by_cases hlt : k < n
    · obtain ⟨x, hx⟩ : ∃ x, its[k]? = some x := ⟨_, List.getElem?_eq_getElem (by rw [← HN.out]; exact hlt)⟩
      obtain ⟨⟨b, off, e1, hc⟩, hA⟩ := HW.out.at0 k x hx
      have HA := Lib.hid hA
      have HC := Lib.hid hc
      have HX := Lib.hid (HLn.out x (List.mem_of_getElem? hx))
      have hbw : b < w.heap.size := World.block_lt_of_cell? w _ (hc 0 _ rfl)
      have hbr : b < wr.heap.size := Nat.lt_of_lt_of_le hbw HO.out.bel.size
      subst e1
      clear hc hA hx
      have c0 := keep_below HO.out.bel _ _ (HC.out 0 _ rfl)
      have c1 := keep_below HO.out.bel _ _ (HC.out 1 _ rfl)
      have c2 := keep_below HO.out.bel _ _ (HC.out 2 _ rfl)
      have c3 := keep_below HO.out.bel _ _ (HC.out 3 _ rfl)
      rw [Nat.add_zero] at c0
      rw [← Nat.add_assoc] at c1 c2 c3
      have hfar : ∀ {j : Nat} {v : Value}, wr.cell? ⟨b, j, none⟩ = some v → ∀ t : Kept wr [], t.u.cell? ⟨b, j, none⟩ = some v := fun h t => t.h.cell h (by simp)
      have k1 := hfar c1
      have k2 := hfar c2
      go_wp2
      (refine region_kept ([]) [0, 1, 2, 3, 4, 5, 6, 7, 8, 9, 10, 11, 12] [13, 14] (by kernel_rfl) (by kernel_rfl) (fun _ _ _ _ _ h => h) ?_; simp only [List.filterMap_cons, List.getElem?_cons_zero, List.getElem?_cons_succ, List.filterMap_nil]; (repeat ((show wpQuiet _ _ _ _ (_ :: _) _); go_big_quiet_step (fail))); refine wpQuiet_nil ?_)
      clear hfar k1 k2
      refine wpSeqS_step ?_
      go_wp2_with fail
      refine outQ_normal ((Turns.refl _ _).drew.alloc _) ?_
      refine wpSeqS_last ?_
      obtain ⟨wB, hwB⟩ : ∃ wB, wB = (wr.alloc (.cells #[.int .i64 x.a, .int .i64 x.s] 35)).drew := ⟨_, rfl⟩
      have HBB : Hid (Below wr.heap.size wr wB) := by unfold Hid; rw [hwB]; (repeat (first | (with_reducible refine Below.drew ?_) | (with_reducible refine below_drewN0 ?_ _) | ((with_reducible refine Below.setCell ?_ ?_ _); rotate_left; focus (first | omega | (simp; done) | (simp; omega) | (simp at *; omega))) | ((with_reducible refine Below.alloc ?_ ?_ _); rotate_left; focus (first | omega | (simp; done) | (simp; omega) | (simp at *; omega))) | (with_reducible exact Below.refl _ _)))
      have HRB : Hid (Row wB wr.heap.size 35 #[.int .i64 x.a, .int .i64 x.s]) := by unfold Hid; rw [hwB]; exact Row.fresh wr _ _
      have HOB := Lib.hid (HO.out.below HBB.out)
      clear c1 c2 c3
      by_cases g1 : x.g = 1
      · have b1 : (x.g == 1) = true := by simp [g1]
        rw [g1] at c0
        clear g1
        go_wp2
        rw [← hwB]
        clear hwB b1 c0
        have c0 := keep_below HOB.out.bel _ _ (HC.out 0 _ rfl)
        have c1 := keep_below HOB.out.bel _ _ (HC.out 1 _ rfl)
        have c2 := keep_below HOB.out.bel _ _ (HC.out 2 _ rfl)
        have c3 := keep_below HOB.out.bel _ _ (HC.out 3 _ rfl)
        rw [Nat.add_zero] at c0
        rw [← Nat.add_assoc] at c1 c2 c3
        have hnl : wr.heap.size ≠ ml := fun e => by have := HO.out.last.lt; omega
        have hnb : b ≠ ml := fun e => by have := HO.out.far.1; omega
        have k0 : ∀ t : Kept wB [ml], t.u.cell? ⟨wr.heap.size, 0, none⟩ = some (.int .i64 x.a) := fun t => by rw [(t.h.row HRB.out (by simpa using hnl)).cell]; rfl
        have k1 : ∀ t : Kept wB [ml], t.u.cell? ⟨wr.heap.size, 1, none⟩ = some (.int .i64 x.s) := fun t => by rw [(t.h.row HRB.out (by simpa using hnl)).cell]; rfl
        have k3 : ∀ t : Kept wB [ml], t.u.cell? ⟨b, off + k * 4 + 3, none⟩ = some (.slice x.A x.l.length x.c) := fun t => t.h.cell c3 (by simpa using hnb)
        have cv : ∀ t : Kept wB [ml], (convert 30 9 (.slice x.A x.l.length x.c)).run Try.prog t.u = .ok (.string (textOf x.l)) t.u := fun t => conv_text (fun i hi => by
          obtain ⟨b2, o2, e, hc⟩ := HA.out.lies i hi
          refine ⟨b2, o2, e, t.h.cell (keep_below HOB.out.bel _ _ hc) ?_⟩
          have h1 := World.block_lt_of_cell? w _ hc
          have h2 := HO.out.far.1
          simp at h1 ⊢; omega)
        obtain ⟨w6, nl6, hup, ho6, hk6⟩ := (HOB.out.below (Below.refl _ _).drew).setLast HA.out.wa HA.out.ws x.l
        have HO6 := Lib.hid ho6
        obtain ⟨S, hS⟩ : ∃ S, S = textOf x.l := ⟨_, rfl⟩
        rw [← hS] at cv hup
        obtain ⟨m0, hm0⟩ : ∃ m0, m0 = x.l.length := ⟨_, rfl⟩
        have HM0 := Lib.hid hm0
        rw [← hm0] at cv k3
        clear hS hm0 ho6 c0 c1 c2 c3
        (refine region_kept ([ml]) [0, 1, 2, 3, 4, 5, 6, 7, 8] [9] (by kernel_rfl) (by kernel_rfl) (fun _ _ _ _ _ h => h) ?_; simp only [List.filterMap_cons, List.getElem?_cons_zero, List.getElem?_cons_succ, List.filterMap_nil]; (repeat ((show wpQuiet _ _ _ _ (_ :: _) _); go_big_quiet_step (fail))); refine wpQuiet_nil ?_)
        clear k0 k1 k3 cv
        have HPut := Lib.hid (HO6.out.put (by omega) x HA.out HX.out)
        have c0 := keep_below HO6.out.bel _ _ (HC.out 0 _ rfl)
        have c1 := keep_below HO6.out.bel _ _ (HC.out 1 _ rfl)
        have c2 := keep_below HO6.out.bel _ _ (HC.out 2 _ rfl)
        have c3 := keep_below HO6.out.bel _ _ (HC.out 3 _ rfl)
        rw [Nat.add_zero] at c0
        rw [← Nat.add_assoc] at c1 c2 c3
        have c2' : w6.cell? ⟨b, off + k * 4 + 1 + 1, none⟩ = some (.int .i64 x.s) := c2
        have c3' : w6.cell? ⟨b, off + k * 4 + 1 + 2, none⟩ = some (.slice x.A m0 x.c) := by rw [HM0.out]; exact c3
        rw [← HM0.out] at c3 HPut
        have hwp : IntKind.i64.wrap ((p : Int) + 1) = (p : Int) + 1 := wraps_up p (by omega)
        refine wpSeqS_last ?_
        go_wp2_with fail
        refine HPut.out.mono ?_
        rintro e w7 ⟨Ao, co, out, rest, y, A2, cc2, rfl, hy, hsp, hr, ho7, hsee⟩
        have HO7 := Lib.hid ho7
        have HSee := Lib.hid hsee
        have HY := Lib.hid hy
        have HSp := Lib.hid hsp
        have HWo : Hid (∀ z ∈ out, W64 z.a ∧ W64 z.s) := fun z hz => by
          have : z ∈ (items.filter fun z => !goneP x.a x.s g z) ++ [y] := by rw [hsp]; exact List.mem_append_left _ hz
          rw [List.mem_append, List.mem_singleton] at this
          rcases this with h | rfl
          · exact HO.out.held.wf z (List.mem_filter.1 h).1
          · simp only [It.sees, Prod.mk.injEq] at hy
            rw [hy.1, hy.2.1]; exact ⟨HA.out.wa, HA.out.ws⟩
        have hlen : out.length + rest.length ≤ items.length + 1 := by
          have h1 := congrArg List.length hsp
          rw [List.length_append, List.length_append, List.length_singleton] at h1
          have h2 := List.length_filter_le (fun z => !goneP x.a x.s g z) items
          omega
        obtain ⟨m, hm⟩ : ∃ m, m = out.length := ⟨_, rfl⟩
        have HM := Lib.hid hm
        rw [← hm] at hlen ⊢
        have hm400 : m ≤ 400 := by omega
        clear hup hk6 HPut hy hsp ho7 hsee hm c0 c1 c2 c3 c2' c3' hwp
        go_wp2
        go_loopw [10, 92] (fun lv j wr2 => ∃ (jj no2 : Nat), jj ≤ m ∧ j = .int .i64 jj ∧ lv = .int .i64 (q + jj : Nat) ∧ OSt w wr2 C mb most ml mo A2 cc2 nl6 no2 rest g ((lastOf (outs ++ items)).set x.a x.s x.l) (lastOf (outs ++ out.take jj)) ∧ Sees wr2 Ao out) (fun _ j _ => m - (intOf j).toNat)
        case atStart => exact ⟨0, no, by omega, rfl, rfl, by rw [List.take_zero, List.append_nil]; exact HO7.out, HSee.out⟩
        case round =>
          obtain ⟨jj, no2, hjj, rfl, rfl, ho2, hs2⟩ := hrel
          have HO2 := Lib.hid ho2
          have HS2 := Lib.hid hs2
          clear HO7 HSee ho2 hs2
          by_cases hlt2 : jj < m
          ·
            obtain ⟨z, hz⟩ : ∃ z, out[jj]? = some z := ⟨_, List.getElem?_eq_getElem (by rw [← HM.out]; exact hlt2)⟩
            obtain ⟨⟨b2, o2, e2, hcz⟩, hlz⟩ := HS2.out.at0 jj z hz
            subst e2
            have z0 := hcz 0 _ rfl
            have z1 := hcz 1 _ rfl
            have z2 := hcz 2 _ rfl
            rw [Nat.add_zero] at z0
            rw [← Nat.add_assoc] at z1 z2
            obtain ⟨wZ, hwZ⟩ : ∃ wZ, wZ = wr.alloc (.cells #[.int .i64 z.a, .int .i64 z.s, .slice z.A z.l.length z.c] 32) := ⟨_, rfl⟩
            have hbZ : Below wr.heap.size wr wZ := by rw [hwZ]; (repeat (first | (with_reducible refine Below.drew ?_) | (with_reducible refine below_drewN0 ?_ _) | ((with_reducible refine Below.setCell ?_ ?_ _); rotate_left; focus (first | omega | (simp; done) | (simp; omega) | (simp at *; omega))) | ((with_reducible refine Below.alloc ?_ ?_ _); rotate_left; focus (first | omega | (simp; done) | (simp; omega) | (simp at *; omega))) | (with_reducible exact Below.refl _ _)))
            obtain ⟨hza, hzs⟩ := HWo.out z (List.mem_of_getElem? hz)
            obtain ⟨w9, no9, hup, ho9, hk9⟩ := (HO2.out.below hbZ).setOut hza hzs z.l
            have hcv : (convert 30 9 (.slice z.A z.l.length z.c)).run Try.prog wZ = .ok (.string (textOf z.l)) wZ := conv_text (fun i hi => by
              obtain ⟨b3, o3, e, hc⟩ := hlz i hi
              exact ⟨b3, o3, e, keep_below hbZ _ _ hc⟩)
            have HS9 := Lib.hid (HS2.out.keep (fun a v h => hk9 a v (keep_below hbZ a v h)))
            have HL9 : Hid ((lastOf (outs ++ out.take jj)).set z.a z.s z.l = lastOf (outs ++ out.take (jj + 1))) := by
              unfold Hid
              rw [List.take_add_one, hz, Option.toList_some, ← List.append_assoc, lastOf_snoc]
            rw [HL9.out] at ho9
            have HO9 := Lib.hid ho9
            obtain ⟨S2, hS2⟩ : ∃ S2, S2 = textOf z.l := ⟨_, rfl⟩
            rw [← hS2] at hcv hup
            obtain ⟨u, hu⟩ : ∃ u, u = q + jj := ⟨_, rfl⟩
            have HU := Lib.hid hu
            rw [← hu]
            have hwu : IntKind.i64.wrap ((u : Int) + 1) = (u : Int) + 1 := wraps_up u (by omega)
            obtain ⟨mz, hmz⟩ : ∃ mz, mz = z.l.length := ⟨_, rfl⟩
            rw [← hmz] at hcv z2 hwZ
            subst hwZ
            clear hz hcz hlz hbZ hza hzs hk9 HL9 ho9 hS2 hu hmz HO2 HS2 HO HOB HO6 HA HC HX HRB HBB HY HSp HWo HW HFew hc1 hc2 hc3 hlen hr
            go_wp2
            go_roundw
            case rel => exact ⟨jj + 1, no9, by omega, by go_num, by rw [show q + (jj + 1) = u + 1 by have := HU.out; omega]; go_num, HO9.out, HS9.out⟩
            case measure => simp [intOf]; omega
          · obtain rfl : jj = m := by omega
            have hall : out.take jj = out := by rw [HM.out]; exact List.take_length
            have HLast : Hid ((lastOf (outs ++ items)).set x.a x.s x.l = lastOf ((outs ++ out) ++ rest)) := by
              unfold Hid; rw [← lastOf_put outs items g x y HY.out, HSp.out, List.append_assoc]
            have ho3 := HO2.out
            rw [hall, HLast.out] at ho3
            have HO3 := Lib.hid ho3
            have HLn2 : Hid ((outs ++ out).length = q + jj) := by unfold Hid; rw [List.length_append, ← HQ.out, ← HM.out]
            clear hall ho3 HLast HO2 HS2 HO HOB HO6 HA HC HX HRB HBB HY HSp HWo HW HFew
            go_wp2
            go_roundw
            case rel => exact ⟨k + 1, p + 1, A2, cc2, nl6, no2, rest, outs ++ out, g, by omega, by go_num, by go_num, by rw [HLn2.out], HO3.out, ⟨by rw [HLn2.out]; omega, by omega, hr⟩, by have := Hg.out; omega⟩
            case measure => simp [intOf]; omega
      · have b1 : (x.g == 1) = false := by simp [g1]
        by_cases g2 : x.g = 2
        · rw [g2] at c0
          have HBar := Lib.hid (HOB.out.barrier (by have := Hg.out; omega))
          clear g1 g2 b1
          go_wp2_with fail
          rw [← hwB]
          clear hwB
          refine HBar.out.mono ?_
          rintro e w6 ⟨⟨v, rfl⟩, ho6⟩
          have HO6 := Lib.hid ho6
          have hbg := barG_le items g
          have HBG := Lib.hid hbg
          clear HBar ho6 hbg HFew c0
          go_wp2
          go_roundw
          case rel => exact ⟨k + 1, p, A, c, nl, no, items, outs, barG items g, by omega, by go_num, rfl, by rw [HQ.out], HO6.out, ⟨by rw [← HQ.out]; omega, by omega, hc3⟩, by have := Hg.out; have := HBG.out; omega⟩
          case measure => simp [intOf]; omega
        · have b2 : (x.g == 2) = false := by simp [g2]
          clear g1 g2 HFew
          go_wp2
          rw [← hwB]
          clear hwB
          go_roundw
          case rel => exact ⟨k + 1, p, A, c, nl, no, items, outs, g, by omega, by go_num, rfl, by rw [HQ.out], HOB.out, ⟨by rw [← HQ.out]; omega, by omega, hc3⟩, by have := Hg.out; omega⟩
          case measure => simp [intOf]; omega
    · obtain rfl : k = n := by omega
      have HFl := Lib.hid HO.out.flush
      obtain ⟨m, hm⟩ : ∃ m, m = items.length := ⟨_, rfl⟩
      have HM := Lib.hid hm
      rw [← hm] at hc1 HFl
      have hm400 : m ≤ 400 := by omega
      have HWo : Hid (∀ z ∈ items, W64 z.a ∧ W64 z.s) := HO.out.held.wf
      clear hm HFew
      go_wp2_with fail
      refine HFl.out.mono ?_
      rintro e w6 ⟨Ao, co, rfl, ho6, hs6⟩
      have HO6 := Lib.hid ho6
      have HS6 := Lib.hid hs6
      clear HFl ho6 hs6
      go_wp2
      go_loopw [10, 115] (fun lv j wr2 => ∃ (jj no2 : Nat), jj ≤ m ∧ j = .int .i64 jj ∧ lv = .int .i64 (q + jj : Nat) ∧ OSt w wr2 C mb most ml mo none 0 nl no2 [] g (lastOf (outs ++ items)) (lastOf (outs ++ items.take jj)) ∧ Sees wr2 Ao items) (fun _ j _ => m - (intOf j).toNat)
      case atStart => exact ⟨0, no, by omega, rfl, rfl, by rw [List.take_zero, List.append_nil]; exact HO6.out, HS6.out⟩
      case round =>
        obtain ⟨jj, no2, hjj, rfl, rfl, ho2, hs2⟩ := hrel
        have HO2 := Lib.hid ho2
        have HS2 := Lib.hid hs2
        clear HO6 HS6 ho2 hs2
        by_cases hlt2 : jj < m
        ·
          obtain ⟨z, hz⟩ : ∃ z, items[jj]? = some z := ⟨_, List.getElem?_eq_getElem (by rw [← HM.out]; exact hlt2)⟩
          obtain ⟨⟨b2, o2, e2, hcz⟩, hlz⟩ := HS2.out.at0 jj z hz
          subst e2
          have z0 := hcz 0 _ rfl
          have z1 := hcz 1 _ rfl
          have z2 := hcz 2 _ rfl
          rw [Nat.add_zero] at z0
          rw [← Nat.add_assoc] at z1 z2
          obtain ⟨wZ, hwZ⟩ : ∃ wZ, wZ = wr.alloc (.cells #[.int .i64 z.a, .int .i64 z.s, .slice z.A z.l.length z.c] 32) := ⟨_, rfl⟩
          have hbZ : Below wr.heap.size wr wZ := by rw [hwZ]; (repeat (first | (with_reducible refine Below.drew ?_) | (with_reducible refine below_drewN0 ?_ _) | ((with_reducible refine Below.setCell ?_ ?_ _); rotate_left; focus (first | omega | (simp; done) | (simp; omega) | (simp at *; omega))) | ((with_reducible refine Below.alloc ?_ ?_ _); rotate_left; focus (first | omega | (simp; done) | (simp; omega) | (simp at *; omega))) | (with_reducible exact Below.refl _ _)))
          obtain ⟨hza, hzs⟩ := HWo.out z (List.mem_of_getElem? hz)
          obtain ⟨w9, no9, hup, ho9, hk9⟩ := (HO2.out.below hbZ).setOut hza hzs z.l
          have hcv : (convert 30 9 (.slice z.A z.l.length z.c)).run Try.prog wZ = .ok (.string (textOf z.l)) wZ := conv_text (fun i hi => by
            obtain ⟨b3, o3, e, hc⟩ := hlz i hi
            exact ⟨b3, o3, e, keep_below hbZ _ _ hc⟩)
          have HS9 := Lib.hid (HS2.out.keep (fun a v h => hk9 a v (keep_below hbZ a v h)))
          have HL9 : Hid ((lastOf (outs ++ items.take jj)).set z.a z.s z.l = lastOf (outs ++ items.take (jj + 1))) := by
            unfold Hid
            rw [List.take_add_one, hz, Option.toList_some, ← List.append_assoc, lastOf_snoc]
          rw [HL9.out] at ho9
          have HO9 := Lib.hid ho9
          obtain ⟨S2, hS2⟩ : ∃ S2, S2 = textOf z.l := ⟨_, rfl⟩
          rw [← hS2] at hcv hup
          obtain ⟨u, hu⟩ : ∃ u, u = q + jj := ⟨_, rfl⟩
          have HU := Lib.hid hu
          rw [← hu]
          have hwu : IntKind.i64.wrap ((u : Int) + 1) = (u : Int) + 1 := wraps_up u (by omega)
          obtain ⟨mz, hmz⟩ : ∃ mz, mz = z.l.length := ⟨_, rfl⟩
          rw [← hmz] at hcv z2 hwZ
          subst hwZ
          clear hz hcz hlz hbZ hza hzs hk9 HL9 ho9 hS2 hu hmz HO2 HS2 HWo HO HW hc1 hc2 hc3
          go_wp2
          go_roundw
          case rel => exact ⟨jj + 1, no9, by omega, by go_num, by rw [show q + (jj + 1) = u + 1 by have := HU.out; omega]; go_num, HO9.out, HS9.out⟩
          case measure => simp [intOf]; omega
        · obtain rfl : jj = m := by omega
          have hall : items.take jj = items := by rw [HM.out]; exact List.take_length
          have ho3 := HO2.out
          rw [hall] at ho3
          have HO3 := Lib.hid ho3
          obtain ⟨f, hM, hT⟩ := ho3.last
          have HT := Lib.hid hT
          have HMap := Lib.hid hM
          clear hall ho3 hM hT HO2 HS2 HWo HO HW
          generalize wr = W0 at *
          go_wp2_with (at_range; refine wpList_range_map rfl _ 29 rfl 35 9 arr_under ml nl f rfl HMap.out ?_; intro w7 hit7 hb7)
          go_frame
          have HIt7 := Lib.hid hit7
          have HB7 := Lib.hid hb7
          clear hit7 hb7
          obtain ⟨r, hr⟩ : ∃ r, r = W0.heap.size := ⟨_, rfl⟩
          have HR := Lib.hid hr
          rw [← hr] at HIt7 ⊢
          clear hr
          go_loopw [17] (fun kv wr => ∃ cnt, IterIs Try.prog 35 wr ml r nl f cnt ∧ Below W0.heap.size W0 wr) (fun _ wr => wr.rangeLeft ml r)
          case atStart => exact ⟨_, HIt7.out, HB7.out⟩
          case round =>
            obtain ⟨cnt, hit, hb⟩ := hrel
            have HIt := Lib.hid hit
            have HB := Lib.hid hb
            clear HIt7 HB7 hit hb
            go_wp2_with (at_next; refine wpList_next_map rfl _ rfl 35 ml r nl f cnt rfl HIt.out ?_ ?_)
            · intro h0
              have ho4 := HO3.out.below HB.out
              have e := ho4.last.same ho4.out
              have hl1 : ∀ ty, (Builtin.len_ #[29] ty #[.map (some mo)]).run Try.prog wr = .ok (.int .i64 nl) wr := fun ty => by rw [e]; exact ho4.out.len ty
              have hl2 : ∀ ty, (Builtin.len_ #[29] ty #[.map (some ml)]).run Try.prog wr = .ok (.int .i64 nl) wr := fun ty => ho4.last.len ty
              have hqp : (q : Int) + (jj : Int) ≤ p := by omega
              have HLen := Lib.hid (Len_any C none 0 0 wr ho4.held.cells.2.1)
              have HGr := Lib.hid (Groups_any w.heap.size C mb most 0 none [] g wr ho4.held)
              have HBel := Lib.hid ho4.bel
              clear h0 ho4 e
              go_wp2_with fail
              refine HLen.out.mono ?_
              rintro e w9 ⟨rfl, rfl⟩
              go_wp2_with fail
              refine HGr.out.mono ?_
              rintro e w10 ⟨rfl, hb10⟩
              have HB10 : Hid (Below w.heap.size w w10) := HBel.out.trans (hb10.mono HBel.out.size)
              clear HLen HGr hb10 hl1 hl2
              go_wp2
              go_ret
              exact ⟨rfl, HB10.out⟩
            · intro key v w8 cnt8 hfk hit8 hlt8 hg8 hen
              obtain ⟨a, s, l, rfl, ⟨ha, hs⟩, hF, rfl⟩ := HT.out.1 key v hfk
              obtain ⟨wL, hwL⟩ : ∃ wL, wL = w8.alloc (.cells #[.int .i64 a, .int .i64 s] 35) := ⟨_, rfl⟩
              have hb8 : Below W0.heap.size W0 w8 := by
                refine HB.out.grown hg8 HB.out.size ?_
                intro q hq
                have : r = q := by injection hq
                have := HR.out
                omega
              have hbL : Below w8.heap.size w8 wL := by rw [hwL]; (repeat (first | (with_reducible refine Below.drew ?_) | (with_reducible refine below_drewN0 ?_ _) | ((with_reducible refine Below.setCell ?_ ?_ _); rotate_left; focus (first | omega | (simp; done) | (simp; omega) | (simp at *; omega))) | ((with_reducible refine Below.alloc ?_ ?_ _); rotate_left; focus (first | omega | (simp; done) | (simp; omega) | (simp at *; omega))) | (with_reducible exact Below.refl _ _)))
              have HBL : Hid (Below W0.heap.size W0 wL) := hb8.trans (hbL.mono hb8.size)
              have HItL := Lib.hid (hit8.below hbL)
              have hlook := (HO3.out.below HBL.out).out.look ha hs hF
              obtain ⟨S, hS⟩ : ∃ S, S = textOf l := ⟨_, rfl⟩
              rw [← hS] at hlook hen ⊢
              have HLt := Lib.hid hlt8
              subst hwL
              clear hS hfk hit8 hlt8 hg8 hF ha hs hb8 hbL
              go_wp2
              go_roundw
              case rel =>
                (repeat (apply Exists.intro))
                exact ⟨⟨cnt8, HItL.out, HBL.out⟩, rfl⟩
              case measure => rw [HItL.out.left_eq, HIt.out.left_eq]; exact HLt.out
end Go.Proofs.Ytmppegknkeggcaa
namespace Go.Proofs.Ytmppegknkeggcaa.cacheOrders
open Go.ChangeShapes Go.WideShapes Go.ChangeAt Go.RowKit Go.Joins
set_option linter.unusedVariables false
set_option linter.unusedSimpArgs false

theorem opened {H : Type} {enc : TypeId × Value → H} (W : World) {base : Nat} {v0 v1 : Value} {d0 d1 : DataW H} {gs : List (DataW H)} {p0 p1 : List MemPlace}
    (o0 : Value.okWide Try.prog W .any base 3 v0) (o1 : Value.okWide Try.prog W .any base 22 v1)
    (h0 : DataW.Trod enc Try.prog W 0 (fun _ => true) true 3 v0 d0 p0) (h1 : DataW.Trod enc Try.prog W 0 (fun _ => true) true 22 v1 d1 p1)
    (hk : Rows.uptoSmall H ([d0, d1] ++ gs) = true) :
    Calls Try.prog 3 #[v0, v1] W fun e W' => e = .returned (.bool true) ∧ Below W.heap.size W W' := by
  obtain ⟨m, rfl, rfl, rfl, wm⟩ := open_int Try.underlying3 o0 h0
  obtain ⟨ad, cap, its, rfl, _, hW, hb⟩ := acts_w_view o1 h1
  have hle := bulk_part (d := d1) (l := [.lit (.int .i64 m), d1] ++ gs) (by simp)
  have hbd := bulk_bound hk
  by_cases hf : fewB its = false ∨ m < 0 ∨ 64 < m
  · exact orders_out m ad cap its (by omega) (by omega) hf W hW
  · have h1 : fewB its = true := by
      cases h : fewB its
      · exact absurd (.inl h) hf
      · rfl
    obtain ⟨m, rfl⟩ := Int.eq_ofNat_of_zero_le (show 0 ≤ m by omega)
    exact orders_walk m ad cap its (by omega) (by omega) h1 (by omega) W hW

/-! THE STATEMENT's FRAME, written by my own program over the guide's way (howto/shells, how-to-prove-an-upto-statement). -/
theorem own : ownKnob Try.prog.godebug = none := by kernel_rfl
theorem laidOut : laidOutB Try.prog = true := by kernel_rfl

theorem contract (H : Type) (enc : TypeId × Value → H) (W : World) (base : Nat) (args : Array Value) (ds gs : List (DataW H)) (before : List MemPlace)
    (hval : ∀ (j : Nat) t v, Try.f3.params[j]? = some t → args[j]? = some v → Value.okWide Try.prog W .any base t v)
    (hW : DataW.Whole enc Try.prog Try.f3.params.toList Rows.cacheOrdersSpec.vars false W args.toList ds gs before) (hk : Rows.uptoSmall H (ds ++ gs) = true) :
    Calls Try.prog 3 args W fun e W' => ∃ v, e = .returned v ∧ Rows.cacheOrdersSpec.post enc Try.prog Try.f3 false true false false W args v W' := by
  have hW' := hW
  obtain ⟨p, q, hA0, hV, rfl, hfz, hnd⟩ := hW
  have hA : DataW.TrodAll enc Try.prog W 0 (fun _ => true) true Try.f3.params.toList args.toList ds p := hA0
  rw [Try.params3] at hA hval
  obtain ⟨v0, vs0, d0, ds0, p0, q0, hargs, rfl, rfl, h0, r0⟩ := trodAll_cons hA
  obtain ⟨v1, vs1, d1, ds1, p1, q1, rfl, rfl, rfl, h1, r1⟩ := trodAll_cons r0
  obtain ⟨rfl, rfl, rfl⟩ := trodAll_nil r1
  obtain rfl : args = #[v0, v1] := by cases args; simp_all
  obtain ⟨rfl, rfl⟩ := trodVars_none hV
  have k0 := h0
  have lt0 : ∀ x ∈ p0, x.block < W.heap.size := by obtain ⟨m, hm⟩ := k0; exact DataW.trod_lt m _ _ _ hm
  have k1 := h1
  have lt1 : ∀ x ∈ p1, x.block < W.heap.size := by obtain ⟨m, hm⟩ := k1; exact DataW.trod_lt m _ _ _ hm
  clear hA0
  refine (opened W (hval 0 3 v0 rfl rfl) (hval 1 22 v1 rfl rfl) h0 h1 hk).mono fun e W' ⟨he, bel⟩ => ?_
  subst he
  exact ⟨_, rfl, _, _, _, [], _, [], hW', trodAll_mk1 (shut_bool Try.underlying4 _), (trodAll_cons_mk (Below.trod laidOut (by kernel_rfl) (of_decide_eq_true (by kernel_rfl)) k0 bel lt0) (trodAll_cons_mk (Below.trod laidOut (by kernel_rfl) (of_decide_eq_true (by kernel_rfl)) k1 bel lt1) trodAll_mk0)), rfl, bel.frame _, fun h => by cases h⟩

set_option maxRecDepth 100000 in
theorem lifted (os : Os) (started : os.Started) (H : Type) (enc : TypeId × Value → H) (F : Stop.Interp) :
    ReturnsInHanded {} Try.checked os 3 .any ((Rows.OpenSpec.upto Rows.cacheOrdersSpec).pre6 enc Try.prog Try.f3 Rows.cacheOrdersUptoRow.domain false) (((Rows.OpenSpec.upto Rows.cacheOrdersSpec).at F).post enc Try.prog Try.f3 false true false false) := by
  refine returnsInHanded_of_cond (C := Try.checked) (s := Rows.OpenSpec.upto Rows.cacheOrdersSpec) (k := Rows.uptoSmall) rfl own started (by kernel_rfl) Try.func3
    (OpenSpec.witness (enc := enc) (C := Try.checked) (s := Rows.OpenSpec.upto Rows.cacheOrdersSpec) (k := Rows.uptoSmall) rfl false ⟨#[], #[.int .i64 0, .slice none 0 0], []⟩ 8 (by kernel_rfl) (by kernel_rfl) (by kernel_rfl)
      (x := ([.lit (.int .i64 0), .nil], [], [])) (by kernel_rfl) rfl (by kernel_rfl)) ?_
  intro W base args ds gs before hval hW _ hk _
  exact contract H enc W base args ds gs before hval hW hk

theorem proved : Rows.CacheOrdersUptoSaid :=
  OpenClaim.holds_of_cond 3 Try.f3 rfl rfl rfl rfl rfl rfl rfl ⟨rfl, rfl, rfl, rfl, rfl⟩ rfl rfl rfl rfl rfl (by kernel_rfl) Try.func3 (by kernel_rfl)
    (of_decide_eq_true (by kernel_rfl)) (by unfold Func.isWrapper; first | (rw [if_pos (by decide +kernel)]; kernel_rfl) | (rw [if_neg (by decide +kernel)]; exact ⟨rfl, rfl⟩))
    (fun os started H enc _ F => lifted os started H enc F)
#print axioms proved
end Go.Proofs.Ytmppegknkeggcaa.cacheOrders
