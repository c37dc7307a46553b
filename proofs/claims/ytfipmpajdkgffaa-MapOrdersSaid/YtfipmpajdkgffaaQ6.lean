/- What follows is laid together from several texts of mine, in their order. -/
import Derived.Test.YtfipmpajdkgffaaQ5
import Derived.Test.YtfipmpajdkgffaaQ1
import Derived.ProofKit
import Derived.OpenShut
import Derived.ShutString
import Derived.ChangeOld
import Derived.Lib.SmallJoins

namespace Go.Proofs.Ytfipmpajdkgffaa
open Go.RowKit Go.MapKept Go.ChangeMaps
attribute [local go_sem] Oper.semAt_some
attribute [local simp, local go_sem] wide_fn
set_option linter.unusedVariables false
set_option linter.unusedSimpArgs false
/-- A shelf's row, empty or not. -/
theorem ShIs.row0 {w : World} {Sb : Nat} {T F : List Nat} {sh : Sh} (h : ShIs w Sb T F sh) : ∃ A1 c1 v2, Row w Sb 56 #[.slice A1 sh.L.length c1, v2, .int .i64 sh.full] := by
  obtain ⟨v1, v2, xs, h1, h2, _⟩ := h.at'
  obtain ⟨A, c, rfl, _⟩ := own_shape h2
  exact ⟨A, c, v2, h1⟩
theorem SmIs.shelf {w : World} {Mb Sb : Nat} {T F : List Nat} {S : Sm} {sh : Sh} (h : SmIs w Mb Sb T F S sh) : ShIs w Sb T F sh := by
  obtain ⟨_, _, _, _, h⟩ := h
  exact h.shelf
set_option maxRecDepth 100000 in
set_option maxHeartbeats 4000000 in
theorem step_move (w : World) (B Wb Mb Sb Hb : Nat) (T F : List Nat) (S : Sm) (sh : Sh) (hs : Nat → Nat) (h : WdIs w B Wb Mb Sb Hb T F S sh hs) (hf : sh.full = -1) (hl : sh.L.length + S.cnt + 1 ≤ 262143) (x : Ac) (hop : x.op = 5) (hin : 0 ≤ x.s ∧ x.s < (S.np : Int)) :
    Calls Try.prog 19 #[.pointer (some ⟨Wb, 0, none⟩), x.val] w fun e w' => e = .returned (.bool true) ∧ WdTo w w' B Wb Sb Hb (S.cnt + 1) 1 S sh := by
  have HLc := Lib.hid hl
  have HPa : Hid (∀ u, Below w.heap.size w u → Calls Try.prog 18 #[.pointer (some ⟨Mb, 0, none⟩)] u fun e w' => e = .returned (.int .i64 S.np) ∧ Below u.heap.size u w') := fun u hu => Parts_any u Mb Sb T F S sh (h.below hu).sm
  have hnp := h.sm.np_few
  have hnps : S.np ≤ S.sectors := by
    have h1 := h.pw.sec
    have h2 := Nat.div_le_self (S.sectors - 1) S.each
    unfold Sm.np; omega
  obtain ⟨np, hnpe⟩ : ∃ np, np = S.np := ⟨_, rfl⟩
  have HNp := Lib.hid hnpe
  rw [← hnpe] at HPa hin hnp hnps
  clear hnpe
  obtain ⟨op, sc, pb, pp⟩ := x
  unfold Ac.val
  dsimp only at hop ⊢
  subst hop
  obtain ⟨w1, hw1⟩ : ∃ w1, w1 = w.alloc (.cells #[.int .i64 5, .int .i64 sc, .int .i64 pb, .int .i64 pp] 30) := ⟨_, rfl⟩
  have HB1 : Hid (Below w.heap.size w w1) := by unfold Hid; rw [hw1]; exact (Below.refl _ _).alloc (Nat.le_refl _) _
  obtain ⟨X, hX⟩ : ∃ X, X = w.heap.size := ⟨_, rfl⟩
  have HX : Hid (Row w1 X 30 #[.int .i64 5, .int .i64 sc, .int .i64 pb, .int .i64 pp]) := by unfold Hid; rw [hw1, hX]; exact Row.fresh _ _ _
  have HD := Lib.hid (h.below HB1.out)
  have HXT : Hid (X ∉ T) := fun hm => by
    obtain ⟨_, _, _, _, h1⟩ := h.sm
    have := h1.lt _ (.inl hm); omega
  have HXW : Hid (X ∉ F ∧ X ≠ Wb ∧ X ≠ Hb) := ⟨fun hm => by
    obtain ⟨_, _, _, _, h1⟩ := h.sm
    have := h1.lt _ (.inr hm); omega, by have := h.row.lt; omega, by have := h.has.lt; omega⟩
  have HBl := Lib.hid h.B_le
  have HFl := Lib.hid hf
  have HL := Lib.hid hl
  have x0 := HX.out.cell 0
  have x1 := HX.out.cell 1
  have c0 := HD.out.row.cell 0
  simp only [List.getElem?_toArray, List.getElem?_cons_zero, List.getElem?_cons_succ] at x0 x1 c0
  have hsec := h.sm.few
  obtain ⟨st, hst⟩ : ∃ st, st = S.sectors := ⟨_, rfl⟩
  obtain ⟨cn, hcn⟩ : ∃ cn, cn = S.cnt := ⟨_, rfl⟩
  have HCn := Lib.hid hcn
  clear hcn
  obtain ⟨hl0, hhl⟩ : ∃ hl0, hl0 = S.held := ⟨_, rfl⟩
  have HSt := Lib.hid hst
  have HHl := Lib.hid hhl
  rw [← hst] at c0 hsec
  have HX1 := Lib.hid hX
  rw [hX, hw1] at x0 x1
  rw [hw1] at c0
  have HW1 := Lib.hid hw1
  have HH := Lib.hid h
  clear h hf hl hst hhl hX hw1
  dsimp only at hin
  have c4 := HD.out.row.cell 4
  simp only [List.getElem?_toArray, List.getElem?_cons_zero, List.getElem?_cons_succ] at c4
  rw [HW1.out] at c4
  obtain ⟨i0, i2⟩ := hin
  have i1 : sc < st := by have := HSt.out; omega
  have g2 : ¬ (np : Int) ≤ sc := by omega
  clear hnps
  go_enter Try.func19, Try.ntmps19
  go_wp2
  go_quiet (fail)
  go_wp2_with fail
  rw [← HW1.out]
  obtain ⟨u0, hu0⟩ : ∃ u0, u0 = w1.drewN nq := ⟨_, rfl⟩
  rw [← hu0]
  replace HD : Hid (WdIs u0 B Wb Mb Sb Hb T F S sh hs) := by unfold Hid; rw [hu0]; exact HD.out.below (below_drewN0 (Below.refl _ _) _)
  replace HX : Hid (Row u0 X 30 #[.int .i64 5, .int .i64 sc, .int .i64 pb, .int .i64 pp]) := by unfold Hid; rw [hu0]; exact HX.out
  replace HB1 : Hid (Below w.heap.size w u0) := by unfold Hid; rw [hu0]; exact below_drewN0 HB1.out _
  rw [← HX1.out]
  clear hu0 x0 x1 c0
  clear c4
  refine (HPa.out _ HB1.out).mono ?_
  rintro e w1 ⟨rfl, hb⟩
  replace HD := Lib.hid (HD.out.below hb)
  replace HX := Lib.hid (HX.out.below hb HX.out.lt)
  replace HB1 : Hid (Below w.heap.size w w1) := HB1.out.trans (hb.mono HB1.out.size)
  clear hb HPa HW1
  have k4 : w1.cell? ⟨Wb, 4, none⟩ = some (.pointer (some ⟨Mb, 0, none⟩)) := HD.out.row.cell 4
  go_wp2_with fail
  clear k4
  refine (flush_world HD.out HFl.out (by have := HLc.out; omega)).mono ?_
  rintro e w2 ⟨rfl, T2, F2, S2, sh2, hfl2⟩
  have HF2 := Lib.hid hfl2
  clear hfl2
  obtain ⟨A1, c1, v2, hrow⟩ := HF2.out.is.sm.shelf.row0
  have r0 := hrow.cell 0
  have k3 : w2.cell? ⟨Wb, 3, none⟩ = some (.pointer (some ⟨Sb, 0, none⟩)) := HF2.out.is.row.cell 3
  simp only [List.getElem?_toArray, List.getElem?_cons_zero] at r0
  obtain ⟨ll, hll⟩ : ∃ ll, ll = sh2.L.length := ⟨_, rfl⟩
  have HLl := Lib.hid hll
  rw [← hll] at r0
  have hll6 : ll ≤ 262143 := by have := HF2.out.puts; have := HLc.out; omega
  clear hrow hll
  go_wp2_with fail
  go_loopw [12] (fun v wr => ∃ j : Nat, v = .int .i64 ((j : Int) - 1) ∧ j ≤ ll ∧ (∀ (i : Nat) (z : Int), j ≤ i → sh2.N[i]? = some z → z ≠ sc) ∧ wr = w2) (fun v _ => (intOf v + 1).toNat)
  case atStart => exact ⟨ll, rfl, Nat.le_refl _, fun i z hi hz => by
    have h1 := (List.getElem?_eq_some_iff.1 hz).1
    have h2 := HF2.out.is.pw.wl.same
    have := HLl.out
    omega, rfl⟩
  case round =>
    obtain ⟨j, rfl, hj, hno, rfl⟩ := hrel
    have HNo := Lib.hid hno
    clear hno
    rcases j with _ | i
    · have e1 : ((0 : Nat) : Int) - 1 = -1 := by omega
      rw [e1]
      clear e1 r0 k3
      go_wp2
      have HX2 : Hid (Row wr X 30 #[.int .i64 5, .int .i64 sc, .int .i64 pb, .int .i64 pp]) := HF2.out.turns.row HX.out HXT.out
      have HB2 : Hid (Below B w wr) := (HB1.out.mono HBl.out).trans (HF2.out.turns.below (Below.refl _ _) (Nat.le_trans HBl.out HB1.out.size) HD.out.low.2.2)
      replace HXT : Hid (X ∉ T2) := fun hm => (HF2.out.grown.1 _ hm).elim HXT.out (fun h => by have := HX.out.lt; have : w1.heap.size ≤ X := h; omega)
      replace HD := Lib.hid HF2.out.is
      replace HX := HX2
      replace HFl : Hid (sh2.full = -1) := HF2.out.full.trans HFl.out
      replace HL : Hid (sh2.L.length ≤ 262143) := by have := HF2.out.puts; have := HLc.out; unfold Hid; omega
      replace HHl : Hid (hl0 = S2.held) := HHl.out.trans HF2.out.same.2.2.symm
      obtain ⟨cn, hcn⟩ : ∃ cn, cn = S2.cnt := ⟨_, rfl⟩
      replace HCn := Lib.hid hcn
      clear hcn HX2
      have k1 : ∀ t : Kept wr T2, t.u.cell? ⟨Wb, 4, none⟩ = some (.pointer (some ⟨Mb, 0, none⟩)) := fun t => (t.h.row HD.out.row HD.out.sepW.1).cell 4
      have k2 : ∀ t : Kept wr T2, t.u.cell? ⟨Wb, 2, none⟩ = some (.int .i64 hl0) := fun t => by rw [HHl.out]; exact (t.h.row HD.out.row HD.out.sepW.1).cell 2
      have k3 : ∀ t : Kept wr T2, t.u.cell? ⟨X, 1, none⟩ = some (.int .i64 sc) := fun t => (t.h.row HX.out HXT.out).cell 1
      have hS : ∃ t : Kept wr T2, World.drew wr = t.u := ⟨⟨_, (Turns.refl _ _).drew⟩, rfl⟩
      have hmx : Try.prog.follows .mixedOrders = true := by kernel_rfl
      have hcl : cn ≤ hl0 := by rw [HCn.out, HHl.out]; exact HD.out.pw.wl.held
      have HHe : Hid (∀ u, Below (World.heap wr).size wr u → Calls Try.prog 13 #[.pointer (some ⟨Mb, 0, none⟩)] u fun e w' => e = .returned (.int .i64 cn) ∧ Below u.heap.size u w') := fun u hu => by rw [HCn.out]; exact (end_calls HD.out HFl.out HL.out sc u hu).1
      have HDi : Hid (∀ u, Below (World.heap wr).size wr u → Calls Try.prog 34 #[.pointer (some ⟨Mb, 0, none⟩)] u fun e w' => (∃ k : Nat, e = .returned (.int .i64 k) ∧ k ≤ cn) ∧ Below u.heap.size u w') := fun u hu => by rw [HCn.out]; exact (end_calls HD.out HFl.out HL.out sc u hu).2.1
      have HGe : Hid (∀ u, Below (World.heap wr).size wr u → Calls Try.prog 20 #[.pointer (some ⟨Wb, 0, none⟩), .int .i64 sc] u fun e w' => e = .returned (.bool true) ∧ WdM wr w' B Wb Mb Sb Hb T2 F2 1 1 S2 sh2 hs ∧ Turns u w' T2) := fun u hu => (end_calls HD.out HFl.out HL.out sc u hu).2.2
      refine wp_region_noPanic ?_
      refine region_treeW (fun u => ∃ t : Kept wr T2, u = t.u) (Tn.takes [0,1,2,3,5,6,7,8] (.one 4 (Tn.takes [9,10,11,12,13,14,16,17,18,19] (.one 15 (.one 20 (Tn.takes [21,22,23,24,25,26] (.one 27 (.take 28 (.take 29 .nil))))))))) hmx (by kernel_rfl) (fun _ _ _ _ _ h => h) hS ?_
      simp only [Tn.takes]
      (repeat ((with_reducible refine wpTree_take (by with_unfolding_all exact rfl) ?_); (with_reducible (show wpQuiet _ _ _ _ (_ :: _) _)); go_big_quiet_step (fail); (with_reducible refine wpQuiet_nil ?_)))
      (with_reducible refine wpTree_one (by with_unfolding_all exact rfl) ?_)
      gi_wp2_with fail
      refine ((callsIn_wide (n := 8)).2 (HHe.out _ ((Below.refl _ _).drew))).mono ?_
      rintro e w6 ⟨rfl, hb6⟩
      have HB6 : Hid (Below (World.heap wr).size wr w6) := ((Below.refl _ _).drew).trans hb6
      clear hb6
      gi_wp2_with fail
      (with_reducible refine outQ_normal ?_ ?_); exact ⟨⟨w6, Turns.of_below HB6.out _⟩, rfl⟩
      (repeat ((with_reducible refine wpTree_take (by with_unfolding_all exact rfl) ?_); (with_reducible (show wpQuiet _ _ _ _ (_ :: _) _)); go_big_quiet_step (fail); (with_reducible refine wpQuiet_nil ?_)))
      (with_reducible refine wpTree_one (by with_unfolding_all exact rfl) ?_)
      gi_wp2_with fail
      refine ((callsIn_wide (n := 8)).2 (HDi.out _ HB6.out)).mono ?_
      rintro e w7 ⟨⟨dn, rfl, hdn⟩, hb7⟩
      have HB7 : Hid (Below (World.heap wr).size wr w7) := HB6.out.trans (hb7.mono HB6.out.size)
      clear hb7
      gi_wp2_with fail
      (with_reducible refine outQ_normal ?_ ?_); exact ⟨⟨w7, Turns.of_below HB7.out _⟩, rfl⟩
      (with_reducible refine wpTree_one (by with_unfolding_all exact rfl) ?_)
      gi_wp2_with fail
      refine ((callsIn_wide (n := 8)).2 (HHe.out _ HB7.out)).mono ?_
      rintro e w8 ⟨rfl, hb8⟩
      have HB8 : Hid (Below (World.heap wr).size wr w8) := HB7.out.trans (hb8.mono HB7.out.size)
      clear hb8
      gi_wp2_with fail
      (with_reducible refine outQ_normal ?_ ?_); exact ⟨⟨w8, Turns.of_below HB8.out _⟩, rfl⟩
      (repeat ((with_reducible refine wpTree_take (by with_unfolding_all exact rfl) ?_); (with_reducible (show wpQuiet _ _ _ _ (_ :: _) _)); go_big_quiet_step (fail); (with_reducible refine wpQuiet_nil ?_)))
      (with_reducible refine wpTree_one (by with_unfolding_all exact rfl) ?_)
      gi_wp2_with fail
      refine ((callsIn_wide (n := 8)).2 (HGe.out _ HB8.out)).mono ?_
      rintro e w9 ⟨rfl, hm9, ht9⟩
      have HM9 := Lib.hid hm9
      have HT9 : Hid (Turns wr w9 T2) := (Turns.of_below HB8.out _).trans ht9 (fun q hq => .inl hq)
      clear hm9 ht9
      gi_wp2_with fail
      (with_reducible refine outQ_normal ?_ ?_); exact ⟨⟨w9, HT9.out⟩, rfl⟩
      (repeat ((with_reducible refine wpTree_take (by with_unfolding_all exact rfl) ?_); (with_reducible (show wpQuiet _ _ _ _ (_ :: _) _)); go_big_quiet_step (fail); (with_reducible refine wpQuiet_nil ?_)))
      with_reducible refine wpTree_nil ?_
      refine NoPanic.normal ?_
      clear k1 k2 k3 hS
      go_wp2
      go_ret
      exact ⟨by first | (simp; done) | (simp; omega), (WdM.wdTo HD.out HM9.out).late HB2.out HF2.out.same HF2.out.full HF2.out.puts HF2.out.cnt⟩
    · have e1 : ((i + 1 : Nat) : Int) - 1 = (i : Int) := by omega
      rw [e1]
      clear e1
      obtain ⟨Q, Db, P, pb', ha⟩ := HF2.out.is.sm
      obtain ⟨g1, c1', g2', c2, hrows⟩ := ha.shelf.rows (by have := HLl.out; omega)
      have HRs := Lib.hid hrows
      have HA := Lib.hid ha
      have hnl : sh2.N.length = ll := HF2.out.is.pw.wl.same.trans HLl.out.symm
      obtain ⟨z, hz⟩ : ∃ z, sh2.N[i]? = some z := ⟨_, List.getElem?_eq_getElem (by omega)⟩
      have HZ := Lib.hid hz
      have r1 := hrows.row.cell 1
      simp only [List.getElem?_toArray, List.getElem?_cons_zero, List.getElem?_cons_succ] at r1
      have hc2 := hrows.caps.2
      rw [hnl] at r1 hc2
      have q2 := hrows.at2 i z hz
      have hil : i < ll := by omega
      clear ha hrows hnl hz
      by_cases hzs : z = sc
      · subst hzs
        obtain ⟨b, hb⟩ : ∃ b, sh2.L[i]? = some b := ⟨_, List.getElem?_eq_getElem (by have := HLl.out; omega)⟩
        have HBi := Lib.hid hb
        obtain ⟨Ab, cb, q1, h8, hAF⟩ := HRs.out.at1 i b hb
        have HC8 := Lib.hid h8
        have HAF := Lib.hid hAF
        obtain ⟨bk, hbk⟩ : ∃ bk, bk = sh2.L.length / 256 := ⟨_, rfl⟩
        obtain ⟨pn, hpn⟩ : ∃ pn, pn = sh2.L.length % 256 := ⟨_, rfl⟩
        have HBk := Lib.hid hbk
        have HPn := Lib.hid hpn
        clear hbk hpn
        obtain ⟨bl, hbl⟩ : ∃ bl, bl = b.length := ⟨_, rfl⟩
        have HBlen := Lib.hid hbl
        rw [← hbl] at q1
        have r0' := HRs.out.row.cell 0
        simp only [List.getElem?_toArray, List.getElem?_cons_zero, List.getElem?_cons_succ] at r0'
        rw [← HLl.out] at r0'
        have HR0 := Lib.hid r0
        have hc1 := HRs.out.caps.1
        rw [← HLl.out] at hc1
        clear r0 hb h8 hAF hbl
        go_wp2
        have k1 : ∀ t : Kept wr T2, t.u.cell? ⟨Wb, 3, none⟩ = some (.pointer (some ⟨Sb, 0, none⟩)) := fun t => (t.h.row HF2.out.is.row HF2.out.is.sepW.1).cell 3
        have hS : ∃ t : Kept wr T2, wr.drew = t.u := ⟨⟨_, (Turns.refl _ _).drew⟩, rfl⟩
        have hmx : Try.prog.follows .mixedOrders = true := by kernel_rfl
        refine wp_region_noPanic ?_
        refine region_treeW (fun u => ∃ t : Kept wr T2, u = t.u) (Tn.takes [0,1,2,3,4,5,6,7,8,9,10,12] (.two 11 19 (Tn.takes [13] (.two 14 19 (.two 15 19 (Tn.takes [16,17,18] (.one 19 (.one 20 (Tn.takes [21] .nil)))) (.one 15 (Tn.takes [16,17,18] (.one 20 (Tn.takes [21] .nil))))) (.one 14 (.one 15 (Tn.takes [16,17,18] (.one 20 (Tn.takes [21] .nil))))))) (.one 11 (Tn.takes [13] (.one 14 (.one 15 (Tn.takes [16,17,18] (.one 20 (Tn.takes [21] .nil))))))))) hmx (by kernel_rfl) (fun _ _ _ _ _ h => h) hS ?_
        simp only [Tn.takes]
        (repeat ((with_reducible refine wpTree_take (by with_unfolding_all exact rfl) ?_); (with_reducible (show wpQuiet _ _ _ _ (_ :: _) _)); go_big_quiet_step (fail); (with_reducible refine wpQuiet_nil ?_)))
        obtain ⟨ua, hua⟩ : ∃ ua, ua = (wr.alloc (.cells #[.int .i64 0, .int .i64 0] 28)).drew := ⟨_, rfl⟩
        have HBa : Hid (Below wr.heap.size wr ua) := by unfold Hid; rw [hua]; exact ((Below.refl _ _).alloc (Nat.le_refl _) _).drew
        have HSa : ∃ t : Kept wr T2, ua = t.u := ⟨⟨_, Turns.of_below HBa.out _⟩, rfl⟩
        have r0a := keep_below HBa.out _ _ r0'
        have q1a := keep_below HBa.out _ _ q1
        have HUa := Lib.hid hua
        clear hua
        have HZa : Hid (Row ua wr.heap.size 28 #[.int .i64 0, .int .i64 0]) := by unfold Hid; rw [HUa.out]; exact Row.fresh wr _ _
        have HZs : Hid (ua.heap.size = wr.heap.size + 1) := by unfold Hid; rw [HUa.out]; simp
        have HPut : Hid (∀ u, Below wr.heap.size wr u → Calls Try.prog 36 #[.pointer (some ⟨Sb, 0, none⟩), .int .i64 z, .slice Ab bl cb] u fun e w' => e = .returned (.tuple #[.agg #[.int .i64 bk, .int .i64 pn], .int .i64 0]) ∧ ∃ T3 F3, SmAt w' Mb Sb Q Db P pb' T3 F3 S2 (sh2.put z b) ∧ Turns u w' T2 ∧ (∀ q ∈ T3, q ∈ T2 ∨ u.heap.size ≤ q) ∧ (∀ q ∈ F3, q ∈ F2 ∨ u.heap.size ≤ q)) := fun u hu => by
          have hbm : b ∈ sh2.L := List.mem_of_getElem? HBi.out
          rw [HBlen.out, HBk.out, HPn.out]
          exact law_put HA.out (HF2.out.full.trans HFl.out) (by have := HLl.out; omega) z b Ab cb (HA.out.shelf.small b hbm) (HF2.out.is.pw.wl.len b hbm) HC8.out HAF.out u hu
        have HTl : Hid (∀ q, q ∈ T2 ∨ q ∈ F2 → q < wr.heap.size) := HA.out.lt
        (with_reducible refine wpTree_two (by with_unfolding_all exact rfl) (by with_unfolding_all exact rfl) ?_ ?_)
        · gi_wp2_with fail
          (with_reducible refine outQ_normal ?_ ?_); exact hS
          (repeat ((with_reducible refine wpTree_take (by with_unfolding_all exact rfl) ?_); (with_reducible (show wpQuiet _ _ _ _ (_ :: _) _)); go_big_quiet_step (fail); (with_reducible refine wpQuiet_nil ?_)))
          (with_reducible refine wpTree_two (by with_unfolding_all exact rfl) (by with_unfolding_all exact rfl) ?_ ?_)
          · gi_wp2_with fail
            (with_reducible refine outQ_normal ?_ ?_); exact hS
            (with_reducible refine wpTree_two (by with_unfolding_all exact rfl) (by with_unfolding_all exact rfl) ?_ ?_)
            · gi_wp2_with fail
              refine ((callsIn_wide (n := 8)).2 (HPut.out _ ((Below.refl _ _).drew))).mono ?_
              rintro e w6 ⟨rfl, T3, F3, ha6, ht6, hg6, hf6⟩
              have HA6 := Lib.hid ha6
              have HT6 : Hid (Turns wr w6 T2) := ((Turns.refl wr T2).drew).trans ht6 (fun q hq => .inl hq)
              have HG6 : Hid (∀ q ∈ T3, q ∈ T2 ∨ wr.heap.size ≤ q) := hg6
              have HF6 : Hid (∀ q ∈ F3, q ∈ F2 ∨ wr.heap.size ≤ q) := hf6
              clear ha6 ht6 hg6 hf6
              gi_wp2_with fail
              (with_reducible refine outQ_normal ?_ ?_); exact ⟨⟨w6, HT6.out⟩, rfl⟩
              (repeat ((with_reducible refine wpTree_take (by with_unfolding_all exact rfl) ?_); (with_reducible (show wpQuiet _ _ _ _ (_ :: _) _)); go_big_quiet_step (fail); (with_reducible refine wpQuiet_nil ?_)))
              (with_reducible refine wpTree_one (by with_unfolding_all exact rfl) ?_)
              gi_wp2_with fail
              obtain ⟨w6a, hw6a⟩ : ∃ w6a, w6a = w6.alloc (.cells #[.int .i64 0, .int .i64 0] 28) := ⟨_, rfl⟩
              have HB6a : Hid (Below w6.heap.size w6 w6a) := by unfold Hid; rw [hw6a]; exact (Below.refl _ _).alloc (Nat.le_refl _) _
              have HZ6 : Hid (Row w6a w6.heap.size 28 #[.int .i64 0, .int .i64 0]) := by unfold Hid; rw [hw6a]; exact Row.fresh _ _ _
              rw [← hw6a]
              clear hw6a
              have HT6a : Hid (Turns wr w6a T2) := HT6.out.then_below HB6a.out
              (with_reducible refine outQ_normal ?_ ?_); exact ⟨⟨w6a, HT6a.out⟩, rfl⟩
              have zq0 := HZ6.out.cell 0
              have zq1 := HZ6.out.cell 1
              have zf0 := HZ6.out.frozen 0
              have zf1 := HZ6.out.frozen 1
              simp only [List.getElem?_toArray, List.getElem?_cons_zero, List.getElem?_cons_succ] at zq0 zq1
              (with_reducible refine wpTree_one (by with_unfolding_all exact rfl) ?_)
              gi_wp2_with fail
              obtain ⟨W7, hW7⟩ : ∃ W7, W7 = (w6a.setCell ⟨w6.heap.size, 0, none⟩ (.int .i64 bk)).setCell ⟨w6.heap.size, 1, none⟩ (.int .i64 pn) := ⟨_, rfl⟩
              have ht67 : Turns w6a W7 [w6.heap.size] := by rw [hW7]; exact ((Turns.refl _ _).setCell (by simp) _).setCell (by simp) _
              have HZT : Hid (w6.heap.size ∉ T3 ∧ w6.heap.size ∉ F3) := ⟨fun hm => by have := HA6.out.lt _ (.inl hm); omega, fun hm => by have := HA6.out.lt _ (.inr hm); omega⟩
              have HA7 : Hid (SmAt W7 Mb Sb Q Db P pb' T3 F3 S2 (sh2.put z b)) := (HA6.out.below HB6a.out).keep ht67 (fun q hq => by rw [List.mem_singleton.1 hq]; exact HZT.out)
              have HZ7 : Hid (Row W7 w6.heap.size 28 #[.int .i64 bk, .int .i64 pn]) := by unfold Hid; rw [hW7]; simpa using (HZ6.out.put 0 (.int .i64 bk)).put 1 (.int .i64 pn)
              have HT7 : Hid (Turns wr W7 T2) := HT6a.out.trans ht67 (fun q hq => .inr (by rw [List.mem_singleton.1 hq]; exact HT6.out.size))
              have HZl : Hid (wr.heap.size ≤ w6.heap.size) := HT6.out.size
              rw [← hW7]
              clear hW7 ht67 zq0 zq1 zf0 zf1
              generalize w6.heap.size = Z at *
              (with_reducible refine outQ_normal ?_ ?_); exact ⟨⟨W7, HT7.out⟩, rfl⟩
              (repeat ((with_reducible refine wpTree_take (by with_unfolding_all exact rfl) ?_); (with_reducible (show wpQuiet _ _ _ _ (_ :: _) _)); go_big_quiet_step (fail); (with_reducible refine wpQuiet_nil ?_)))
              with_reducible refine wpTree_nil ?_
              refine NoPanic.normal ?_
              clear k1 hS HSa r0a q1a r0' q1 HPut
              have HR7 := Lib.hid (HT7.out.row HF2.out.is.row HF2.out.is.sepW.1)
              obtain ⟨g1', c1'', g2'', c2'', hrows7⟩ := HA7.out.shelf.rows (by show 0 < (sh2.L ++ [b]).length; simp)
              have HRs7 := Lib.hid hrows7
              have k3 : W7.cell? ⟨Wb, 3, none⟩ = some (.pointer (some ⟨Sb, 0, none⟩)) := HR7.out.cell 3
              have r07 := hrows7.row.cell 0
              simp only [List.getElem?_toArray, List.getElem?_cons_zero] at r07
              rw [show (sh2.put z b).L.length = ll + 1 by show (sh2.L ++ [b]).length = _; rw [List.length_append, HLl.out]; rfl] at r07
              obtain ⟨A7, c7, q7, _, _⟩ := hrows7.at1 i b (by show (sh2.L ++ [b])[i]? = some b; rw [List.getElem?_append_left (by have := HLl.out; omega)]; exact HBi.out)
              have f7 := hrows7.thaw i
              have hc7 := hrows7.caps.1
              rw [show (sh2.put z b).L.length = ll + 1 by show (sh2.L ++ [b]).length = _; rw [List.length_append, HLl.out]; rfl] at hc7
              have HA8 := Lib.hid (HA7.out.lay hrows7 i none [] 0 Cells8.nil (fun a e => by cases e) (by simp))
              have HT78 : Hid (Turns W7 (W7.setCell ⟨g1', i, none⟩ (.slice none 0 0)) [g1']) := (Turns.refl _ _).setCell (by simp) _
              have HG1 : Hid (g1' ∈ T3) := hrows7.mem.2.1
              have HZg : Hid (Z ≠ g1') := fun e => HZT.out.1 (e ▸ hrows7.mem.2.1)
              have HWT : Hid (Wb ∉ T3 ∧ Wb ∉ F3) := ⟨fun hm => (HG6.out _ hm).elim HF2.out.is.sepW.1 (fun h => by have := HF2.out.is.row.lt; omega), fun hm => (HF6.out _ hm).elim HF2.out.is.sepW.2 (fun h => by have := HF2.out.is.row.lt; omega)⟩
              have HHT : Hid (Hb ∉ T3 ∧ Hb ∉ F3) := ⟨fun hm => (HG6.out _ hm).elim HF2.out.is.sepH.1 (fun h => by have := HF2.out.is.has.lt; omega), fun hm => (HF6.out _ hm).elim HF2.out.is.sepH.2 (fun h => by have := HF2.out.is.has.lt; omega)⟩
              clear hrows7 HRs7
              go_wp2
              obtain ⟨W8, hW8⟩ : ∃ W8, W8 = W7.setCell ⟨g1', i, none⟩ (.slice none 0 0) := ⟨_, rfl⟩
              rw [show ([] : List Nat).length = 0 from rfl, ← hW8] at HA8
              rw [← hW8] at HT78 ⊢
              clear hW8 k3 r07 q7 f7
              have HR8 := Lib.hid (HT78.out.row HR7.out (by simp; exact fun e => HWT.out.1 (e ▸ HG1.out)))
              have HZ8 := Lib.hid (HT78.out.row HZ7.out (by simpa using HZg.out))
              have k4 : ∀ t : Kept W8 T3, t.u.cell? ⟨Wb, 4, none⟩ = some (.pointer (some ⟨Mb, 0, none⟩)) := fun t => (t.h.row HR8.out HWT.out.1).cell 4
              have k5 : ∀ t : Kept W8 T3, t.u.cell? ⟨Z, 0, none⟩ = some (.int .i64 bk) := fun t => (t.h.row HZ8.out HZT.out.1).cell 0
              have k6 : ∀ t : Kept W8 T3, t.u.cell? ⟨Z, 1, none⟩ = some (.int .i64 pn) := fun t => (t.h.row HZ8.out HZT.out.1).cell 1
              have HMv : Hid (Calls Try.prog 35 #[.pointer (some ⟨Mb, 0, none⟩), .int .i64 z, .agg #[.int .i64 bk, .int .i64 pn]] W8.drew fun e w' => e = .returned (.int .i64 0) ∧ ∃ n : Nat, z = n ∧ n < S2.np ∧ SmIs w' Mb Sb T3 F3 (S2.dirAt n (sh2.L.length + 1)) (sh2.moved n i b) ∧ Turns W8 w' T3) := by
                obtain ⟨n, hn⟩ : ∃ n : Nat, z = n := ⟨z.toNat, by omega⟩
                have hnp2 : n < S2.np := by rw [np_eq HF2.out.same.1 HF2.out.same.2.1, ← HNp.out]; omega
                have hb6 : bk * 256 + pn + 1 = sh2.L.length + 1 := by rw [HBk.out, HPn.out]; omega
                rw [hn]
                refine (Moved_any W8.drew Mb Sb T3 F3 S2 _ ⟨Q, Db, P, pb', HA8.out.drewN 1⟩ n bk pn hnp2 (by rw [HBk.out]; have := HLl.out; omega) (by rw [HPn.out]; omega)).mono fun e w' ⟨h1, h2, h3⟩ => ⟨h1, n, rfl, hnp2, ?_, ((Turns.refl W8 T3).drew).trans h3 (fun q hq => .inl hq)⟩
                rw [hb6, hn] at h2
                exact h2
              (refine region_kept (T3) [0, 1, 2, 3, 4, 5] [6, 7, 8] (by kernel_rfl) (by kernel_rfl) (fun _ _ _ _ _ h => h) ?_; simp only [List.filterMap_cons, List.getElem?_cons_zero, List.getElem?_cons_succ, List.filterMap_nil]; (repeat ((show wpQuiet _ _ _ _ (_ :: _) _); go_big_quiet_step (fail))); refine wpQuiet_nil ?_)
              clear k4 k5 k6
              refine wpSeqS_step ?_
              go_wp2_with fail
              refine HMv.out.mono ?_
              rintro e w9 ⟨rfl, n, hzn, hnn, hsm9, ht9⟩
              have HSm9 := Lib.hid hsm9
              have HT9 := Lib.hid ht9
              have HZn := Lib.hid hzn
              have HNn := Lib.hid hnn
              clear hzn hnn hsm9 ht9 HMv
              go_wp2_with fail
              refine outQ_normal HT9.out ?_
              refine wpSeqS_step ?_
              go_wp2_with fail
              refine outQ_normal HT9.out ?_
              refine wpSeqS_last ?_
              go_wp2
              go_ret
              have HTall : Turns wr w9 (T2 ++ T3) := ((HT7.out.mono (S' := T2 ++ T3) (fun q hq => List.mem_append_left _ hq)).trans HT78.out (fun q hq => .inl (by rw [List.mem_singleton.1 hq]; exact List.mem_append_right _ HG1.out))).trans HT9.out (fun q hq => .inl (List.mem_append_right _ hq))
              have HLow3 : ∀ q ∈ T3, B ≤ q := fun q hq => (HG6.out q hq).elim (HF2.out.is.low.2.2 q) (fun h => Nat.le_trans HF2.out.is.B_le h)
              have hB2 : Below B w wr := (HB1.out.mono HBl.out).trans (HF2.out.turns.below (Below.refl _ _) (Nat.le_trans HBl.out HB1.out.size) HD.out.low.2.2)
              have hpn : ∀ m y, S2.parts m = some y → m < S2.np := fun m y hy => (HA.out.part m y hy).1
              refine ⟨by first | (simp; done) | (simp; omega), Mb, T3, F3, S2.dirAt n (sh2.L.length + 1), sh2.moved n i b, hs, ⟨HT9.out.row HR8.out HWT.out.1, HSm9.out, HF2.out.is.has.turns HTall (fun hm => (List.mem_append.1 hm).elim HF2.out.is.sepH.1 HHT.out.1), HWT.out, HHT.out, ⟨HF2.out.is.low.1, HF2.out.is.low.2.1, HLow3⟩, HF2.out.is.pw.moved HF2.out.clean hpn HNn.out (by rw [← HZn.out]; exact HZ.out) (fun i' v hi' hv e => HNo.out i' v (by omega) hv (by rw [e, HZn.out])) HBi.out⟩, hB2.trans (HTall.below (Below.refl _ _) HF2.out.is.B_le (fun q hq => (List.mem_append.1 hq).elim (HF2.out.is.low.2.2 q) (HLow3 q))), HF2.out.same, ?_, ?_, ?_⟩
              · show (if 0 < sh2.full then sh2.full - 1 else sh2.full) = sh.full
                have h1 := HF2.out.full
                have h2 := HFl.out
                rw [h1, h2]; rfl
              · show ((sh2.L ++ [b]).set i []).length ≤ _
                have := HF2.out.puts
                simp; omega
              · have := HF2.out.cnt
                show S2.cnt ≤ _
                omega
            · gi_wp2_with fail
              rw [← HUa.out]
              (with_reducible refine outQ_normal ?_ ?_); exact HSa
              (with_reducible refine wpTree_one (by with_unfolding_all exact rfl) ?_)
              gi_wp2_with fail
              refine ((callsIn_wide (n := 8)).2 (HPut.out _ HBa.out)).mono ?_
              rintro e w6 ⟨rfl, T3, F3, ha6, ht6, hg6, hf6⟩
              have HA6 := Lib.hid ha6
              have HT6 : Hid (Turns wr w6 T2) := (Turns.of_below HBa.out T2).trans ht6 (fun q hq => .inl hq)
              have HG6 : Hid (∀ q ∈ T3, q ∈ T2 ∨ wr.heap.size ≤ q) := fun q hq => (hg6 q hq).imp (fun h => h) (fun h => Nat.le_trans HBa.out.size h)
              have HF6 : Hid (∀ q ∈ F3, q ∈ F2 ∨ wr.heap.size ≤ q) := fun q hq => (hf6 q hq).imp (fun h => h) (fun h => Nat.le_trans HBa.out.size h)
              have HZT : Hid (wr.heap.size ∉ T3 ∧ wr.heap.size ∉ F3) := ⟨fun hm => (hg6 _ hm).elim (fun h => by have := HTl.out _ (.inl h); omega) (fun h => by have := HZs.out; omega), fun hm => (hf6 _ hm).elim (fun h => by have := HTl.out _ (.inr h); omega) (fun h => by have := HZs.out; omega)⟩
              have HZ6 : Hid (Row w6 wr.heap.size 28 #[.int .i64 0, .int .i64 0]) := ht6.row HZa.out (fun hm => by have := HTl.out _ (.inl hm); omega)
              clear ha6 ht6 hg6 hf6
              gi_wp2_with fail
              (with_reducible refine outQ_normal ?_ ?_); exact ⟨⟨w6, HT6.out⟩, rfl⟩
              (repeat ((with_reducible refine wpTree_take (by with_unfolding_all exact rfl) ?_); (with_reducible (show wpQuiet _ _ _ _ (_ :: _) _)); go_big_quiet_step (fail); (with_reducible refine wpQuiet_nil ?_)))
              have zq0 := HZ6.out.cell 0
              have zq1 := HZ6.out.cell 1
              have zf0 := HZ6.out.frozen 0
              have zf1 := HZ6.out.frozen 1
              simp only [List.getElem?_toArray, List.getElem?_cons_zero, List.getElem?_cons_succ] at zq0 zq1
              (with_reducible refine wpTree_one (by with_unfolding_all exact rfl) ?_)
              gi_wp2_with fail
              obtain ⟨W7, hW7⟩ : ∃ W7, W7 = (w6.setCell ⟨wr.heap.size, 0, none⟩ (.int .i64 bk)).setCell ⟨wr.heap.size, 1, none⟩ (.int .i64 pn) := ⟨_, rfl⟩
              have ht67 : Turns w6 W7 [wr.heap.size] := by rw [hW7]; exact ((Turns.refl _ _).setCell (by simp) _).setCell (by simp) _
              have HA7 : Hid (SmAt W7 Mb Sb Q Db P pb' T3 F3 S2 (sh2.put z b)) := HA6.out.keep ht67 (fun q hq => by rw [List.mem_singleton.1 hq]; exact HZT.out)
              have HZ7 : Hid (Row W7 wr.heap.size 28 #[.int .i64 bk, .int .i64 pn]) := by unfold Hid; rw [hW7]; simpa using (HZ6.out.put 0 (.int .i64 bk)).put 1 (.int .i64 pn)
              have HT7 : Hid (Turns wr W7 T2) := HT6.out.trans ht67 (fun q hq => .inr (by rw [List.mem_singleton.1 hq]; exact Nat.le_refl _))
              rw [← hW7]
              clear hW7 ht67 zq0 zq1 zf0 zf1
              obtain ⟨Z, hZ⟩ : ∃ Z, Z = wr.heap.size := ⟨_, rfl⟩
              have HZl : Hid (wr.heap.size ≤ Z) := by rw [hZ]; exact Nat.le_refl _
              rw [← hZ] at HZ7 HZT ⊢
              clear hZ
              (with_reducible refine outQ_normal ?_ ?_); exact ⟨⟨W7, HT7.out⟩, rfl⟩
              (repeat ((with_reducible refine wpTree_take (by with_unfolding_all exact rfl) ?_); (with_reducible (show wpQuiet _ _ _ _ (_ :: _) _)); go_big_quiet_step (fail); (with_reducible refine wpQuiet_nil ?_)))
              with_reducible refine wpTree_nil ?_
              refine NoPanic.normal ?_
              clear k1 hS HSa r0a q1a r0' q1 HPut
              have HR7 := Lib.hid (HT7.out.row HF2.out.is.row HF2.out.is.sepW.1)
              obtain ⟨g1', c1'', g2'', c2'', hrows7⟩ := HA7.out.shelf.rows (by show 0 < (sh2.L ++ [b]).length; simp)
              have HRs7 := Lib.hid hrows7
              have k3 : W7.cell? ⟨Wb, 3, none⟩ = some (.pointer (some ⟨Sb, 0, none⟩)) := HR7.out.cell 3
              have r07 := hrows7.row.cell 0
              simp only [List.getElem?_toArray, List.getElem?_cons_zero] at r07
              rw [show (sh2.put z b).L.length = ll + 1 by show (sh2.L ++ [b]).length = _; rw [List.length_append, HLl.out]; rfl] at r07
              obtain ⟨A7, c7, q7, _, _⟩ := hrows7.at1 i b (by show (sh2.L ++ [b])[i]? = some b; rw [List.getElem?_append_left (by have := HLl.out; omega)]; exact HBi.out)
              have f7 := hrows7.thaw i
              have hc7 := hrows7.caps.1
              rw [show (sh2.put z b).L.length = ll + 1 by show (sh2.L ++ [b]).length = _; rw [List.length_append, HLl.out]; rfl] at hc7
              have HA8 := Lib.hid (HA7.out.lay hrows7 i none [] 0 Cells8.nil (fun a e => by cases e) (by simp))
              have HT78 : Hid (Turns W7 (W7.setCell ⟨g1', i, none⟩ (.slice none 0 0)) [g1']) := (Turns.refl _ _).setCell (by simp) _
              have HG1 : Hid (g1' ∈ T3) := hrows7.mem.2.1
              have HZg : Hid (Z ≠ g1') := fun e => HZT.out.1 (e ▸ hrows7.mem.2.1)
              have HWT : Hid (Wb ∉ T3 ∧ Wb ∉ F3) := ⟨fun hm => (HG6.out _ hm).elim HF2.out.is.sepW.1 (fun h => by have := HF2.out.is.row.lt; omega), fun hm => (HF6.out _ hm).elim HF2.out.is.sepW.2 (fun h => by have := HF2.out.is.row.lt; omega)⟩
              have HHT : Hid (Hb ∉ T3 ∧ Hb ∉ F3) := ⟨fun hm => (HG6.out _ hm).elim HF2.out.is.sepH.1 (fun h => by have := HF2.out.is.has.lt; omega), fun hm => (HF6.out _ hm).elim HF2.out.is.sepH.2 (fun h => by have := HF2.out.is.has.lt; omega)⟩
              clear hrows7 HRs7
              go_wp2
              obtain ⟨W8, hW8⟩ : ∃ W8, W8 = W7.setCell ⟨g1', i, none⟩ (.slice none 0 0) := ⟨_, rfl⟩
              rw [show ([] : List Nat).length = 0 from rfl, ← hW8] at HA8
              rw [← hW8] at HT78 ⊢
              clear hW8 k3 r07 q7 f7
              have HR8 := Lib.hid (HT78.out.row HR7.out (by simp; exact fun e => HWT.out.1 (e ▸ HG1.out)))
              have HZ8 := Lib.hid (HT78.out.row HZ7.out (by simpa using HZg.out))
              have k4 : ∀ t : Kept W8 T3, t.u.cell? ⟨Wb, 4, none⟩ = some (.pointer (some ⟨Mb, 0, none⟩)) := fun t => (t.h.row HR8.out HWT.out.1).cell 4
              have k5 : ∀ t : Kept W8 T3, t.u.cell? ⟨Z, 0, none⟩ = some (.int .i64 bk) := fun t => (t.h.row HZ8.out HZT.out.1).cell 0
              have k6 : ∀ t : Kept W8 T3, t.u.cell? ⟨Z, 1, none⟩ = some (.int .i64 pn) := fun t => (t.h.row HZ8.out HZT.out.1).cell 1
              have HMv : Hid (Calls Try.prog 35 #[.pointer (some ⟨Mb, 0, none⟩), .int .i64 z, .agg #[.int .i64 bk, .int .i64 pn]] W8.drew fun e w' => e = .returned (.int .i64 0) ∧ ∃ n : Nat, z = n ∧ n < S2.np ∧ SmIs w' Mb Sb T3 F3 (S2.dirAt n (sh2.L.length + 1)) (sh2.moved n i b) ∧ Turns W8 w' T3) := by
                obtain ⟨n, hn⟩ : ∃ n : Nat, z = n := ⟨z.toNat, by omega⟩
                have hnp2 : n < S2.np := by rw [np_eq HF2.out.same.1 HF2.out.same.2.1, ← HNp.out]; omega
                have hb6 : bk * 256 + pn + 1 = sh2.L.length + 1 := by rw [HBk.out, HPn.out]; omega
                rw [hn]
                refine (Moved_any W8.drew Mb Sb T3 F3 S2 _ ⟨Q, Db, P, pb', HA8.out.drewN 1⟩ n bk pn hnp2 (by rw [HBk.out]; have := HLl.out; omega) (by rw [HPn.out]; omega)).mono fun e w' ⟨h1, h2, h3⟩ => ⟨h1, n, rfl, hnp2, ?_, ((Turns.refl W8 T3).drew).trans h3 (fun q hq => .inl hq)⟩
                rw [hb6, hn] at h2
                exact h2
              (refine region_kept (T3) [0, 1, 2, 3, 4, 5] [6, 7, 8] (by kernel_rfl) (by kernel_rfl) (fun _ _ _ _ _ h => h) ?_; simp only [List.filterMap_cons, List.getElem?_cons_zero, List.getElem?_cons_succ, List.filterMap_nil]; (repeat ((show wpQuiet _ _ _ _ (_ :: _) _); go_big_quiet_step (fail))); refine wpQuiet_nil ?_)
              clear k4 k5 k6
              refine wpSeqS_step ?_
              go_wp2_with fail
              refine HMv.out.mono ?_
              rintro e w9 ⟨rfl, n, hzn, hnn, hsm9, ht9⟩
              have HSm9 := Lib.hid hsm9
              have HT9 := Lib.hid ht9
              have HZn := Lib.hid hzn
              have HNn := Lib.hid hnn
              clear hzn hnn hsm9 ht9 HMv
              go_wp2_with fail
              refine outQ_normal HT9.out ?_
              refine wpSeqS_step ?_
              go_wp2_with fail
              refine outQ_normal HT9.out ?_
              refine wpSeqS_last ?_
              go_wp2
              go_ret
              have HTall : Turns wr w9 (T2 ++ T3) := ((HT7.out.mono (S' := T2 ++ T3) (fun q hq => List.mem_append_left _ hq)).trans HT78.out (fun q hq => .inl (by rw [List.mem_singleton.1 hq]; exact List.mem_append_right _ HG1.out))).trans HT9.out (fun q hq => .inl (List.mem_append_right _ hq))
              have HLow3 : ∀ q ∈ T3, B ≤ q := fun q hq => (HG6.out q hq).elim (HF2.out.is.low.2.2 q) (fun h => Nat.le_trans HF2.out.is.B_le h)
              have hB2 : Below B w wr := (HB1.out.mono HBl.out).trans (HF2.out.turns.below (Below.refl _ _) (Nat.le_trans HBl.out HB1.out.size) HD.out.low.2.2)
              have hpn : ∀ m y, S2.parts m = some y → m < S2.np := fun m y hy => (HA.out.part m y hy).1
              refine ⟨by first | (simp; done) | (simp; omega), Mb, T3, F3, S2.dirAt n (sh2.L.length + 1), sh2.moved n i b, hs, ⟨HT9.out.row HR8.out HWT.out.1, HSm9.out, HF2.out.is.has.turns HTall (fun hm => (List.mem_append.1 hm).elim HF2.out.is.sepH.1 HHT.out.1), HWT.out, HHT.out, ⟨HF2.out.is.low.1, HF2.out.is.low.2.1, HLow3⟩, HF2.out.is.pw.moved HF2.out.clean hpn HNn.out (by rw [← HZn.out]; exact HZ.out) (fun i' v hi' hv e => HNo.out i' v (by omega) hv (by rw [e, HZn.out])) HBi.out⟩, hB2.trans (HTall.below (Below.refl _ _) HF2.out.is.B_le (fun q hq => (List.mem_append.1 hq).elim (HF2.out.is.low.2.2 q) (HLow3 q))), HF2.out.same, ?_, ?_, ?_⟩
              · show (if 0 < sh2.full then sh2.full - 1 else sh2.full) = sh.full
                have h1 := HF2.out.full
                have h2 := HFl.out
                rw [h1, h2]; rfl
              · show ((sh2.L ++ [b]).set i []).length ≤ _
                have := HF2.out.puts
                simp; omega
              · have := HF2.out.cnt
                show S2.cnt ≤ _
                omega
          · gi_wp2_with fail
            rw [← HUa.out]
            (with_reducible refine outQ_normal ?_ ?_); exact HSa
            (with_reducible refine wpTree_one (by with_unfolding_all exact rfl) ?_)
            gi_wp2_with fail
            (with_reducible refine outQ_normal ?_ ?_); exact HSa
            (with_reducible refine wpTree_one (by with_unfolding_all exact rfl) ?_)
            gi_wp2_with fail
            refine ((callsIn_wide (n := 8)).2 (HPut.out _ HBa.out)).mono ?_
            rintro e w6 ⟨rfl, T3, F3, ha6, ht6, hg6, hf6⟩
            have HA6 := Lib.hid ha6
            have HT6 : Hid (Turns wr w6 T2) := (Turns.of_below HBa.out T2).trans ht6 (fun q hq => .inl hq)
            have HG6 : Hid (∀ q ∈ T3, q ∈ T2 ∨ wr.heap.size ≤ q) := fun q hq => (hg6 q hq).imp (fun h => h) (fun h => Nat.le_trans HBa.out.size h)
            have HF6 : Hid (∀ q ∈ F3, q ∈ F2 ∨ wr.heap.size ≤ q) := fun q hq => (hf6 q hq).imp (fun h => h) (fun h => Nat.le_trans HBa.out.size h)
            have HZT : Hid (wr.heap.size ∉ T3 ∧ wr.heap.size ∉ F3) := ⟨fun hm => (hg6 _ hm).elim (fun h => by have := HTl.out _ (.inl h); omega) (fun h => by have := HZs.out; omega), fun hm => (hf6 _ hm).elim (fun h => by have := HTl.out _ (.inr h); omega) (fun h => by have := HZs.out; omega)⟩
            have HZ6 : Hid (Row w6 wr.heap.size 28 #[.int .i64 0, .int .i64 0]) := ht6.row HZa.out (fun hm => by have := HTl.out _ (.inl hm); omega)
            clear ha6 ht6 hg6 hf6
            gi_wp2_with fail
            (with_reducible refine outQ_normal ?_ ?_); exact ⟨⟨w6, HT6.out⟩, rfl⟩
            (repeat ((with_reducible refine wpTree_take (by with_unfolding_all exact rfl) ?_); (with_reducible (show wpQuiet _ _ _ _ (_ :: _) _)); go_big_quiet_step (fail); (with_reducible refine wpQuiet_nil ?_)))
            have zq0 := HZ6.out.cell 0
            have zq1 := HZ6.out.cell 1
            have zf0 := HZ6.out.frozen 0
            have zf1 := HZ6.out.frozen 1
            simp only [List.getElem?_toArray, List.getElem?_cons_zero, List.getElem?_cons_succ] at zq0 zq1
            (with_reducible refine wpTree_one (by with_unfolding_all exact rfl) ?_)
            gi_wp2_with fail
            obtain ⟨W7, hW7⟩ : ∃ W7, W7 = (w6.setCell ⟨wr.heap.size, 0, none⟩ (.int .i64 bk)).setCell ⟨wr.heap.size, 1, none⟩ (.int .i64 pn) := ⟨_, rfl⟩
            have ht67 : Turns w6 W7 [wr.heap.size] := by rw [hW7]; exact ((Turns.refl _ _).setCell (by simp) _).setCell (by simp) _
            have HA7 : Hid (SmAt W7 Mb Sb Q Db P pb' T3 F3 S2 (sh2.put z b)) := HA6.out.keep ht67 (fun q hq => by rw [List.mem_singleton.1 hq]; exact HZT.out)
            have HZ7 : Hid (Row W7 wr.heap.size 28 #[.int .i64 bk, .int .i64 pn]) := by unfold Hid; rw [hW7]; simpa using (HZ6.out.put 0 (.int .i64 bk)).put 1 (.int .i64 pn)
            have HT7 : Hid (Turns wr W7 T2) := HT6.out.trans ht67 (fun q hq => .inr (by rw [List.mem_singleton.1 hq]; exact Nat.le_refl _))
            rw [← hW7]
            clear hW7 ht67 zq0 zq1 zf0 zf1
            obtain ⟨Z, hZ⟩ : ∃ Z, Z = wr.heap.size := ⟨_, rfl⟩
            have HZl : Hid (wr.heap.size ≤ Z) := by rw [hZ]; exact Nat.le_refl _
            rw [← hZ] at HZ7 HZT ⊢
            clear hZ
            (with_reducible refine outQ_normal ?_ ?_); exact ⟨⟨W7, HT7.out⟩, rfl⟩
            (repeat ((with_reducible refine wpTree_take (by with_unfolding_all exact rfl) ?_); (with_reducible (show wpQuiet _ _ _ _ (_ :: _) _)); go_big_quiet_step (fail); (with_reducible refine wpQuiet_nil ?_)))
            with_reducible refine wpTree_nil ?_
            refine NoPanic.normal ?_
            clear k1 hS HSa r0a q1a r0' q1 HPut
            have HR7 := Lib.hid (HT7.out.row HF2.out.is.row HF2.out.is.sepW.1)
            obtain ⟨g1', c1'', g2'', c2'', hrows7⟩ := HA7.out.shelf.rows (by show 0 < (sh2.L ++ [b]).length; simp)
            have HRs7 := Lib.hid hrows7
            have k3 : W7.cell? ⟨Wb, 3, none⟩ = some (.pointer (some ⟨Sb, 0, none⟩)) := HR7.out.cell 3
            have r07 := hrows7.row.cell 0
            simp only [List.getElem?_toArray, List.getElem?_cons_zero] at r07
            rw [show (sh2.put z b).L.length = ll + 1 by show (sh2.L ++ [b]).length = _; rw [List.length_append, HLl.out]; rfl] at r07
            obtain ⟨A7, c7, q7, _, _⟩ := hrows7.at1 i b (by show (sh2.L ++ [b])[i]? = some b; rw [List.getElem?_append_left (by have := HLl.out; omega)]; exact HBi.out)
            have f7 := hrows7.thaw i
            have hc7 := hrows7.caps.1
            rw [show (sh2.put z b).L.length = ll + 1 by show (sh2.L ++ [b]).length = _; rw [List.length_append, HLl.out]; rfl] at hc7
            have HA8 := Lib.hid (HA7.out.lay hrows7 i none [] 0 Cells8.nil (fun a e => by cases e) (by simp))
            have HT78 : Hid (Turns W7 (W7.setCell ⟨g1', i, none⟩ (.slice none 0 0)) [g1']) := (Turns.refl _ _).setCell (by simp) _
            have HG1 : Hid (g1' ∈ T3) := hrows7.mem.2.1
            have HZg : Hid (Z ≠ g1') := fun e => HZT.out.1 (e ▸ hrows7.mem.2.1)
            have HWT : Hid (Wb ∉ T3 ∧ Wb ∉ F3) := ⟨fun hm => (HG6.out _ hm).elim HF2.out.is.sepW.1 (fun h => by have := HF2.out.is.row.lt; omega), fun hm => (HF6.out _ hm).elim HF2.out.is.sepW.2 (fun h => by have := HF2.out.is.row.lt; omega)⟩
            have HHT : Hid (Hb ∉ T3 ∧ Hb ∉ F3) := ⟨fun hm => (HG6.out _ hm).elim HF2.out.is.sepH.1 (fun h => by have := HF2.out.is.has.lt; omega), fun hm => (HF6.out _ hm).elim HF2.out.is.sepH.2 (fun h => by have := HF2.out.is.has.lt; omega)⟩
            clear hrows7 HRs7
            go_wp2
            obtain ⟨W8, hW8⟩ : ∃ W8, W8 = W7.setCell ⟨g1', i, none⟩ (.slice none 0 0) := ⟨_, rfl⟩
            rw [show ([] : List Nat).length = 0 from rfl, ← hW8] at HA8
            rw [← hW8] at HT78 ⊢
            clear hW8 k3 r07 q7 f7
            have HR8 := Lib.hid (HT78.out.row HR7.out (by simp; exact fun e => HWT.out.1 (e ▸ HG1.out)))
            have HZ8 := Lib.hid (HT78.out.row HZ7.out (by simpa using HZg.out))
            have k4 : ∀ t : Kept W8 T3, t.u.cell? ⟨Wb, 4, none⟩ = some (.pointer (some ⟨Mb, 0, none⟩)) := fun t => (t.h.row HR8.out HWT.out.1).cell 4
            have k5 : ∀ t : Kept W8 T3, t.u.cell? ⟨Z, 0, none⟩ = some (.int .i64 bk) := fun t => (t.h.row HZ8.out HZT.out.1).cell 0
            have k6 : ∀ t : Kept W8 T3, t.u.cell? ⟨Z, 1, none⟩ = some (.int .i64 pn) := fun t => (t.h.row HZ8.out HZT.out.1).cell 1
            have HMv : Hid (Calls Try.prog 35 #[.pointer (some ⟨Mb, 0, none⟩), .int .i64 z, .agg #[.int .i64 bk, .int .i64 pn]] W8.drew fun e w' => e = .returned (.int .i64 0) ∧ ∃ n : Nat, z = n ∧ n < S2.np ∧ SmIs w' Mb Sb T3 F3 (S2.dirAt n (sh2.L.length + 1)) (sh2.moved n i b) ∧ Turns W8 w' T3) := by
              obtain ⟨n, hn⟩ : ∃ n : Nat, z = n := ⟨z.toNat, by omega⟩
              have hnp2 : n < S2.np := by rw [np_eq HF2.out.same.1 HF2.out.same.2.1, ← HNp.out]; omega
              have hb6 : bk * 256 + pn + 1 = sh2.L.length + 1 := by rw [HBk.out, HPn.out]; omega
              rw [hn]
              refine (Moved_any W8.drew Mb Sb T3 F3 S2 _ ⟨Q, Db, P, pb', HA8.out.drewN 1⟩ n bk pn hnp2 (by rw [HBk.out]; have := HLl.out; omega) (by rw [HPn.out]; omega)).mono fun e w' ⟨h1, h2, h3⟩ => ⟨h1, n, rfl, hnp2, ?_, ((Turns.refl W8 T3).drew).trans h3 (fun q hq => .inl hq)⟩
              rw [hb6, hn] at h2
              exact h2
            (refine region_kept (T3) [0, 1, 2, 3, 4, 5] [6, 7, 8] (by kernel_rfl) (by kernel_rfl) (fun _ _ _ _ _ h => h) ?_; simp only [List.filterMap_cons, List.getElem?_cons_zero, List.getElem?_cons_succ, List.filterMap_nil]; (repeat ((show wpQuiet _ _ _ _ (_ :: _) _); go_big_quiet_step (fail))); refine wpQuiet_nil ?_)
            clear k4 k5 k6
            refine wpSeqS_step ?_
            go_wp2_with fail
            refine HMv.out.mono ?_
            rintro e w9 ⟨rfl, n, hzn, hnn, hsm9, ht9⟩
            have HSm9 := Lib.hid hsm9
            have HT9 := Lib.hid ht9
            have HZn := Lib.hid hzn
            have HNn := Lib.hid hnn
            clear hzn hnn hsm9 ht9 HMv
            go_wp2_with fail
            refine outQ_normal HT9.out ?_
            refine wpSeqS_step ?_
            go_wp2_with fail
            refine outQ_normal HT9.out ?_
            refine wpSeqS_last ?_
            go_wp2
            go_ret
            have HTall : Turns wr w9 (T2 ++ T3) := ((HT7.out.mono (S' := T2 ++ T3) (fun q hq => List.mem_append_left _ hq)).trans HT78.out (fun q hq => .inl (by rw [List.mem_singleton.1 hq]; exact List.mem_append_right _ HG1.out))).trans HT9.out (fun q hq => .inl (List.mem_append_right _ hq))
            have HLow3 : ∀ q ∈ T3, B ≤ q := fun q hq => (HG6.out q hq).elim (HF2.out.is.low.2.2 q) (fun h => Nat.le_trans HF2.out.is.B_le h)
            have hB2 : Below B w wr := (HB1.out.mono HBl.out).trans (HF2.out.turns.below (Below.refl _ _) (Nat.le_trans HBl.out HB1.out.size) HD.out.low.2.2)
            have hpn : ∀ m y, S2.parts m = some y → m < S2.np := fun m y hy => (HA.out.part m y hy).1
            refine ⟨by first | (simp; done) | (simp; omega), Mb, T3, F3, S2.dirAt n (sh2.L.length + 1), sh2.moved n i b, hs, ⟨HT9.out.row HR8.out HWT.out.1, HSm9.out, HF2.out.is.has.turns HTall (fun hm => (List.mem_append.1 hm).elim HF2.out.is.sepH.1 HHT.out.1), HWT.out, HHT.out, ⟨HF2.out.is.low.1, HF2.out.is.low.2.1, HLow3⟩, HF2.out.is.pw.moved HF2.out.clean hpn HNn.out (by rw [← HZn.out]; exact HZ.out) (fun i' v hi' hv e => HNo.out i' v (by omega) hv (by rw [e, HZn.out])) HBi.out⟩, hB2.trans (HTall.below (Below.refl _ _) HF2.out.is.B_le (fun q hq => (List.mem_append.1 hq).elim (HF2.out.is.low.2.2 q) (HLow3 q))), HF2.out.same, ?_, ?_, ?_⟩
            · show (if 0 < sh2.full then sh2.full - 1 else sh2.full) = sh.full
              have h1 := HF2.out.full
              have h2 := HFl.out
              rw [h1, h2]; rfl
            · show ((sh2.L ++ [b]).set i []).length ≤ _
              have := HF2.out.puts
              simp; omega
            · have := HF2.out.cnt
              show S2.cnt ≤ _
              omega
        · gi_wp2_with fail
          rw [← HUa.out]
          (with_reducible refine outQ_normal ?_ ?_); exact HSa
          (with_reducible refine wpTree_one (by with_unfolding_all exact rfl) ?_)
          gi_wp2_with fail
          (with_reducible refine outQ_normal ?_ ?_); exact HSa
          (repeat ((with_reducible refine wpTree_take (by with_unfolding_all exact rfl) ?_); (with_reducible (show wpQuiet _ _ _ _ (_ :: _) _)); go_big_quiet_step (fail); (with_reducible refine wpQuiet_nil ?_)))
          (with_reducible refine wpTree_one (by with_unfolding_all exact rfl) ?_)
          gi_wp2_with fail
          (with_reducible refine outQ_normal ?_ ?_); exact HSa
          (with_reducible refine wpTree_one (by with_unfolding_all exact rfl) ?_)
          gi_wp2_with fail
          refine ((callsIn_wide (n := 8)).2 (HPut.out _ HBa.out)).mono ?_
          rintro e w6 ⟨rfl, T3, F3, ha6, ht6, hg6, hf6⟩
          have HA6 := Lib.hid ha6
          have HT6 : Hid (Turns wr w6 T2) := (Turns.of_below HBa.out T2).trans ht6 (fun q hq => .inl hq)
          have HG6 : Hid (∀ q ∈ T3, q ∈ T2 ∨ wr.heap.size ≤ q) := fun q hq => (hg6 q hq).imp (fun h => h) (fun h => Nat.le_trans HBa.out.size h)
          have HF6 : Hid (∀ q ∈ F3, q ∈ F2 ∨ wr.heap.size ≤ q) := fun q hq => (hf6 q hq).imp (fun h => h) (fun h => Nat.le_trans HBa.out.size h)
          have HZT : Hid (wr.heap.size ∉ T3 ∧ wr.heap.size ∉ F3) := ⟨fun hm => (hg6 _ hm).elim (fun h => by have := HTl.out _ (.inl h); omega) (fun h => by have := HZs.out; omega), fun hm => (hf6 _ hm).elim (fun h => by have := HTl.out _ (.inr h); omega) (fun h => by have := HZs.out; omega)⟩
          have HZ6 : Hid (Row w6 wr.heap.size 28 #[.int .i64 0, .int .i64 0]) := ht6.row HZa.out (fun hm => by have := HTl.out _ (.inl hm); omega)
          clear ha6 ht6 hg6 hf6
          gi_wp2_with fail
          (with_reducible refine outQ_normal ?_ ?_); exact ⟨⟨w6, HT6.out⟩, rfl⟩
          (repeat ((with_reducible refine wpTree_take (by with_unfolding_all exact rfl) ?_); (with_reducible (show wpQuiet _ _ _ _ (_ :: _) _)); go_big_quiet_step (fail); (with_reducible refine wpQuiet_nil ?_)))
          have zq0 := HZ6.out.cell 0
          have zq1 := HZ6.out.cell 1
          have zf0 := HZ6.out.frozen 0
          have zf1 := HZ6.out.frozen 1
          simp only [List.getElem?_toArray, List.getElem?_cons_zero, List.getElem?_cons_succ] at zq0 zq1
          (with_reducible refine wpTree_one (by with_unfolding_all exact rfl) ?_)
          gi_wp2_with fail
          obtain ⟨W7, hW7⟩ : ∃ W7, W7 = (w6.setCell ⟨wr.heap.size, 0, none⟩ (.int .i64 bk)).setCell ⟨wr.heap.size, 1, none⟩ (.int .i64 pn) := ⟨_, rfl⟩
          have ht67 : Turns w6 W7 [wr.heap.size] := by rw [hW7]; exact ((Turns.refl _ _).setCell (by simp) _).setCell (by simp) _
          have HA7 : Hid (SmAt W7 Mb Sb Q Db P pb' T3 F3 S2 (sh2.put z b)) := HA6.out.keep ht67 (fun q hq => by rw [List.mem_singleton.1 hq]; exact HZT.out)
          have HZ7 : Hid (Row W7 wr.heap.size 28 #[.int .i64 bk, .int .i64 pn]) := by unfold Hid; rw [hW7]; simpa using (HZ6.out.put 0 (.int .i64 bk)).put 1 (.int .i64 pn)
          have HT7 : Hid (Turns wr W7 T2) := HT6.out.trans ht67 (fun q hq => .inr (by rw [List.mem_singleton.1 hq]; exact Nat.le_refl _))
          rw [← hW7]
          clear hW7 ht67 zq0 zq1 zf0 zf1
          obtain ⟨Z, hZ⟩ : ∃ Z, Z = wr.heap.size := ⟨_, rfl⟩
          have HZl : Hid (wr.heap.size ≤ Z) := by rw [hZ]; exact Nat.le_refl _
          rw [← hZ] at HZ7 HZT ⊢
          clear hZ
          (with_reducible refine outQ_normal ?_ ?_); exact ⟨⟨W7, HT7.out⟩, rfl⟩
          (repeat ((with_reducible refine wpTree_take (by with_unfolding_all exact rfl) ?_); (with_reducible (show wpQuiet _ _ _ _ (_ :: _) _)); go_big_quiet_step (fail); (with_reducible refine wpQuiet_nil ?_)))
          with_reducible refine wpTree_nil ?_
          refine NoPanic.normal ?_
          clear k1 hS HSa r0a q1a r0' q1 HPut
          have HR7 := Lib.hid (HT7.out.row HF2.out.is.row HF2.out.is.sepW.1)
          obtain ⟨g1', c1'', g2'', c2'', hrows7⟩ := HA7.out.shelf.rows (by show 0 < (sh2.L ++ [b]).length; simp)
          have HRs7 := Lib.hid hrows7
          have k3 : W7.cell? ⟨Wb, 3, none⟩ = some (.pointer (some ⟨Sb, 0, none⟩)) := HR7.out.cell 3
          have r07 := hrows7.row.cell 0
          simp only [List.getElem?_toArray, List.getElem?_cons_zero] at r07
          rw [show (sh2.put z b).L.length = ll + 1 by show (sh2.L ++ [b]).length = _; rw [List.length_append, HLl.out]; rfl] at r07
          obtain ⟨A7, c7, q7, _, _⟩ := hrows7.at1 i b (by show (sh2.L ++ [b])[i]? = some b; rw [List.getElem?_append_left (by have := HLl.out; omega)]; exact HBi.out)
          have f7 := hrows7.thaw i
          have hc7 := hrows7.caps.1
          rw [show (sh2.put z b).L.length = ll + 1 by show (sh2.L ++ [b]).length = _; rw [List.length_append, HLl.out]; rfl] at hc7
          have HA8 := Lib.hid (HA7.out.lay hrows7 i none [] 0 Cells8.nil (fun a e => by cases e) (by simp))
          have HT78 : Hid (Turns W7 (W7.setCell ⟨g1', i, none⟩ (.slice none 0 0)) [g1']) := (Turns.refl _ _).setCell (by simp) _
          have HG1 : Hid (g1' ∈ T3) := hrows7.mem.2.1
          have HZg : Hid (Z ≠ g1') := fun e => HZT.out.1 (e ▸ hrows7.mem.2.1)
          have HWT : Hid (Wb ∉ T3 ∧ Wb ∉ F3) := ⟨fun hm => (HG6.out _ hm).elim HF2.out.is.sepW.1 (fun h => by have := HF2.out.is.row.lt; omega), fun hm => (HF6.out _ hm).elim HF2.out.is.sepW.2 (fun h => by have := HF2.out.is.row.lt; omega)⟩
          have HHT : Hid (Hb ∉ T3 ∧ Hb ∉ F3) := ⟨fun hm => (HG6.out _ hm).elim HF2.out.is.sepH.1 (fun h => by have := HF2.out.is.has.lt; omega), fun hm => (HF6.out _ hm).elim HF2.out.is.sepH.2 (fun h => by have := HF2.out.is.has.lt; omega)⟩
          clear hrows7 HRs7
          go_wp2
          obtain ⟨W8, hW8⟩ : ∃ W8, W8 = W7.setCell ⟨g1', i, none⟩ (.slice none 0 0) := ⟨_, rfl⟩
          rw [show ([] : List Nat).length = 0 from rfl, ← hW8] at HA8
          rw [← hW8] at HT78 ⊢
          clear hW8 k3 r07 q7 f7
          have HR8 := Lib.hid (HT78.out.row HR7.out (by simp; exact fun e => HWT.out.1 (e ▸ HG1.out)))
          have HZ8 := Lib.hid (HT78.out.row HZ7.out (by simpa using HZg.out))
          have k4 : ∀ t : Kept W8 T3, t.u.cell? ⟨Wb, 4, none⟩ = some (.pointer (some ⟨Mb, 0, none⟩)) := fun t => (t.h.row HR8.out HWT.out.1).cell 4
          have k5 : ∀ t : Kept W8 T3, t.u.cell? ⟨Z, 0, none⟩ = some (.int .i64 bk) := fun t => (t.h.row HZ8.out HZT.out.1).cell 0
          have k6 : ∀ t : Kept W8 T3, t.u.cell? ⟨Z, 1, none⟩ = some (.int .i64 pn) := fun t => (t.h.row HZ8.out HZT.out.1).cell 1
          have HMv : Hid (Calls Try.prog 35 #[.pointer (some ⟨Mb, 0, none⟩), .int .i64 z, .agg #[.int .i64 bk, .int .i64 pn]] W8.drew fun e w' => e = .returned (.int .i64 0) ∧ ∃ n : Nat, z = n ∧ n < S2.np ∧ SmIs w' Mb Sb T3 F3 (S2.dirAt n (sh2.L.length + 1)) (sh2.moved n i b) ∧ Turns W8 w' T3) := by
            obtain ⟨n, hn⟩ : ∃ n : Nat, z = n := ⟨z.toNat, by omega⟩
            have hnp2 : n < S2.np := by rw [np_eq HF2.out.same.1 HF2.out.same.2.1, ← HNp.out]; omega
            have hb6 : bk * 256 + pn + 1 = sh2.L.length + 1 := by rw [HBk.out, HPn.out]; omega
            rw [hn]
            refine (Moved_any W8.drew Mb Sb T3 F3 S2 _ ⟨Q, Db, P, pb', HA8.out.drewN 1⟩ n bk pn hnp2 (by rw [HBk.out]; have := HLl.out; omega) (by rw [HPn.out]; omega)).mono fun e w' ⟨h1, h2, h3⟩ => ⟨h1, n, rfl, hnp2, ?_, ((Turns.refl W8 T3).drew).trans h3 (fun q hq => .inl hq)⟩
            rw [hb6, hn] at h2
            exact h2
          (refine region_kept (T3) [0, 1, 2, 3, 4, 5] [6, 7, 8] (by kernel_rfl) (by kernel_rfl) (fun _ _ _ _ _ h => h) ?_; simp only [List.filterMap_cons, List.getElem?_cons_zero, List.getElem?_cons_succ, List.filterMap_nil]; (repeat ((show wpQuiet _ _ _ _ (_ :: _) _); go_big_quiet_step (fail))); refine wpQuiet_nil ?_)
          clear k4 k5 k6
          refine wpSeqS_step ?_
          go_wp2_with fail
          refine HMv.out.mono ?_
          rintro e w9 ⟨rfl, n, hzn, hnn, hsm9, ht9⟩
          have HSm9 := Lib.hid hsm9
          have HT9 := Lib.hid ht9
          have HZn := Lib.hid hzn
          have HNn := Lib.hid hnn
          clear hzn hnn hsm9 ht9 HMv
          go_wp2_with fail
          refine outQ_normal HT9.out ?_
          refine wpSeqS_step ?_
          go_wp2_with fail
          refine outQ_normal HT9.out ?_
          refine wpSeqS_last ?_
          go_wp2
          go_ret
          have HTall : Turns wr w9 (T2 ++ T3) := ((HT7.out.mono (S' := T2 ++ T3) (fun q hq => List.mem_append_left _ hq)).trans HT78.out (fun q hq => .inl (by rw [List.mem_singleton.1 hq]; exact List.mem_append_right _ HG1.out))).trans HT9.out (fun q hq => .inl (List.mem_append_right _ hq))
          have HLow3 : ∀ q ∈ T3, B ≤ q := fun q hq => (HG6.out q hq).elim (HF2.out.is.low.2.2 q) (fun h => Nat.le_trans HF2.out.is.B_le h)
          have hB2 : Below B w wr := (HB1.out.mono HBl.out).trans (HF2.out.turns.below (Below.refl _ _) (Nat.le_trans HBl.out HB1.out.size) HD.out.low.2.2)
          have hpn : ∀ m y, S2.parts m = some y → m < S2.np := fun m y hy => (HA.out.part m y hy).1
          refine ⟨by first | (simp; done) | (simp; omega), Mb, T3, F3, S2.dirAt n (sh2.L.length + 1), sh2.moved n i b, hs, ⟨HT9.out.row HR8.out HWT.out.1, HSm9.out, HF2.out.is.has.turns HTall (fun hm => (List.mem_append.1 hm).elim HF2.out.is.sepH.1 HHT.out.1), HWT.out, HHT.out, ⟨HF2.out.is.low.1, HF2.out.is.low.2.1, HLow3⟩, HF2.out.is.pw.moved HF2.out.clean hpn HNn.out (by rw [← HZn.out]; exact HZ.out) (fun i' v hi' hv e => HNo.out i' v (by omega) hv (by rw [e, HZn.out])) HBi.out⟩, hB2.trans (HTall.below (Below.refl _ _) HF2.out.is.B_le (fun q hq => (List.mem_append.1 hq).elim (HF2.out.is.low.2.2 q) (HLow3 q))), HF2.out.same, ?_, ?_, ?_⟩
          · show (if 0 < sh2.full then sh2.full - 1 else sh2.full) = sh.full
            have h1 := HF2.out.full
            have h2 := HFl.out
            rw [h1, h2]; rfl
          · show ((sh2.L ++ [b]).set i []).length ≤ _
            have := HF2.out.puts
            simp; omega
          · have := HF2.out.cnt
            show S2.cnt ≤ _
            omega
      · have hz1 : ¬ z = sc := hzs
        have HR0 := Lib.hid r0
        clear r0
        go_wp2
        go_roundw
        case rel => exact ⟨i, by go_num, by omega, fun i' z' hi' hz' => by
          rcases Nat.lt_or_ge i i' with h | h
          · exact HNo.out i' z' (by omega) hz'
          · obtain rfl : i = i' := by omega
            rw [HZ.out] at hz'; injection hz' with hz'; rw [← hz']; exact hzs, by first | rfl | trivial⟩
        case measure => simp [intOf]
end Go.Proofs.Ytfipmpajdkgffaa

namespace Go.Proofs.Ytfipmpajdkgffaa
open Go.ChangeShapes Go.WideShapes Go.ChangeAt Go.RowKit Go.Joins
set_option linter.unusedVariables false
set_option linter.unusedSimpArgs false

set_option maxRecDepth 10000 in
theorem bytes_view {H : Type} {enc : TypeId × Value → H} (W : World) {base : Nat} {v : Value} {d : DataW H} {p : List MemPlace}
    (o : Value.okWide Try.prog W .any base 43 v) (h : DataW.Trod enc Try.prog W 0 (fun _ => true) true 43 v d p) :
    ∃ (a : Option Addr) (l : List Nat) (cap : Nat), v = .slice a l.length cap ∧ l.length ≤ cap ∧ cap ≤ maxLen ∧ (∀ x ∈ l, x < 256) ∧ Cells8 W a l := by
  obtain ⟨a, len, cap, rfl⟩ := okWide_slice Try.underlying43 o
  obtain ⟨fuel, hf⟩ := h
  rcases open_ints Try.underlying43 Try.underlying5 (by kernel_rfl) hf with ⟨hcs, _⟩ | ⟨x, len', c, zs, hcs, _, hl, hm, hz, _, hcell, hwz⟩
  · simp [Value.cells] at hcs
    obtain ⟨rfl, rfl, rfl⟩ := hcs
    exact ⟨none, [], 0, rfl, Nat.le_refl _, by simp [maxLen], by simp, Cells8.nil⟩
  · simp [Value.cells] at hcs
    obtain ⟨rfl, rfl, rfl⟩ := hcs
    have hzl : zs.length = cap := by simpa using hz
    have hlen : ((zs.take len).map Int.toNat).length = len := by simp; omega
    have hw : ∀ z ∈ zs, 0 ≤ z ∧ z ≤ 255 := by
      intro z hzm
      have := hwz z hzm
      simpa [Lit.wf, IntKind.min, IntKind.max, IntKind.signed, IntKind.bits] using this
    refine ⟨some x, (zs.take len).map Int.toNat, cap, by rw [hlen], by omega, hm, ?_, ?_⟩
    · intro y hy
      rw [List.mem_map] at hy
      obtain ⟨z, hz1, rfl⟩ := hy
      have := hw z (List.mem_of_mem_take hz1)
      omega
    · intro i hi
      rw [hlen] at hi
      obtain ⟨b, off, spot⟩ := x
      have hc := hcell i (by omega)
      have hspot : spot = none := by
        have h0 := hcell 0 (by omega)
        simpa [Addr.add] using World.cell?_spot h0
      subst hspot
      refine ⟨b, off, rfl, ?_⟩
      rw [addr_add] at hc
      rw [hc]
      have h0 : 0 ≤ zs.getD i 0 := by
        have : zs.getD i 0 ∈ zs := by simp [List.getD, show i < zs.length by omega]
        exact (hw _ this).1
      have : ((zs.take len).map Int.toNat).getD i 0 = (zs.getD i 0).toNat := by
        simp [List.getD, List.getElem?_take, hi]
        rw [List.getElem?_eq_getElem (show i < zs.length by omega)]
        simp
      rw [this, Int.toNat_of_nonneg h0]
end Go.Proofs.Ytfipmpajdkgffaa

namespace Go.Proofs.Ytfipmpajdkgffaa
open Go.ChangeShapes Go.WideShapes Go.ChangeAt Go.RowKit Go.Joins Go.Deep
set_option linter.unusedVariables false
set_option linter.unusedSimpArgs false

/-- A slice of structs of m ints each: what its cells hold. -/
structure Acts (w : World) (a : Option Addr) (n m : Nat) (f : Nat → Nat → Int) : Prop where
  at0 : ∀ i, i < n → ∃ b off, a = some ⟨b, off, none⟩ ∧ ∀ j, j < m → w.cell? ⟨b, off + (i * m + j), none⟩ = some (.int .i64 (f i j))
  wf : ∀ i j, -9223372036854775808 ≤ f i j ∧ f i j ≤ 9223372036854775807
theorem Acts.cells {w : World} {b off n m : Nat} {f : Nat → Nat → Int} (h : Acts w (some ⟨b, off, none⟩) n m f) (i j : Nat) (hi : i < n) (hj : j < m) : w.cell? ⟨b, off + (i * m + j), none⟩ = some (.int .i64 (f i j)) := by
  obtain ⟨b', off', e, h⟩ := h.at0 i hi
  simp at e
  obtain ⟨rfl, rfl⟩ := e
  exact h j hj
theorem Acts.addr {w : World} {a : Option Addr} {n m : Nat} {f : Nat → Nat → Int} (h : Acts w a n m f) (hn : 0 < n) : ∃ b off, a = some ⟨b, off, none⟩ := by
  obtain ⟨b, off, e, _⟩ := h.at0 0 hn
  exact ⟨b, off, e⟩
theorem Acts.keep {w w' : World} {a : Option Addr} {n m : Nat} {f : Nat → Nat → Int} (h : Acts w a n m f) (hk : ∀ p v, w.cell? p = some v → w'.cell? p = some v) : Acts w' a n m f :=
  ⟨fun i hi => by obtain ⟨b, off, e, hc⟩ := h.at0 i hi; exact ⟨b, off, e, fun j hj => hk _ _ (hc j hj)⟩, h.wf⟩
theorem Acts.lt {w : World} {b off n m : Nat} {f : Nat → Nat → Int} (h : Acts w (some ⟨b, off, none⟩) n m f) (hn : 0 < n) (hm : 0 < m) : b < w.heap.size :=
  World.block_lt_of_cell? w ⟨b, off + (0 * m + 0), none⟩ (h.cells 0 0 hn hm)
theorem acts_view {H : Type} {enc : TypeId × Value → H} {P : Program} (W : World) {base : Nat} {t e : TypeId} {fs : Array Field} {v : Value} {d : DataW H} {p : List MemPlace}
    (ht : P.underlying t = some (.slice e)) (he : P.underlying e = some (.struct fs)) (hone : oneCellFields P fs = true) (hC : P.cellsOf e = fs.size) (tI : TypeId) (hI : P.underlying tI = some (.int .i64)) (hint : fs.all (fun f => f.type == tI) = true) (hp : 0 < fs.size)
    (o : Value.okWide P W .any base t v) (h : DataW.Trod enc P W 0 (fun _ => true) true t v d p) :
    ∃ (a : Option Addr) (n cap : Nat) (f : Nat → Nat → Int), v = .slice a n cap ∧ n ≤ cap ∧ cap ≤ maxLen ∧ Acts W a n fs.size f := by
  obtain ⟨a, len, cap, rfl⟩ := okWide_slice ht o
  obtain ⟨fuel, hf⟩ := h
  rcases open_slice ht hf with ⟨hcs, _⟩ | ⟨x, len', c, m, n, D, Pl, hcs, _, hl, hm, hmm, _, hi⟩
  · simp [Value.cells] at hcs
    obtain ⟨rfl, rfl, rfl⟩ := hcs
    exact ⟨none, 0, 0, fun _ _ => 0, rfl, Nat.le_refl _, by simp [maxLen], fun i hi => by omega, fun _ _ => by omega⟩
  · simp [Value.cells] at hcs
    obtain ⟨rfl, rfl, rfl⟩ := hcs
    simp only [if_true] at hmm
    subst hmm
    have key : ∀ i j, ∃ z : Int, (-9223372036854775808 ≤ z ∧ z ≤ 9223372036854775807) ∧ (i < len → j < fs.size → W.cell? (x.add (i * fs.size + j)) = some (.int .i64 z)) := by
      intro i j
      by_cases h : i < len ∧ j < fs.size
      · obtain ⟨row, hrow, htr⟩ := hi i (by omega)
        rw [hC] at hrow
        obtain ⟨_, hlen, hat⟩ := World.cells?_some hrow
        obtain ⟨xs, k, _, _, _, hxs, hfld⟩ := DataW.trod_struct he htr
        have hfj := Array.getElem?_eq_getElem h.2
        obtain ⟨e1, e2⟩ := hone_of hone j _ hfj
        have hz := hfld j _ hfj
        rw [e1, e2, List.getElem?_eq_getElem (show j < xs.length by omega)] at hz
        have hone1 : (row.drop j).take 1 = [row[j]'(by omega)] := by rw [List.drop_eq_getElem_cons (by omega)]; rfl
        rw [hone1] at hz
        obtain ⟨z, hz1, _, hw⟩ := DataW.trod_int (by have := Array.all_eq_true.1 hint j h.2; simp only [beq_iff_eq] at this; rw [this]; exact hI) hz
        simp at hz1
        refine ⟨z, by simpa [Lit.wf, IntKind.min, IntKind.max, IntKind.signed, IntKind.bits] using hw, fun _ _ => ?_⟩
        rw [← Go.Deep.add_add, hat j h.2, List.getElem?_eq_getElem (by omega), hz1]
      · exact ⟨0, by omega, fun h1 h2 => absurd ⟨h1, h2⟩ h⟩
    obtain ⟨f, hfw, hfc⟩ : ∃ f : Nat → Nat → Int, (∀ i j, -9223372036854775808 ≤ f i j ∧ f i j ≤ 9223372036854775807) ∧ ∀ i j, i < len → j < fs.size → W.cell? (x.add (i * fs.size + j)) = some (.int .i64 (f i j)) :=
      ⟨fun i j => (key i j).choose, fun i j => (key i j).choose_spec.1, fun i j => (key i j).choose_spec.2⟩
    refine ⟨some x, len, m, f, rfl, hl, hm, fun i hin => ?_, hfw⟩
    obtain ⟨b, off, spot⟩ := x
    have hspot : spot = none := by
      have h0 := hfc 0 0 (by omega) hp
      simpa [Addr.add] using World.cell?_spot h0
    subst hspot
    refine ⟨b, off, rfl, fun j hj => ?_⟩
    have := hfc i j hin hj
    rw [addr_add] at this
    exact this
end Go.Proofs.Ytfipmpajdkgffaa

namespace Go.Proofs.Ytfipmpajdkgffaa
open Go.ChangeShapes Go.WideShapes Go.ChangeAt Go.RowKit Go.Joins Go.Deep
set_option linter.unusedVariables false
set_option linter.unusedSimpArgs false

section
variable {H : Type} {enc : TypeId × Value → H} {W : World}
theorem int_trod {fuel : Nat} {cs : List Value} {x : DataW H × List MemPlace} (h : DataW.trod enc Try.prog W 0 (fun _ => true) true fuel 3 cs = some x) : ∃ z : Int, (-9223372036854775808 ≤ z ∧ z ≤ 9223372036854775807) ∧ cs = [.int .i64 z] := by
  obtain ⟨z, h1, _, hw⟩ := DataW.trod_int Try.underlying3 h
  exact ⟨z, by simpa [Lit.wf, IntKind.min, IntKind.max, IntKind.signed, IntKind.bits] using hw, h1⟩
set_option maxRecDepth 100000 in
theorem act_trod {fuel : Nat} {cs : List Value} {x : DataW H × List MemPlace} (h : DataW.trod enc Try.prog W 0 (fun _ => true) true fuel 30 cs = some x) :
    ∃ g : Nat → Int, (∀ j, -9223372036854775808 ≤ g j ∧ g j ≤ 9223372036854775807) ∧ cs = [.int .i64 (g 0), .int .i64 (g 1), .int .i64 (g 2), .int .i64 (g 3)] := by
  have e1 : Try.prog.cellsOf 3 = 1 := by kernel_rfl
  have e2 : Try.prog.cellsOf 28 = 2 := by kernel_rfl
  have e4 : Try.prog.cellsOf 30 = 4 := by kernel_rfl
  obtain ⟨xs, n, _, rfl, hl, hlen, hf⟩ := DataW.trod_struct Try.underlying30 h
  have h0 := hf 0 _ rfl
  have h1 := hf 1 _ rfl
  have h2 := hf 2 _ rfl
  try dsimp only at h0 h1 h2
  rw [e4] at hl
  match cs, hl with
  | [c0, c1, c2, c3], _ =>
    match xs, hlen with
    | [y0, y1, y2], _ =>
      obtain ⟨z0, w0, r0⟩ := int_trod (by simpa [e1] using h0)
      obtain ⟨z1, w1, r1⟩ := int_trod (by simpa [e1] using h1)
      obtain ⟨xs2, n2, _, _, hl2, hlen2, hf2⟩ := DataW.trod_struct Try.underlying28 (by simpa [e2] using h2)
      have h3 := hf2 0 _ rfl
      have h4 := hf2 1 _ rfl
      try dsimp only at h3 h4
      match xs2, hlen2 with
      | [y3, y4], _ =>
        obtain ⟨z2, w2, r2⟩ := int_trod (by simpa [e1] using h3)
        obtain ⟨z3, w3, r3⟩ := int_trod (by simpa [e1] using h4)
        simp at r0 r1 r2 r3
        subst r0 r1 r2 r3
        exact ⟨fun j => match j with | 0 => z0 | 1 => z1 | 2 => z2 | _ => z3, fun j => by
          rcases j with _ | _ | _ | j
          · exact w0
          · exact w1
          · exact w2
          · exact w3, rfl⟩
set_option maxRecDepth 100000 in
theorem macts_view {base : Nat} {v : Value} {d : DataW H} {p : List MemPlace} (o : Value.okWide Try.prog W .any base 22 v) (h : DataW.Trod enc Try.prog W 0 (fun _ => true) true 22 v d p) :
    ∃ (a : Option Addr) (n cap : Nat) (f : Nat → Nat → Int), v = .slice a n cap ∧ n ≤ cap ∧ cap ≤ maxLen ∧ Acts W a n 4 f := by
  have hC : Try.prog.cellsOf 30 = 4 := by kernel_rfl
  obtain ⟨a, len, cap, rfl⟩ := okWide_slice Try.underlying22 o
  obtain ⟨fuel, hf⟩ := h
  rcases open_slice Try.underlying22 hf with ⟨hcs, _⟩ | ⟨x, len', c, m, n, D, Pl, hcs, _, hl, hm, hmm, _, hi⟩
  · simp [Value.cells] at hcs
    obtain ⟨rfl, rfl, rfl⟩ := hcs
    exact ⟨none, 0, 0, fun _ _ => 0, rfl, Nat.le_refl _, by simp [maxLen], fun i hi => absurd hi (Nat.not_lt_zero _), fun _ _ => by decide⟩
  · simp [Value.cells] at hcs
    obtain ⟨rfl, rfl, rfl⟩ := hcs
    simp only [if_true] at hmm
    subst hmm
    have key : ∀ i, ∃ g : Nat → Int, (∀ j, -9223372036854775808 ≤ g j ∧ g j ≤ 9223372036854775807) ∧ (i < len → ∀ j, j < 4 → W.cell? (x.add (i * 4 + j)) = some (.int .i64 (g j))) := by
      intro i
      by_cases hil : i < len
      · obtain ⟨row, hrow, htr⟩ := hi i (by omega)
        rw [hC] at hrow
        obtain ⟨_, hlen, hat⟩ := World.cells?_some hrow
        obtain ⟨g, hw, rfl⟩ := act_trod htr
        refine ⟨g, hw, fun _ j hj => ?_⟩
        rw [← Go.Deep.add_add, hat j hj]
        match j, hj with
        | 0, _ => rfl
        | 1, _ => rfl
        | 2, _ => rfl
        | 3, _ => rfl
      · exact ⟨fun _ => 0, fun _ => ⟨by show (-9223372036854775808 : Int) ≤ 0; decide, by show (0 : Int) ≤ 9223372036854775807; decide⟩, fun h => absurd h hil⟩
    obtain ⟨f, hfw, hfc⟩ : ∃ f : Nat → Nat → Int, (∀ i j, -9223372036854775808 ≤ f i j ∧ f i j ≤ 9223372036854775807) ∧ ∀ i j, i < len → j < 4 → W.cell? (x.add (i * 4 + j)) = some (.int .i64 (f i j)) :=
      ⟨fun i j => (key i).choose j, fun i j => (key i).choose_spec.1 j, fun i j hi hj => (key i).choose_spec.2 hi j hj⟩
    refine ⟨some x, len, m, f, rfl, hl, hm, fun i hin => ?_, hfw⟩
    obtain ⟨b, off, spot⟩ := x
    have hspot : spot = none := by
      have h0 := hfc 0 0 (by omega) (by omega)
      simpa [Addr.add] using World.cell?_spot h0
    subst hspot
    refine ⟨b, off, rfl, fun j hj => ?_⟩
    have := hfc i j hin hj
    rw [addr_add] at this
    exact this
end
end Go.Proofs.Ytfipmpajdkgffaa

namespace Go.Proofs.Ytfipmpajdkgffaa
open Go.RowKit Go.MapKept Go.ChangeMaps
attribute [local go_sem] Oper.semAt_some
attribute [local simp, local go_sem] wide_fn
set_option linter.unusedVariables false
set_option linter.unusedSimpArgs false

/-- A law's World, behind some acts. -/
def Wst (B : Nat) (w : World) (Wb Sb Hb sec pg hd p c : Nat) : Prop := ∃ Mb T F S sh hs, WdIs w B Wb Mb Sb Hb T F S sh hs ∧ (S.sectors = sec ∧ S.page = pg ∧ S.held = hd) ∧ sh.full = -1 ∧ sh.L.length ≤ p ∧ S.cnt ≤ c
theorem WdTo.wst {w w' : World} {B Wb Sb Hb k c sec pg hd p q : Nat} {S : Sm} {sh : Sh} (h : WdTo w w' B Wb Sb Hb k c S sh) (h1 : S.sectors = sec ∧ S.page = pg ∧ S.held = hd) (h2 : sh.full = -1) (h3 : sh.L.length + k ≤ p) (h4 : S.cnt + c ≤ q) : Wst B w' Wb Sb Hb sec pg hd p q ∧ Below B w w' := by
  obtain ⟨Mb, T, F, S', sh', hs, g1, g2, g3, g4, g5, g6⟩ := h
  exact ⟨⟨Mb, T, F, S', sh', hs, g1, ⟨g3.1.trans h1.1, g3.2.1.trans h1.2.1, g3.2.2.trans h1.2.2⟩, g4.trans h2, by omega, by omega⟩, g2⟩
theorem Wst.below {w w' : World} {B Wb Sb Hb sec pg hd p c : Nat} (h : Wst B w Wb Sb Hb sec pg hd p c) (hb : Below w.heap.size w w') : Wst B w' Wb Sb Hb sec pg hd p c := by
  obtain ⟨Mb, T, F, S, sh, hs, g1, g2⟩ := h
  exact ⟨Mb, T, F, S, sh, hs, g1.below hb, g2⟩
theorem Wst.mono {w : World} {B Wb Sb Hb sec pg hd p c p' c' : Nat} (h : Wst B w Wb Sb Hb sec pg hd p c) (h1 : p ≤ p') (h2 : c ≤ c') : Wst B w Wb Sb Hb sec pg hd p' c' := by
  obtain ⟨Mb, T, F, S, sh, hs, g1, g2, g3, g4, g5⟩ := h
  exact ⟨Mb, T, F, S, sh, hs, g1, g2, g3, by omega, by omega⟩
theorem Wst.B_le {w : World} {B Wb Sb Hb sec pg hd p c : Nat} (h : Wst B w Wb Sb Hb sec pg hd p c) : B ≤ w.heap.size := by
  obtain ⟨Mb, T, F, S, sh, hs, g1, _⟩ := h
  exact g1.B_le
theorem step_any (w : World) (B Wb Sb Hb sec pg hd p c : Nat) (h : Wst B w Wb Sb Hb sec pg hd p c) (hp : p + c + 2 ≤ 262143) (hsec : sec ≤ 16384) (x : Ac) :
    Calls Try.prog 19 #[.pointer (some ⟨Wb, 0, none⟩), x.val] w fun e w' => e = .returned (.bool true) ∧ Wst B w' Wb Sb Hb sec pg hd (p + c + 2) (c + 2) ∧ Below B w w' := by
  obtain ⟨Mb, T, F, S, sh, hs, hi, h1, hf, h3, h4⟩ := h
  have fin : ∀ {k c' : Nat} {e : Ending} {w' : World}, k ≤ S.cnt + 2 → c' ≤ 2 → (e = .returned (.bool true) ∧ WdTo w w' B Wb Sb Hb k c' S sh) → e = .returned (.bool true) ∧ Wst B w' Wb Sb Hb sec pg hd (p + c + 2) (c + 2) ∧ Below B w w' := fun hk hc ⟨he, h⟩ => ⟨he, h.wst h1 hf (by omega) (by omega)⟩
  by_cases o1 : x.op = 1
  · by_cases hin : (0 ≤ x.s ∧ x.s < S.sectors) ∧ rightB x.b x.p = true
    · exact (step_set w B Wb Mb Sb Hb T F S sh hs hi hf (by omega) x o1 hin.1 hin.2).mono fun e w' h => fin (by omega) (by omega) h
    · refine (step_set_bad w B Wb Mb Sb Hb T F S sh hs hi hf (by omega) x o1 ?_).mono fun e w' h => fin (by omega) (by omega) h
      cases hr : rightB x.b x.p with
      | false => exact .inr rfl
      | true => exact .inl (by
          rw [hr] at hin
          have : ¬ (0 ≤ x.s ∧ x.s < S.sectors) := fun h => hin ⟨h, rfl⟩
          omega)
  · by_cases o2 : x.op = 2
    · by_cases hin : 0 ≤ x.s ∧ x.s < S.sectors
      · exact (step_clear w B Wb Mb Sb Hb T F S sh hs hi hf (by omega) x o2 hin).mono fun e w' h => fin (by omega) (by omega) h
      · exact (step_clear_bad w B Wb Mb Sb Hb T F S sh hs hi hf (by omega) x o2 (by omega)).mono fun e w' h => fin (by omega) (by omega) h
    · by_cases o3 : x.op = 3
      · exact (step_flush w B Wb Mb Sb Hb T F S sh hs hi hf (by omega) x o3).mono fun e w' h => fin (by omega) (by omega) h
      · by_cases o4 : x.op = 4
        · exact (step_load w B Wb Mb Sb Hb T F S sh hs hi hf (by omega) x o4 (by omega)).mono fun e w' h => fin (by omega) (by omega) h
        · by_cases o5 : x.op = 5
          · by_cases hin : 0 ≤ x.s ∧ x.s < (S.np : Int)
            · exact (step_move w B Wb Mb Sb Hb T F S sh hs hi hf (by omega) x o5 hin).mono fun e w' h => fin (by omega) (by omega) h
            · exact (step_move_out w B Wb Mb Sb Hb T F S sh hs hi hf (by omega) x o5 (by omega)).mono fun e w' h => fin (by omega) (by omega) h
          · exact (step_get w B Wb Mb Sb Hb T F S sh hs hi hf (by omega) x ⟨o1, o2, o3, o4, o5⟩).mono fun e w' h => fin (by omega) (by omega) h
theorem wget_any (w : World) (B Wb Sb Hb sec pg hd p c : Nat) (h : Wst B w Wb Sb Hb sec pg hd p c) (hp : p ≤ 262143) (s : Int) :
    Calls Try.prog 20 #[.pointer (some ⟨Wb, 0, none⟩), .int .i64 s] w fun e w' => e = .returned (.bool true) ∧ Wst B w' Wb Sb Hb sec pg hd (p + 1) (c + 1) ∧ Below B w w' := by
  obtain ⟨Mb, T, F, S, sh, hs, hi, h1, hf, h3, h4⟩ := h
  exact (get_any' w B Wb Mb Sb Hb T F S sh hs hi hf (by omega) s).mono fun e w' ⟨he, hm⟩ => ⟨he, (WdM.wdTo hi hm).wst h1 hf (by omega) (by omega)⟩
end Go.Proofs.Ytfipmpajdkgffaa

namespace Go.Proofs.Ytfipmpajdkgffaa
open Go.RowKit Go.MapKept Go.ChangeMaps
attribute [local go_sem] Oper.semAt_some
attribute [local simp, local go_sem] wide_fn
set_option linter.unusedVariables false
set_option linter.unusedSimpArgs false

theorem WdIs.lower {w : World} {B B' Wb Mb Sb Hb : Nat} {T F : List Nat} {S : Sm} {sh : Sh} {hs : Nat → Nat} (h : WdIs w B Wb Mb Sb Hb T F S sh hs) (hB : B' ≤ B) : WdIs w B' Wb Mb Sb Hb T F S sh hs :=
  ⟨h.row, h.sm, h.has, h.sepW, h.sepH, ⟨by have := h.low.1; omega, by have := h.low.2.1; omega, fun k hk => Nat.le_trans hB (h.low.2.2 k hk)⟩, h.pw⟩
/-- A new map over a new shelf. -/
structure Fresh (w w2 : World) (B1 a b c : Nat) : Prop where
  is : NewIs w2 B1 w.heap.size [w.heap.size] [] a b c sh0
  lt : w.heap.size < B1
  below : Below w.heap.size w w2
theorem begun_world {w w2 w3 : World} {B1 a b c : Nat} (h : Fresh w w2 B1 a b c) (ha : 1 ≤ a) (hb : 16 ≤ b ∧ b ≤ 4096 ∧ b % 4 = 0) (hw : w3 = (w2.alloc (.map #[] 0)).alloc (.cells #[.int .i64 a, .int .i64 b, .int .i64 c, .pointer (some ⟨w.heap.size, 0, none⟩), .pointer (some ⟨B1 + 1, 0, none⟩), .map (some w2.heap.size)] 37)) :
    WdIs w3 w.heap.size (w2.heap.size + 1) (B1 + 1) w.heap.size w2.heap.size [B1 + 1, B1, B1 + 2, w.heap.size] [] (Sm.new a b c) sh0 (fun _ => 0) ∧ Below w.heap.size w w3 := by
  have hz := h.below.size
  have hi := h.is.is
  have hl := fun q hq => h.is.lt q hq
  have hm := hl _ (.inl h.is.mem.1)
  have hb1 : Below w2.heap.size w2 (w2.alloc (.map #[] 0)) := (Below.refl _ _).alloc (Nat.le_refl _) _
  have hb2 : Below w2.heap.size w2 w3 := by rw [hw]; exact hb1.alloc (by simp) _
  have hrow : Row w3 (w2.heap.size + 1) 37 #[.int .i64 a, .int .i64 b, .int .i64 c, .pointer (some ⟨w.heap.size, 0, none⟩), .pointer (some ⟨B1 + 1, 0, none⟩), .map (some w2.heap.size)] := by
    have := Row.fresh (w2.alloc (.map #[] 0)) 37 #[.int .i64 a, .int .i64 b, .int .i64 c, .pointer (some ⟨w.heap.size, 0, none⟩), .pointer (some ⟨B1 + 1, 0, none⟩), .map (some w2.heap.size)]
    rw [← hw] at this
    simpa using this
  have hhas : HasIs w3 w2.heap.size (fun _ => 0) := (HasIs.fresh w2).turns (T := []) (by rw [hw]; exact (Turns.refl _ _).alloc _) (by simp)
  have hT : ∀ q ∈ [B1 + 1, B1, B1 + 2, w.heap.size], w.heap.size ≤ q ∧ q < w2.heap.size := fun q hq => by
    have h3 := hl (B1 + 2) (.inl (by simp))
    have h4 := h.lt
    simp only [List.mem_cons, List.not_mem_nil, or_false] at hq
    rcases hq with rfl | rfl | rfl | rfl <;> omega
  refine ⟨⟨hrow, hi.below hb2, hhas, ⟨fun hm => ?_, by simp⟩, ⟨fun hm => ?_, by simp⟩, ⟨by omega, by omega, fun q hq => (hT q hq).1⟩, Pw.new ha hb⟩, h.below.trans (hb2.mono hz)⟩
  · have := (hT _ hm).2; omega
  · have := (hT _ hm).2; omega
set_option maxRecDepth 100000 in
set_option maxHeartbeats 2000000 in
theorem begun_any (w : World) (a b c : Nat) (ha : 1 ≤ a ∧ a ≤ 16384) (hb : 16 ≤ b ∧ b ≤ 4096 ∧ b % 4 = 0) (hc : 1 ≤ c ∧ c ≤ 4096) :
    Calls Try.prog 9 #[.int .i64 a, .int .i64 b, .int .i64 c] w fun e w' => ∃ Wb Mb Sb Hb T, e = .returned (.pointer (some ⟨Wb, 0, none⟩)) ∧ WdIs w' w.heap.size Wb Mb Sb Hb T [] (Sm.new a b c) sh0 (fun _ => 0) ∧ Below w.heap.size w w' := by
  have HN := Lib.hid (NewShelf_any w)
  have hmm := @run_makeMap Try.prog
  go_enter Try.func9, Try.ntmps9
  go_wp2_with fail
  refine HN.out.mono ?_
  rintro e w1 ⟨rfl, hs, hb1⟩
  have hlt : w.heap.size < w1.heap.size := by
    obtain ⟨v1, v2, xs, h1, _⟩ := hs.at'
    exact h1.lt
  have HNw := Lib.hid (New_any w1 w.heap.size [w.heap.size] [] sh0 hs (by simp) (fun k hk => by simp at hk; rw [hk]; exact hlt) a b c ha hb hc)
  have HB1 := Lib.hid hb1
  have HLt := Lib.hid hlt
  have HA := Lib.hid ha.1
  have HBp := Lib.hid hb
  clear hs hb1 hlt HN ha hb hc
  go_wp2_with fail
  refine HNw.out.mono ?_
  rintro e w2 ⟨rfl, hn, hb2⟩
  have HFr : Hid (Fresh w w2 w1.heap.size a b c) := ⟨hn, HLt.out, HB1.out.trans (hb2.mono HB1.out.size)⟩
  clear hn hb2 HNw
  go_wp2
  go_ret
  have := begun_world HFr.out HA.out HBp.out rfl
  exact ⟨_, _, _, _, _, rfl, this.1, this.2⟩
end Go.Proofs.Ytfipmpajdkgffaa

namespace Go.Proofs.Ytfipmpajdkgffaa
open Go.RowKit Go.MapKept Go.ChangeMaps
attribute [local go_sem] Oper.semAt_some
attribute [local simp, local go_sem] wide_fn
set_option linter.unusedVariables false
set_option linter.unusedSimpArgs false

/-- A map in memory that tells hs; its shelf takes whatever is put. -/
structure MIs (w : World) (Mb Sb : Nat) (T F : List Nat) (S : Sm) (sh : Sh) (hs : Nat → Nat) : Prop where
  sm : SmIs w Mb Sb T F S sh
  pw : Pw S sh hs
  full : sh.full = -1
/-- It has gone on. -/
def MTo (w w' : World) (Mb Sb : Nat) (T F : List Nat) (k c : Nat) (S : Sm) (sh : Sh) (hs : Nat → Nat) : Prop :=
  ∃ T' F' S' sh', MIs w' Mb Sb T' F' S' sh' hs ∧ Turns w w' T ∧ (∀ q ∈ T', q ∈ T ∨ w.heap.size ≤ q) ∧ (∀ q ∈ F', q ∈ F ∨ w.heap.size ≤ q) ∧ (S'.sectors = S.sectors ∧ S'.page = S.page ∧ S'.held = S.held) ∧ sh'.L.length ≤ sh.L.length + k ∧ S'.cnt ≤ S.cnt + c
section
variable {w w' : World} {Mb Sb : Nat} {T F : List Nat} {S : Sm} {sh : Sh} {hs : Nat → Nat}
theorem MIs.keep (h : MIs w Mb Sb T F S sh hs) {T2 : List Nat} (ht : Turns w w' T2) (hT : ∀ k ∈ T2, k ∉ T ∧ k ∉ F) : MIs w' Mb Sb T F S sh hs := ⟨h.sm.keep ht hT, h.pw, h.full⟩
theorem MIs.below (h : MIs w Mb Sb T F S sh hs) (hb : Below w.heap.size w w') : MIs w' Mb Sb T F S sh hs := h.keep (Turns.of_below hb []) (by simp)
theorem MIs.lt (h : MIs w Mb Sb T F S sh hs) : ∀ q, q ∈ T ∨ q ∈ F → q < w.heap.size := by
  obtain ⟨_, _, _, _, h1⟩ := h.sm
  exact h1.lt
theorem MTo.below {w2 : World} {k c : Nat} (h : MTo w w' Mb Sb T F k c S sh hs) (hb : Below w'.heap.size w' w2) : MTo w w2 Mb Sb T F k c S sh hs := by
  obtain ⟨T', F', S', sh', h1, h2, h3⟩ := h
  exact ⟨T', F', S', sh', h1.below hb, h2.then_below hb, h3⟩
theorem MTo.to_below {B k c : Nat} (h : MTo w w' Mb Sb T F k c S sh hs) (hB : B ≤ w.heap.size) (hT : ∀ q ∈ T, B ≤ q) : Below B w w' := by
  obtain ⟨_, _, _, _, _, h2, _⟩ := h
  exact h2.below (Below.refl _ _) hB hT
theorem m_get (h : MIs w Mb Sb T F S sh hs) (s : Nat) (hs' : s < S.sectors) (hl : sh.L.length ≤ 262143) :
    Calls Try.prog 12 #[.pointer (some ⟨Mb, 0, none⟩), .int .i64 s] w fun e w' => e = .returned (.tuple #[numV (hs s), .bool (decide (hs s ≠ 0)), .int .i64 0]) ∧ MTo w w' Mb Sb T F 1 1 S sh hs := by
  refine (Get_any w Mb Sb T F S sh h.sm s hs' hl h.pw.wl).mono fun e w' hp => ?_
  rcases hp with ⟨v, hv, he, S', sh', ⟨T', F', h1, h2, h3, h4⟩, hg⟩ | ⟨c, _, hc, _⟩
  · have := h.pw.vals s hs'
    rw [this] at hv; injection hv with hv
    subst hv
    exact ⟨he, T', F', S', sh', ⟨h1, h.pw.goes hg, by have := hg.full; have := h.full; omega⟩, h2, h3, h4, ⟨hg.sectors, hg.page, hg.held⟩, hg.puts.2, hg.cnt⟩
  · exfalso
    rcases hc with ⟨_, h1⟩ | ⟨_, h1⟩
    · rw [h.pw.vals s hs'] at h1; cases h1
    · have := h.full; omega
theorem m_set (h : MIs w Mb Sb T F S sh hs) (s b p : Nat) (hs' : s < S.sectors) (hb : b < 1024) (hp : p < 256) (hl : sh.L.length ≤ 262143) :
    Calls Try.prog 11 #[.pointer (some ⟨Mb, 0, none⟩), .int .i64 s, .agg #[.int .i64 b, .int .i64 p]] w fun e w' => e = .returned (.int .i64 0) ∧ MTo w w' Mb Sb T F 1 1 S sh (updH hs s (b * 256 + p + 1)) := by
  refine (Set_any w Mb Sb T F S sh h.sm s b p hs' hb hp hl h.pw.wl).mono fun e w' hp => ?_
  rcases hp with ⟨he, _, S', sh', ⟨T', F', h1, h2, h3, h4⟩, hg⟩ | ⟨c, _, hc, _⟩
  · exact ⟨he, T', F', S', sh', ⟨h1, h.pw.sets hs' (by omega) hg, by have := hg.full; have := h.full; omega⟩, h2, h3, h4, ⟨hg.sectors, hg.page, hg.held⟩, hg.puts.2, hg.cnt⟩
  · exfalso
    rcases hc with ⟨_, h1⟩ | ⟨_, h1⟩
    · obtain ⟨z, hz⟩ := h.pw.tellsS hs'
      rw [hz] at h1; cases h1
    · have := h.full; omega
theorem MIs.to (h : MIs w Mb Sb T F S sh hs) : MTo w w Mb Sb T F 0 0 S sh hs := ⟨T, F, S, sh, h, Turns.refl _ _, fun _ h => .inl h, fun _ h => .inl h, ⟨rfl, rfl, rfl⟩, by omega, by omega⟩
theorem MTo.more {w0 w1 w2 : World} {k c k' c' : Nat} {hs' : Nat → Nat} {T1 F1 : List Nat} {S1 : Sm} {sh1 : Sh} (h2 : Turns w0 w1 T) (h3 : ∀ q ∈ T1, q ∈ T ∨ w0.heap.size ≤ q) (h4 : ∀ q ∈ F1, q ∈ F ∨ w0.heap.size ≤ q) (h5 : S1.sectors = S.sectors ∧ S1.page = S.page ∧ S1.held = S.held) (h6 : sh1.L.length ≤ sh.L.length + k) (h7 : S1.cnt ≤ S.cnt + c) (h : MTo w1 w2 Mb Sb T1 F1 k' c' S1 sh1 hs') : MTo w0 w2 Mb Sb T F (k + k') (c + c') S sh hs' := by
  obtain ⟨T2, F2, S2, sh2, g1, g2, g3, g4, g5, g6, g7⟩ := h
  refine ⟨T2, F2, S2, sh2, g1, h2.trans g2 h3, fun q hq => ?_, fun q hq => ?_, ⟨g5.1.trans h5.1, g5.2.1.trans h5.2.1, g5.2.2.trans h5.2.2⟩, by omega, by omega⟩
  · rcases g3 q hq with h | h
    · exact h3 q h
    · exact .inr (Nat.le_trans h2.size h)
  · rcases g4 q hq with h | h
    · exact h4 q h
    · exact .inr (Nat.le_trans h2.size h)
theorem MTo.set {w0 : World} {k c : Nat} (h : MTo w0 w Mb Sb T F k c S sh hs) (s b p : Nat) (hs' : s < S.sectors) (hb : b < 1024) (hp : p < 256) (hl : sh.L.length + k ≤ 262143) :
    Calls Try.prog 11 #[.pointer (some ⟨Mb, 0, none⟩), .int .i64 s, .agg #[.int .i64 b, .int .i64 p]] w fun e w' => e = .returned (.int .i64 0) ∧ MTo w0 w' Mb Sb T F (k + 1) (c + 1) S sh (updH hs s (b * 256 + p + 1)) := by
  obtain ⟨T1, F1, S1, sh1, h1, h2, h3, h4, h5, h6, h7⟩ := h
  exact (m_set h1 s b p (by rw [h5.1]; exact hs') hb hp (by omega)).mono fun e w' ⟨he, ht⟩ => ⟨he, .more h2 h3 h4 h5 h6 h7 ht⟩
theorem MTo.get {w0 : World} {k c : Nat} (h : MTo w0 w Mb Sb T F k c S sh hs) (s : Nat) (hs' : s < S.sectors) (hl : sh.L.length + k ≤ 262143) :
    Calls Try.prog 12 #[.pointer (some ⟨Mb, 0, none⟩), .int .i64 s] w fun e w' => e = .returned (.tuple #[numV (hs s), .bool (decide (hs s ≠ 0)), .int .i64 0]) ∧ MTo w0 w' Mb Sb T F (k + 1) (c + 1) S sh hs := by
  obtain ⟨T1, F1, S1, sh1, h1, h2, h3, h4, h5, h6, h7⟩ := h
  exact (m_get h1 s (by rw [h5.1]; exact hs') (by omega)).mono fun e w' ⟨he, ht⟩ => ⟨he, .more h2 h3 h4 h5 h6 h7 ht⟩
theorem MTo.held {w0 : World} {k c : Nat} (h : MTo w0 w Mb Sb T F k c S sh hs) :
    Calls Try.prog 13 #[.pointer (some ⟨Mb, 0, none⟩)] w fun e w' => (∃ n : Nat, e = .returned (.int .i64 n) ∧ n ≤ S.held) ∧ MTo w0 w' Mb Sb T F k c S sh hs := by
  have h0 := h
  obtain ⟨T1, F1, S1, sh1, h1, h2, h3, h4, h5, h6, h7⟩ := h
  exact (Held_any w Mb Sb T1 F1 S1 sh1 h1.sm).mono fun e w' ⟨he, hb⟩ => ⟨⟨_, he, by rw [← h5.2.2]; exact h1.pw.wl.held⟩, h0.below hb⟩
theorem MTo.parts {w0 : World} {k c : Nat} (h : MTo w0 w Mb Sb T F k c S sh hs) :
    Calls Try.prog 18 #[.pointer (some ⟨Mb, 0, none⟩)] w fun e w' => e = .returned (.int .i64 S.np) ∧ MTo w0 w' Mb Sb T F k c S sh hs := by
  have h0 := h
  obtain ⟨T1, F1, S1, sh1, h1, h2, h3, h4, h5, h6, h7⟩ := h
  exact (Parts_any w Mb Sb T1 F1 S1 sh1 h1.sm).mono fun e w' ⟨he, hb⟩ => ⟨by rw [he, np_eq h5.1 h5.2.1], h0.below hb⟩
end
set_option maxRecDepth 100000 in
set_option maxHeartbeats 4000000 in
theorem known_any (w : World) : Calls Try.prog 8 #[] w fun e w' => e = .returned (.bool true) ∧ Below w.heap.size w w' := by
  have HN := Lib.hid (NewShelf_any w)
  have heq := run_eql_place
  go_enter Try.func8, Try.ntmps8
  go_wp2_with fail
  refine HN.out.mono ?_
  rintro e w1 ⟨rfl, hs, hb1⟩
  have hlt : w.heap.size < w1.heap.size := by
    obtain ⟨v1, v2, xs, h1, _⟩ := hs.at'
    exact h1.lt
  have HNw := Lib.hid (New_any w1 w.heap.size [w.heap.size] [] sh0 hs (by simp) (fun k hk => by simp at hk; rw [hk]; exact hlt) 20 16 1 (by decide) (by decide) (by decide))
  have HB1 := Lib.hid hb1
  have HLt := Lib.hid hlt
  clear hs hb1 hlt HN
  go_wp2_with fail
  refine HNw.out.mono ?_
  rintro e w2 ⟨rfl, hn, hb2⟩
  have HB2 : Hid (Below w.heap.size w w2) := HB1.out.trans (hb2.mono HB1.out.size)
  have HM2 : Hid (MIs w2 (w1.heap.size + 1) w.heap.size [w1.heap.size + 1, w1.heap.size, w1.heap.size + 2, w.heap.size] [] (Sm.new 20 16 1) sh0 (fun _ => 0)) := ⟨hn.is, Pw.new (by decide) (by decide), rfl⟩
  have HT2 : Hid (∀ q ∈ [w1.heap.size + 1, w1.heap.size, w1.heap.size + 2, w.heap.size], w.heap.size ≤ q) := fun q hq => by
    have := HLt.out
    simp only [List.mem_cons, List.not_mem_nil, or_false] at hq
    rcases hq with rfl | rfl | rfl | rfl <;> omega
  have HS1 := Lib.hid (HM2.out.to.set 3 7 2 (by decide) (by decide) (by decide) (by decide))
  clear hn hb2 HNw
  have HSz : Hid (w.heap.size ≤ w2.heap.size) := HB2.out.size
  generalize [w1.heap.size + 1, w1.heap.size, w1.heap.size + 2, w.heap.size] = T at *
  generalize w1.heap.size + 1 = Mb at *
  go_wp2_with fail
  refine HS1.out.mono ?_
  rintro e w3 ⟨rfl, hto⟩
  have HS2 := Lib.hid (hto.set 19 1 1 (by decide) (by decide) (by decide) (by decide))
  clear hto HS1
  go_wp2_with fail
  refine HS2.out.mono ?_
  rintro e w4 ⟨rfl, hto⟩
  have HG1 := Lib.hid (hto.get 3 (by decide) (by decide))
  clear hto HS2
  obtain ⟨hs, hhs⟩ : ∃ hs, hs = updH (updH (fun _ => 0) 3 (7 * 256 + 2 + 1)) 19 (1 * 256 + 1 + 1) := ⟨_, rfl⟩
  have H3 : Hid (numV (hs 3) = .agg #[.int .i64 7, .int .i64 2] ∧ decide (hs 3 ≠ 0) = true) := by unfold Hid; rw [hhs]; exact ⟨rfl, rfl⟩
  have H4 : Hid (numV (hs 4) = .agg #[.int .i64 0, .int .i64 0] ∧ decide (hs 4 ≠ 0) = false) := by unfold Hid; rw [hhs]; exact ⟨rfl, rfl⟩
  rw [← hhs] at HG1
  clear hhs
  rw [H3.out.1, H3.out.2] at HG1
  go_wp2_with fail
  refine HG1.out.mono ?_
  rintro e w5 ⟨rfl, hto⟩
  have HB5 : Hid (Below w5.heap.size w5 (w5.alloc (.cells #[.int .i64 7, .int .i64 2] 28))) := by unfold Hid; (repeat (first | (with_reducible refine Below.drew ?_) | (with_reducible refine below_drewN0 ?_ _) | ((with_reducible refine Below.setCell ?_ ?_ _); rotate_left; focus (first | omega | (simp; done) | (simp; omega) | (simp at *; omega))) | ((with_reducible refine Below.alloc ?_ ?_ _); rotate_left; focus (first | omega | (simp; done) | (simp; omega) | (simp at *; omega))) | (with_reducible exact Below.refl _ _)))
  obtain ⟨T5, F5, S5, sh5, hm5, ht5, hg5, hf5, hs5, hl5, hc5⟩ := hto
  have HB5' : Hid (Below w.heap.size w w5) := HB2.out.trans (ht5.below (Below.refl _ _) HSz.out HT2.out)
  have HG5 : Hid (∀ q ∈ T5, w.heap.size ≤ q) := fun q hq => (hg5 q hq).elim (HT2.out q) (fun h => Nat.le_trans HSz.out h)
  have HL5 : Hid (∀ q, q ∈ T5 ∨ q ∈ F5 → q < w5.heap.size) := hm5.lt
  have HS5 : Hid (S5.sectors = 20 ∧ S5.held = 1 ∧ S5.np = 5) := ⟨hs5.1, hs5.2.2, np_eq hs5.1 hs5.2.1⟩
  have HM5 := Lib.hid (hm5.below HB5.out)
  have HSh5 : Hid (sh5.L.length ≤ 100) := Nat.le_trans hl5 (by decide)
  have HG2 := Lib.hid (HM5.out.to.get 4 (by rw [HS5.out.1]; decide) (by have := HSh5.out; omega))
  rw [H4.out.1, H4.out.2] at HG2
  have HZ5 : Hid (Row (w5.alloc (.cells #[.int .i64 7, .int .i64 2] 28)) w5.heap.size 28 #[.int .i64 7, .int .i64 2]) := Row.fresh _ _ _
  have HB5'' : Hid (Below w.heap.size w (w5.alloc (.cells #[.int .i64 7, .int .i64 2] 28))) := HB5'.out.trans (HB5.out.mono HB5'.out.size)
  clear hm5 ht5 hg5 hf5 hs5 hl5 hc5 HG1
  go_wp2_with fail
  refine HG2.out.mono ?_
  rintro e w6 ⟨rfl, hto⟩
  have HZ6 : Hid (Row w6 w5.heap.size 28 #[.int .i64 7, .int .i64 2]) := by
    obtain ⟨_, _, _, _, _, ht, _⟩ := hto
    exact ht.row HZ5.out (fun hm => by have := HL5.out _ (.inl hm); omega)
  have HB6 : Hid (Below w6.heap.size w6 (w6.alloc (.cells #[.int .i64 0, .int .i64 0] 28))) := by unfold Hid; (repeat (first | (with_reducible refine Below.drew ?_) | (with_reducible refine below_drewN0 ?_ _) | ((with_reducible refine Below.setCell ?_ ?_ _); rotate_left; focus (first | omega | (simp; done) | (simp; omega) | (simp at *; omega))) | ((with_reducible refine Below.alloc ?_ ?_ _); rotate_left; focus (first | omega | (simp; done) | (simp; omega) | (simp at *; omega))) | (with_reducible exact Below.refl _ _)))
  have HZ7 : Hid (Row (w6.alloc (.cells #[.int .i64 0, .int .i64 0] 28)) w5.heap.size 28 #[.int .i64 7, .int .i64 2]) := HZ6.out.alloc _
  have z0 := HZ7.out.cell 0
  have z1 := HZ7.out.cell 1
  simp only [List.getElem?_toArray, List.getElem?_cons_zero, List.getElem?_cons_succ] at z0 z1
  have HPa := Lib.hid (hto.below HB6.out).parts
  rw [HS5.out.2.2] at HPa
  clear hto HG2
  go_wp2_with fail
  refine HPa.out.mono ?_
  rintro e w8 ⟨rfl, hto⟩
  have HHe := Lib.hid hto.held
  rw [HS5.out.2.1] at HHe
  clear hto HPa z0 z1
  go_wp2_with fail
  refine HHe.out.mono ?_
  rintro e w9 ⟨⟨n, rfl, hn⟩, hto⟩
  have HB9 : Hid (Below w.heap.size w w9) := HB5''.out.trans (hto.to_below HB5''.out.size HG5.out)
  clear hto HHe
  go_wp2
  go_ret
  exact ⟨by first | (simp; done) | (simp; omega), HB9.out⟩
end Go.Proofs.Ytfipmpajdkgffaa

namespace Go.Proofs.Ytfipmpajdkgffaa
open Go.RowKit Go.MapKept Go.ChangeMaps
set_option linter.unusedVariables false
set_option linter.unusedSimpArgs false

/-- The first i of ks, from the t-th on and round, are laid in h. -/
structure Laid (ks : List (Nat × Nat)) (t i : Nat) (h : Nat → Nat) : Prop where
  laid : ∀ j x, j < i → ks[(j + t) % ks.length]? = some x → h x.1 = x.2
  from' : ∀ s, h s ≠ 0 → ∃ x ∈ ks, x.1 = s ∧ x.2 = h s
/-- Each sector stands there once; a place is not 0. -/
structure Once (ks : List (Nat × Nat)) (sec : Nat) (seen : Nat → Bool) : Prop where
  one : ∀ x ∈ ks, ∀ y ∈ ks, x.1 = y.1 → x = y
  pos : ∀ x ∈ ks, x.2 ≠ 0 ∧ x.2 ≤ 262144 ∧ x.1 < sec
  seen : ∀ s, seen s = true ↔ ∃ x ∈ ks, x.1 = s
theorem Laid.nil (ks : List (Nat × Nat)) (t : Nat) : Laid ks t 0 (fun _ => 0) := ⟨by omega, by simp⟩
theorem Laid.step {ks : List (Nat × Nat)} {t i : Nat} {h : Nat → Nat} {sec : Nat} {seen : Nat → Bool} (o : Once ks sec seen) (l : Laid ks t i h) {x : Nat × Nat} (hx : ks[(i + t) % ks.length]? = some x) : Laid ks t (i + 1) (updH h x.1 x.2) := by
  have hxm := List.mem_of_getElem? hx
  refine ⟨fun j y hj hy => ?_, fun s hs => ?_⟩
  · by_cases he : y.1 = x.1
    · have := o.one y (List.mem_of_getElem? hy) x hxm he
      subst this
      simp [updH]
    · simp only [updH, if_neg he]
      refine l.laid j y ?_ hy
      by_cases hji : j = i
      · subst hji
        rw [hx] at hy; injection hy with hy
        exact absurd (by rw [hy]) he
      · omega
  · by_cases he : s = x.1
    · exact ⟨x, hxm, he.symm, by simp [updH, he]⟩
    · simp only [updH, if_neg he] at hs ⊢
      exact l.from' s hs
theorem Laid.all {ks : List (Nat × Nat)} {t : Nat} {h : Nat → Nat} (l : Laid ks t ks.length h) (ht : t < ks.length ∨ ks = []) : ∀ x ∈ ks, h x.1 = x.2 := fun x hx => by
  obtain ⟨k, hk⟩ := List.getElem?_of_mem hx
  have hkl : k < ks.length := by
    by_cases hh : k < ks.length
    · exact hh
    · rw [List.getElem?_eq_none (by omega)] at hk; cases hk
  have ht' : t < ks.length := ht.elim (fun h => h) (fun h => by rw [h] at hkl; exact absurd hkl (by simp))
  by_cases hkt : t ≤ k
  · refine l.laid (k - t) x (by omega) ?_
    rw [show k - t + t = k by omega, Nat.mod_eq_of_lt hkl]; exact hk
  · refine l.laid (k + ks.length - t) x (by omega) ?_
    rw [show k + ks.length - t + t = k + ks.length by omega, Nat.add_mod_right, Nat.mod_eq_of_lt hkl]; exact hk
theorem Laid.same {ks : List (Nat × Nat)} {t1 t2 : Nat} {h1 h2 : Nat → Nat} (l1 : Laid ks t1 ks.length h1) (l2 : Laid ks t2 ks.length h2) (ht1 : t1 < ks.length ∨ ks = []) (ht2 : t2 < ks.length ∨ ks = []) (s : Nat) : h1 s = h2 s := by
  by_cases a : h1 s = 0
  · by_cases b : h2 s = 0
    · rw [a, b]
    · obtain ⟨x, hx, rfl, h⟩ := l2.from' s b
      rw [← h, l1.all ht1 x hx]
  · obtain ⟨x, hx, rfl, h⟩ := l1.from' s a
    rw [← h, l2.all ht2 x hx]
theorem Laid.tells {ks : List (Nat × Nat)} {t : Nat} {h : Nat → Nat} {sec : Nat} {seen : Nat → Bool} (o : Once ks sec seen) (l : Laid ks t ks.length h) (ht : t < ks.length ∨ ks = []) (s : Nat) : decide (h s ≠ 0) = seen s := by
  cases hs : seen s with
  | true =>
    obtain ⟨x, hx, rfl⟩ := (o.seen s).1 hs
    rw [decide_eq_true_iff, l.all ht x hx]
    exact (o.pos x hx).1
  | false =>
    rw [decide_eq_false_iff_not]
    intro h0
    obtain ⟨x, hx, rfl, _⟩ := l.from' s h0
    have := (o.seen x.1).2 ⟨x, hx, rfl⟩
    rw [hs] at this; cases this
theorem Laid.modt {ks : List (Nat × Nat)} {t i : Nat} {h : Nat → Nat} (l : Laid ks t i h) : Laid ks (t % ks.length) i h :=
  ⟨fun j x hj hx => l.laid j x hj (by rw [Nat.add_mod_mod] at hx; exact hx), l.from'⟩
theorem turn_ok (ks : List (Nat × Nat)) (t : Nat) : t % ks.length < ks.length ∨ ks = [] := by
  cases ks with
  | nil => exact .inr rfl
  | cons a r => exact .inl (Nat.mod_lt _ (by simp))
theorem Laid.few {ks : List (Nat × Nat)} {t i : Nat} {h : Nat → Nat} {sec : Nat} {seen : Nat → Bool} (o : Once ks sec seen) (l : Laid ks t i h) (s : Nat) : h s ≤ 262144 := by
  by_cases h0 : h s = 0
  · omega
  · obtain ⟨x, hx, _, h2⟩ := l.from' s h0
    rw [← h2]; exact (o.pos x hx).2.1
theorem Once.nil (sec : Nat) : Once [] sec (fun _ => false) := ⟨by simp, by simp, by simp⟩
theorem Once.add {ks : List (Nat × Nat)} {sec : Nat} {seen seen' : Nat → Bool} (o : Once ks sec seen) {s v : Nat} (hs : s < sec) (hv : v ≠ 0 ∧ v ≤ 262144) (hn : seen s = false) (hseen : ∀ i, seen' i = (i == s || seen i)) : Once (ks ++ [(s, v)]) sec seen' := by
  have hno : ∀ x ∈ ks, x.1 ≠ s := fun x hx e => by
    have := (o.seen s).2 ⟨x, hx, e⟩
    rw [hn] at this; cases this
  refine ⟨fun x hx y hy e => ?_, fun x hx => ?_, fun i => ?_⟩
  · simp only [List.mem_append, List.mem_singleton] at hx hy
    rcases hx with hx | rfl <;> rcases hy with hy | rfl
    · exact o.one x hx y hy e
    · exact absurd e (hno x hx)
    · exact absurd e.symm (hno y hy)
    · rfl
  · simp only [List.mem_append, List.mem_singleton] at hx
    rcases hx with hx | rfl
    · exact o.pos x hx
    · exact ⟨hv.1, hv.2, hs⟩
  · rw [hseen]
    simp only [Bool.or_eq_true, beq_iff_eq, List.mem_append, List.mem_singleton, o.seen i]
    constructor
    · rintro (rfl | ⟨x, hx, rfl⟩)
      · exact ⟨_, .inr rfl, rfl⟩
      · exact ⟨x, .inl hx, rfl⟩
    · rintro ⟨x, hx | rfl, rfl⟩
      · exact .inr ⟨x, hx, rfl⟩
      · exact .inl rfl

/-- Two maps in memory, apart; Qs: blocks that neither turns. -/
structure Two (w : World) (B Ma Mb : Nat) (Qs : List Nat) (sec hd p : Nat) (hA hB : Nat → Nat) (Sa Sb : Nat) (Ta Fa Tb Fb : List Nat) (S1 S2 : Sm) (sh1 sh2 : Sh) : Prop where
  a : MIs w Ma Sa Ta Fa S1 sh1 hA
  b : MIs w Mb Sb Tb Fb S2 sh2 hB
  apart : ∀ q, q ∈ Ta ∨ q ∈ Fa → q ∉ Tb ∧ q ∉ Fb
  qs : ∀ q ∈ Qs, q < w.heap.size ∧ q ∉ Ta ∧ q ∉ Tb
  low : ∀ q, q ∈ Ta ∨ q ∈ Tb → B ≤ q
  sz : B ≤ w.heap.size
  shape : S1.sectors = sec ∧ S2.sectors = sec ∧ S1.held = 1 ∧ S2.held = hd
  puts : sh1.L.length ≤ p ∧ sh2.L.length ≤ p
def TwoM (w : World) (B Ma Mb : Nat) (Qs : List Nat) (sec hd p : Nat) (hA hB : Nat → Nat) : Prop := ∃ Sa Sb Ta Fa Tb Fb S1 S2 sh1 sh2, Two w B Ma Mb Qs sec hd p hA hB Sa Sb Ta Fa Tb Fb S1 S2 sh1 sh2
/-- What else is kept. -/
def Kq (w w' : World) (B : Nat) (Qs : List Nat) : Prop := ∃ T, Turns w w' T ∧ (∀ q ∈ T, q ∉ Qs) ∧ Below B w w'
section
variable {w w' : World} {B Ma Mb sec hd p : Nat} {Qs : List Nat} {hA hB : Nat → Nat}
theorem Two.flip {Sa Sb : Nat} {Ta Fa Tb Fb : List Nat} {S1 S2 : Sm} {sh1 sh2 : Sh} (h : Two w B Ma Mb Qs sec hd p hA hB Sa Sb Ta Fa Tb Fb S1 S2 sh1 sh2) : ∀ q, q ∈ Tb ∨ q ∈ Fb → q ∉ Ta ∧ q ∉ Fa :=
  fun q hq => ⟨fun h2 => hq.elim (h.apart q (.inl h2)).1 (h.apart q (.inl h2)).2, fun h2 => hq.elim (h.apart q (.inr h2)).1 (h.apart q (.inr h2)).2⟩
theorem Two.toA {Sa Sb : Nat} {Ta Fa Tb Fb : List Nat} {S1 S2 : Sm} {sh1 sh2 : Sh} {k c : Nat} {hA' : Nat → Nat} (h : Two w B Ma Mb Qs sec hd p hA hB Sa Sb Ta Fa Tb Fb S1 S2 sh1 sh2) (ht : MTo w w' Ma Sa Ta Fa k c S1 sh1 hA') : TwoM w' B Ma Mb Qs sec hd (p + k) hA' hB ∧ Kq w w' B Qs := by
  obtain ⟨T', F', S', sh', h1, h2, h3, h4, h5, h6, h7⟩ := ht
  have hbl := h.b.lt
  refine ⟨⟨Sa, Sb, T', F', Tb, Fb, S', S2, sh', sh2, h1, h.b.keep h2 (fun q hq => h.apart q (.inl hq)), fun q hq => ⟨fun h8 => ?_, fun h8 => ?_⟩, fun q hq => ?_, fun q hq => ?_, Nat.le_trans h.sz h2.size, ⟨h5.1.trans h.shape.1, h.shape.2.1, h5.2.2.trans h.shape.2.2.1, h.shape.2.2.2⟩, by have := h.puts; omega⟩, Ta, h2, fun q hq hm => (h.qs q hm).2.1 hq, h2.below (Below.refl _ _) h.sz (fun q hq => h.low q (.inl hq))⟩
  · have := hbl q (.inl h8)
    rcases hq with hq | hq
    · rcases h3 q hq with g | g
      · exact (h.apart q (.inl g)).1 h8
      · omega
    · rcases h4 q hq with g | g
      · exact (h.apart q (.inr g)).1 h8
      · omega
  · have := hbl q (.inr h8)
    rcases hq with hq | hq
    · rcases h3 q hq with g | g
      · exact (h.apart q (.inl g)).2 h8
      · omega
    · rcases h4 q hq with g | g
      · exact (h.apart q (.inr g)).2 h8
      · omega
  · obtain ⟨g1, g2, g3⟩ := h.qs q hq
    exact ⟨Nat.lt_of_lt_of_le g1 h2.size, fun h8 => (h3 q h8).elim g2 (fun g => by omega), g3⟩
  · rcases hq with hq | hq
    · exact (h3 q hq).elim (fun g => h.low q (.inl g)) (fun g => Nat.le_trans h.sz g)
    · exact h.low q (.inr hq)
theorem Two.toB {Sa Sb : Nat} {Ta Fa Tb Fb : List Nat} {S1 S2 : Sm} {sh1 sh2 : Sh} {k c : Nat} {hB' : Nat → Nat} (h : Two w B Ma Mb Qs sec hd p hA hB Sa Sb Ta Fa Tb Fb S1 S2 sh1 sh2) (ht : MTo w w' Mb Sb Tb Fb k c S2 sh2 hB') : TwoM w' B Ma Mb Qs sec hd (p + k) hA hB' ∧ Kq w w' B Qs := by
  obtain ⟨T', F', S', sh', h1, h2, h3, h4, h5, h6, h7⟩ := ht
  have hal := h.a.lt
  refine ⟨⟨Sa, Sb, Ta, Fa, T', F', S1, S', sh1, sh', h.a.keep h2 (fun q hq => h.flip q (.inl hq)), h1, fun q hq => ⟨fun h8 => ?_, fun h8 => ?_⟩, fun q hq => ?_, fun q hq => ?_, Nat.le_trans h.sz h2.size, ⟨h.shape.1, h5.1.trans h.shape.2.1, h.shape.2.2.1, h5.2.2.trans h.shape.2.2.2⟩, by have := h.puts; omega⟩, Tb, h2, fun q hq hm => (h.qs q hm).2.2 hq, h2.below (Below.refl _ _) h.sz (fun q hq => h.low q (.inr hq))⟩
  · have := hal q hq
    exact (h3 q h8).elim (fun g => (h.apart q hq).1 g) (fun g => by omega)
  · have := hal q hq
    exact (h4 q h8).elim (fun g => (h.apart q hq).2 g) (fun g => by omega)
  · obtain ⟨g1, g2, g3⟩ := h.qs q hq
    exact ⟨Nat.lt_of_lt_of_le g1 h2.size, g2, fun h8 => (h3 q h8).elim g3 (fun g => by omega)⟩
  · rcases hq with hq | hq
    · exact h.low q (.inl hq)
    · exact (h3 q hq).elim (fun g => h.low q (.inr g)) (fun g => Nat.le_trans h.sz g)
theorem TwoM.below (h : TwoM w B Ma Mb Qs sec hd p hA hB) (hb : Below w.heap.size w w') : TwoM w' B Ma Mb Qs sec hd p hA hB := by
  obtain ⟨Sa, Sb, Ta, Fa, Tb, Fb, S1, S2, sh1, sh2, g⟩ := h
  exact ⟨Sa, Sb, Ta, Fa, Tb, Fb, S1, S2, sh1, sh2, g.a.below hb, g.b.below hb, g.apart, fun q hq => ⟨Nat.lt_of_lt_of_le (g.qs q hq).1 hb.size, (g.qs q hq).2⟩, g.low, Nat.le_trans g.sz hb.size, g.shape, g.puts⟩
/-- Blocks that were born behind them may be told too. -/
theorem TwoM.more (h : TwoM w B Ma Mb Qs sec hd p hA hB) (hb : Below w.heap.size w w') (q : Nat) (hq : w.heap.size ≤ q ∧ q < w'.heap.size) : TwoM w' B Ma Mb (q :: Qs) sec hd p hA hB := by
  obtain ⟨Sa, Sb, Ta, Fa, Tb, Fb, S1, S2, sh1, sh2, g⟩ := h
  refine ⟨Sa, Sb, Ta, Fa, Tb, Fb, S1, S2, sh1, sh2, g.a.below hb, g.b.below hb, g.apart, fun k hk => ?_, g.low, Nat.le_trans g.sz hb.size, g.shape, g.puts⟩
  rcases List.mem_cons.1 hk with rfl | hk
  · exact ⟨hq.2, fun hm => by have := g.a.lt _ (.inl hm); omega, fun hm => by have := g.b.lt _ (.inl hm); omega⟩
  · exact ⟨Nat.lt_of_lt_of_le (g.qs k hk).1 hb.size, (g.qs k hk).2⟩
theorem TwoM.mono {p' : Nat} (h : TwoM w B Ma Mb Qs sec hd p hA hB) (hp : p ≤ p') : TwoM w B Ma Mb Qs sec hd p' hA hB := by
  obtain ⟨Sa, Sb, Ta, Fa, Tb, Fb, S1, S2, sh1, sh2, g⟩ := h
  exact ⟨Sa, Sb, Ta, Fa, Tb, Fb, S1, S2, sh1, sh2, g.a, g.b, g.apart, g.qs, g.low, g.sz, g.shape, by have := g.puts; omega⟩
theorem TwoM.setA (h : TwoM w B Ma Mb Qs sec hd p hA hB) (s b q : Nat) (hs : s < sec) (hb : b < 1024) (hq : q < 256) (hp : p ≤ 262143) :
    Calls Try.prog 11 #[.pointer (some ⟨Ma, 0, none⟩), .int .i64 s, .agg #[.int .i64 b, .int .i64 q]] w fun e w' => e = .returned (.int .i64 0) ∧ TwoM w' B Ma Mb Qs sec hd (p + 1) (updH hA s (b * 256 + q + 1)) hB ∧ Kq w w' B Qs := by
  obtain ⟨Sa, Sb, Ta, Fa, Tb, Fb, S1, S2, sh1, sh2, g⟩ := h
  exact (m_set g.a s b q (by rw [g.shape.1]; exact hs) hb hq (by have := g.puts; omega)).mono fun e w' ⟨he, ht⟩ => ⟨he, g.toA ht⟩
theorem TwoM.setB (h : TwoM w B Ma Mb Qs sec hd p hA hB) (s b q : Nat) (hs : s < sec) (hb : b < 1024) (hq : q < 256) (hp : p ≤ 262143) :
    Calls Try.prog 11 #[.pointer (some ⟨Mb, 0, none⟩), .int .i64 s, .agg #[.int .i64 b, .int .i64 q]] w fun e w' => e = .returned (.int .i64 0) ∧ TwoM w' B Ma Mb Qs sec hd (p + 1) hA (updH hB s (b * 256 + q + 1)) ∧ Kq w w' B Qs := by
  obtain ⟨Sa, Sb, Ta, Fa, Tb, Fb, S1, S2, sh1, sh2, g⟩ := h
  exact (m_set g.b s b q (by rw [g.shape.2.1]; exact hs) hb hq (by have := g.puts; omega)).mono fun e w' ⟨he, ht⟩ => ⟨he, g.toB ht⟩
theorem TwoM.getA (h : TwoM w B Ma Mb Qs sec hd p hA hB) (s : Nat) (hs : s < sec) (hp : p ≤ 262143) :
    Calls Try.prog 12 #[.pointer (some ⟨Ma, 0, none⟩), .int .i64 s] w fun e w' => e = .returned (.tuple #[numV (hA s), .bool (decide (hA s ≠ 0)), .int .i64 0]) ∧ TwoM w' B Ma Mb Qs sec hd (p + 1) hA hB ∧ Kq w w' B Qs := by
  obtain ⟨Sa, Sb, Ta, Fa, Tb, Fb, S1, S2, sh1, sh2, g⟩ := h
  exact (m_get g.a s (by rw [g.shape.1]; exact hs) (by have := g.puts; omega)).mono fun e w' ⟨he, ht⟩ => ⟨he, g.toA ht⟩
theorem TwoM.getB (h : TwoM w B Ma Mb Qs sec hd p hA hB) (s : Nat) (hs : s < sec) (hp : p ≤ 262143) :
    Calls Try.prog 12 #[.pointer (some ⟨Mb, 0, none⟩), .int .i64 s] w fun e w' => e = .returned (.tuple #[numV (hB s), .bool (decide (hB s ≠ 0)), .int .i64 0]) ∧ TwoM w' B Ma Mb Qs sec hd (p + 1) hA hB ∧ Kq w w' B Qs := by
  obtain ⟨Sa, Sb, Ta, Fa, Tb, Fb, S1, S2, sh1, sh2, g⟩ := h
  exact (m_get g.b s (by rw [g.shape.2.1]; exact hs) (by have := g.puts; omega)).mono fun e w' ⟨he, ht⟩ => ⟨he, g.toB ht⟩
theorem TwoM.heldA (h : TwoM w B Ma Mb Qs sec hd p hA hB) :
    Calls Try.prog 13 #[.pointer (some ⟨Ma, 0, none⟩)] w fun e w' => (∃ n : Nat, e = .returned (.int .i64 n) ∧ n ≤ 1) ∧ TwoM w' B Ma Mb Qs sec hd p hA hB ∧ Kq w w' B Qs := by
  obtain ⟨Sa, Sb, Ta, Fa, Tb, Fb, S1, S2, sh1, sh2, g⟩ := h
  refine g.a.to.held.mono fun e w' ⟨⟨n, he, hn⟩, ht⟩ => ⟨⟨n, he, by rw [← g.shape.2.2.1]; exact hn⟩, ?_⟩
  simpa using g.toA ht
theorem TwoM.heldB (h : TwoM w B Ma Mb Qs sec hd p hA hB) :
    Calls Try.prog 13 #[.pointer (some ⟨Mb, 0, none⟩)] w fun e w' => (∃ n : Nat, e = .returned (.int .i64 n) ∧ n ≤ hd) ∧ TwoM w' B Ma Mb Qs sec hd p hA hB ∧ Kq w w' B Qs := by
  obtain ⟨Sa, Sb, Ta, Fa, Tb, Fb, S1, S2, sh1, sh2, g⟩ := h
  refine g.b.to.held.mono fun e w' ⟨⟨n, he, hn⟩, ht⟩ => ⟨⟨n, he, by rw [← g.shape.2.2.2]; exact hn⟩, ?_⟩
  simpa using g.toB ht
/-- Two Worlds, begun one behind the other. -/
theorem TwoM.begun {w2 w3 : World} {B1 Wa Sa Ha Wb Sb Hb b1 b2 : Nat} {T1 T2 : List Nat} (h1 : WdIs w2 B1 Wa Ma Sa Ha T1 [] (Sm.new sec b1 1) sh0 (fun _ => 0)) (h2 : WdIs w3 w2.heap.size Wb Mb Sb Hb T2 [] (Sm.new sec b2 hd) sh0 (fun _ => 0)) (hb : Below w2.heap.size w2 w3) (hB : B ≤ B1 ∧ B1 ≤ w2.heap.size) : TwoM w3 B Ma Mb [Wa, Wb] sec hd 0 (fun _ => 0) (fun _ => 0) := by
  have ha : MIs w2 Ma Sa T1 [] (Sm.new sec b1 1) sh0 (fun _ => 0) := ⟨h1.sm, h1.pw, rfl⟩
  have hl := ha.lt
  have hw1 : Wa < w2.heap.size := h1.row.lt
  refine ⟨Sa, Sb, T1, [], T2, [], _, _, sh0, sh0, ha.below hb, ⟨h2.sm, h2.pw, rfl⟩, fun q hq => ⟨fun hm => ?_, by simp⟩, fun q hq => ?_, fun q hq => ?_, by have := hb.size; omega, ⟨rfl, rfl, rfl, rfl⟩, by simp [sh0]⟩
  · have := hl q hq
    have := h2.low.2.2 q hm
    omega
  · simp only [List.mem_cons, List.not_mem_nil, or_false] at hq
    rcases hq with rfl | rfl
    · exact ⟨Nat.lt_of_lt_of_le hw1 hb.size, h1.sepW.1, fun hm => by have := h2.low.2.2 _ hm; omega⟩
    · exact ⟨h2.row.lt, fun hm => by have := hl _ (.inl hm); have := h2.low.1; omega, h2.sepW.1⟩
  · rcases hq with hq | hq
    · exact Nat.le_trans hB.1 (h1.low.2.2 q hq)
    · have := h2.low.2.2 q hq; omega
end
end Go.Proofs.Ytfipmpajdkgffaa

namespace Go.Proofs.Ytfipmpajdkgffaa
open Go.RowKit Go.MapKept Go.ChangeMaps
open Go.Maps (Keyed)
set_option linter.unusedVariables false
set_option linter.unusedSimpArgs false

theorem zero_bool (w : World) : (zeroValue 4).run Try.prog w = .ok (.bool false) w := by kernel_rfl
theorem seen_under : Try.prog.underlying 26 = some (.map 3 4) := Try.underlying26
/-- Ints that were seen, as a map. -/
def SeenIs (w : World) (Q nb : Nat) (bad : Nat → Bool) : Prop :=
  ∃ n f, MapIs Try.prog 3 w Q n f ∧ ∀ key v, f key = some v ↔ ∃ k : Nat, k < nb ∧ bad k = true ∧ key = .int .i64 k ∧ v = .bool true
def setSeen (bad : Nat → Bool) (k : Nat) : Nat → Bool := fun i => i == k || bad i
section
variable {w w' : World} {Q nb : Nat} {bad : Nat → Bool}
theorem SeenIs.lt (h : SeenIs w Q nb bad) : Q < w.heap.size := by obtain ⟨n, f, h, _⟩ := h; exact h.lt
theorem SeenIs.turns {T : List Nat} (h : SeenIs w Q nb bad) (ht : Turns w w' T) (hb : Q ∉ T) : SeenIs w' Q nb bad := by obtain ⟨n, f, h, h2⟩ := h; exact ⟨n, f, h.turns ht hb, h2⟩
theorem SeenIs.not_row (h : SeenIs w Q nb bad) (t : TypeId) (cs : Array Value) : ¬ Row w Q t cs := by
  obtain ⟨n, f, ⟨es, clock, hb, _⟩, _⟩ := h
  intro hr
  unfold Row at hr
  rw [hr] at hb; cases hb
theorem SeenIs.fresh (w : World) (nb : Nat) : SeenIs (w.alloc (.map #[] 0)) w.heap.size nb (fun _ => false) := ⟨_, _, MapIs.fresh _ _ w, by simp⟩
theorem SeenIs.look (h : SeenIs w Q nb bad) (hn : nb < 4294967296) {k : Nat} (hk : k < nb) : (Instr.lookup 26 (.map (some Q)) (.int .i64 k) false).run Try.prog w = .ok (.bool (bad k)) w := by
  obtain ⟨n, f, h, h2⟩ := h
  rw [(h.look intKeyed seen_under (zero_bool w) (int_key (by omega))).1]
  cases hb : bad k with
  | true => rw [(h2 (.int .i64 k) (.bool true)).2 ⟨k, hk, hb, rfl, rfl⟩]; rfl
  | false =>
    cases hf : f (.int .i64 k) with
    | none => rfl
    | some v =>
      obtain ⟨k', _, h3, h4, _⟩ := (h2 _ _).1 hf
      injection h4 with _ h4
      obtain rfl : k = k' := by omega
      rw [hb] at h3; cases h3
theorem SeenIs.set (h : SeenIs w Q nb bad) (hn : nb < 4294967296) {k : Nat} (hk : k < nb) :
    ∃ w', (Instr.mapUpdate 26 (.map (some Q)) (.int .i64 k) (.bool true)).run Try.prog w = .ok () w' ∧ SeenIs w' Q nb (setSeen bad k) ∧ Turns w w' [Q] := by
  obtain ⟨n, f, h, h2⟩ := h
  obtain ⟨w', hr, hm, hg⟩ := h.update (val := .bool true) intKeyed seen_under (int_key (n := k) (by omega))
  refine ⟨w', hr, ⟨_, _, hm, fun key v => ?_⟩, Turns.of_grown hg⟩
  by_cases he : key = .int .i64 k
  · subst he
    rw [updK_same]
    constructor
    · rintro h; injection h with h; exact ⟨k, hk, by simp [setSeen], rfl, h.symm⟩
    · rintro ⟨k', _, _, _, rfl⟩; rfl
  · rw [updK_ne _ _ _ he, h2]
    constructor
    · rintro ⟨k', h1, h3, h4, h5⟩
      exact ⟨k', h1, by simp [setSeen, h3], h4, h5⟩
    · rintro ⟨k', h1, h3, rfl, h5⟩
      have : k' ≠ k := fun e => he (by rw [e])
      exact ⟨k', h1, by simpa [setSeen, this] using h3, rfl, h5⟩
end

/-- An act as the law tells it: its operation, its sector, its place. -/
structure OAct where
  o : Int
  s : Nat
  b : Nat
  p : Nat
def OAct.cells (x : OAct) : List Value := [.int .i64 x.o, .int .i64 x.s, .int .i64 x.b, .int .i64 x.p]
def OAct.key (x : OAct) : Nat × Nat := (x.s, x.b * 256 + x.p + 1)
def acsV (xs : List OAct) : List Value := xs.flatMap OAct.cells
theorem acsV_len (xs : List OAct) : (acsV xs).length = xs.length * 4 := by
  induction xs with
  | nil => rfl
  | cons x r ih =>
    rw [acsV, List.flatMap_cons, List.length_append, ← acsV, ih, List.length_cons]
    show 4 + r.length * 4 = _
    omega
theorem acsV_add (xs : List OAct) (x : OAct) : acsV (xs ++ [x]) = acsV xs ++ x.cells := by simp [acsV]
theorem acsV_get (xs : List OAct) (i : Nat) (x : OAct) (hx : xs[i]? = some x) (j : Nat) (u : Value) (hu : x.cells[j]? = some u) : (acsV xs)[i * 4 + j]? = some u := by
  induction xs generalizing i with
  | nil => simp at hx
  | cons y r ih =>
    have hj : j < 4 := by
      by_cases hh : j < 4
      · exact hh
      · rw [List.getElem?_eq_none (show x.cells.length ≤ j by show 4 ≤ j; omega)] at hu; cases hu
    rw [acsV, List.flatMap_cons, ← acsV]
    cases i with
    | zero =>
      simp at hx; subst hx
      rw [Nat.zero_mul, Nat.zero_add, List.getElem?_append_left (show j < y.cells.length from hj)]
      exact hu
    | succ i =>
      rw [List.getElem?_append_right (show y.cells.length ≤ (i + 1) * 4 + j by show 4 ≤ _; omega)]
      rw [show (i + 1) * 4 + j - y.cells.length = i * 4 + j by show (i + 1) * 4 + j - 4 = _; omega]
      exact ih i (by simpa using hx)
theorem acsV_one (xs : List OAct) : ∀ u ∈ acsV xs, u.oneCell' = true := by
  intro u hu
  obtain ⟨x, _, hx⟩ := List.mem_flatMap.1 hu
  simp only [OAct.cells, List.mem_cons, List.not_mem_nil, or_false] at hx
  rcases hx with rfl | rfl | rfl | rfl <;> rfl
theorem act_info : (Try.prog.info? 30).map (fun i => (i.zero, i.size, i.bytes)) = some (some (.agg #[.int .i64 0, .int .i64 0, .int .i64 0, .int .i64 0]), 4, 32) := by kernel_rfl
/-- What loop 1 holds: the acts kept, in a row of its own; which sectors were seen. -/
structure OnIs (w : World) (B Q : Nat) (v : Value) (xs : List OAct) (sec : Nat) (seen : Nat → Bool) : Prop where
  own : w.ownsRow B 30 4 v xs.length (acsV xs)
  fit : ∀ x ∈ xs, x.b < 1024 ∧ x.p < 256
  once : Once (xs.map OAct.key) sec seen
  map : SeenIs w Q sec seen
theorem OnIs.read {w : World} {B Q sec : Nat} {v : Value} {xs : List OAct} {seen : Nat → Bool} (h : OnIs w B Q v xs sec seen) {i : Nat} {x : OAct} (hx : xs[i]? = some x) :
    ∃ g c, v = .slice (some ⟨g, 0, none⟩) xs.length c ∧ B ≤ g ∧ g < w.heap.size ∧ xs.length ≤ c ∧ c ≤ maxLen ∧ w.cell? ⟨g, i * 4, none⟩ = some (.int .i64 x.o) ∧ w.cell? ⟨g, i * 4 + 1, none⟩ = some (.int .i64 x.s) ∧ w.cell? ⟨g, i * 4 + 2, none⟩ = some (.int .i64 x.b) ∧ w.cell? ⟨g, i * 4 + 3, none⟩ = some (.int .i64 x.p) := by
  have hi : i < xs.length := by
    by_cases hh : i < xs.length
    · exact hh
    · rw [List.getElem?_eq_none (by omega)] at hx; cases hx
  obtain ⟨g, c, rfl, h1, h2, h3, h4⟩ := own_at h.own (by omega)
  have hsrc := Src.of_own h.own
  have hat : ∀ j u, x.cells[j]? = some u → w.cell? ⟨g, i * 4 + j, none⟩ = some u := fun j u hu => by
    obtain ⟨ad, e, hc⟩ := hsrc.lies (by omega)
    injection e with e
    subst e
    have := hc _ _ (acsV_get xs i x hx j u hu)
    rw [addr_add, Nat.zero_add] at this
    exact this
  exact ⟨g, c, rfl, h1, h2, h3, h4, hat 0 _ rfl, hat 1 _ rfl, hat 2 _ rfl, hat 3 _ rfl⟩
theorem src_new {w : World} {t : TypeId} {cs : List Value} {sz : Nat} (h : cs.length = 1 * sz) : Src (w.alloc (.cells cs.toArray t)) sz (some ⟨w.heap.size, 0, none⟩) 1 cs :=
  Src.of_at h (fun j u hu => by
    rw [addr_add, Nat.zero_add, (Row.fresh w t cs.toArray).cell]
    simpa using hu)
section
variable {w w' : World} {B Q sec : Nat} {v : Value} {xs : List OAct} {seen : Nat → Bool}
theorem OnIs.nil (w : World) (sec : Nat) : OnIs (w.alloc (.map #[] 0)) w.heap.size w.heap.size (.slice none 0 0) [] sec (fun _ => false) :=
  ⟨⟨rfl, .inl ⟨rfl, rfl⟩⟩, by simp, Once.nil sec, SeenIs.fresh w sec⟩
theorem OnIs.apart (h : OnIs w B Q v xs sec seen) : ∀ k ∈ blkOf v, k ≠ Q := fun k hk e => by
  obtain ⟨_, _, cs, hr⟩ := own_blkOf h.own hk
  subst e
  exact h.map.not_row _ _ hr
theorem OnIs.turns {T : List Nat} (h : OnIs w B Q v xs sec seen) (ht : Turns w w' T) (hT : ∀ k ∈ T, k ≠ Q ∧ k ∉ blkOf v) : OnIs w' B Q v xs sec seen :=
  ⟨ht.own h.own (fun g hg hk => (hT _ hk).2 (by unfold blkOf; rw [hg]; simp)), h.fit, h.once, h.map.turns ht (fun hm => (hT _ hm).1 rfl)⟩
theorem OnIs.below (h : OnIs w B Q v xs sec seen) (hb : Below w.heap.size w w') : OnIs w' B Q v xs sec seen := h.turns (Turns.of_below hb []) (by simp)
theorem OnIs.seenOf (h : OnIs w B Q v xs sec seen) (x : OAct) (hf : x.b < 1024 ∧ x.p < 256) (hs : x.s < sec) (hn : seen x.s = false) : Once ((xs ++ [x]).map OAct.key) sec (setSeen seen x.s) := by
  rw [List.map_append]
  exact h.once.add hs (by omega) hn (fun i => rfl)
theorem OnIs.pushed {w0 w6 W1 w9 : World} {v9 : Value} (h : OnIs w w0.heap.size Q v xs sec seen) (hb : Below w0.heap.size w0 w) (hQ : w0.heap.size ≤ Q) (x : OAct) (hf : x.b < 1024 ∧ x.p < 256) (hs : x.s < sec) (hn : seen x.s = false)
    (hse : SeenIs w6 Q sec (setSeen seen x.s)) (ht : Turns w w6 [Q]) (hb1 : Below w6.heap.size w6 W1) (hg : W1.grownBy w9 v.ownBlock) (hown : w9.ownsRow w0.heap.size 30 4 v9 (xs.length + 1) (acsV xs ++ x.cells)) :
    OnIs w9 w0.heap.size Q v9 (xs ++ [x]) sec (setSeen seen x.s) ∧ Below w0.heap.size w0 w9 := by
  have hz := hb.size
  have h6 : Below w0.heap.size w0 w6 := ht.below hb hz (fun q hq => by rw [List.mem_singleton.1 hq]; exact hQ)
  have h7 : Below w0.heap.size w0 W1 := h6.trans (hb1.mono h6.size)
  refine ⟨⟨by rw [acsV_add, List.length_append]; exact hown, fun y hy => ?_, h.seenOf x hf hs hn, ?_⟩, ?_⟩
  · rcases List.mem_append.1 hy with hy | hy
    · exact h.fit y hy
    · rw [List.mem_singleton.1 hy]; exact hf
  · exact (hse.turns (Turns.of_below hb1 []) (by simp)).turns (turns_grown hg) (fun hm => h.apart _ hm rfl)
  · exact (turns_grown hg).below h7 h7.size (fun q hq => (own_blkOf h.own hq).1)
theorem OnIs.ownAt {w6 W1 : World} (h : OnIs w B Q v xs sec seen) (ht : Turns w w6 [Q]) (hb1 : Below w6.heap.size w6 W1) : W1.ownsRow B 30 4 v xs.length (acsV xs) :=
  own_below (ht.own h.own (fun g hg hk => by
    have := List.mem_singleton.1 hk
    exact h.apart g (by unfold blkOf; rw [hg]; simp) this)) hb1
end
/-- What loops 2 and 3 hold. -/
structure Lp (W : World) (Q : Nat) (Es : List Nat) (w : World) (Wa Wb Ma Mb sec hd p : Nat) (v : Value) (xs : List OAct) (seen : Nat → Bool) (hA hB : Nat → Nat) : Prop where
  two : TwoM w W.heap.size Ma Mb (Es ++ ((Q :: blkOf v) ++ [Wa, Wb])) sec hd p hA hB
  on : OnIs w Q Q v xs sec seen
  ca : w.cell? ⟨Wa, 4, none⟩ = some (.pointer (some ⟨Ma, 0, none⟩))
  cb : w.cell? ⟨Wb, 4, none⟩ = some (.pointer (some ⟨Mb, 0, none⟩))
  below : Below W.heap.size W w
theorem TwoM.adds {w w' : World} {B Ma Mb sec hd p : Nat} {Qs qs : List Nat} {hA hB : Nat → Nat} (h : TwoM w B Ma Mb Qs sec hd p hA hB) (hb : Below w.heap.size w w') (hq : ∀ q ∈ qs, w.heap.size ≤ q ∧ q < w'.heap.size) : TwoM w' B Ma Mb (qs ++ Qs) sec hd p hA hB := by
  obtain ⟨Sa, Sb, Ta, Fa, Tb, Fb, S1, S2, sh1, sh2, g⟩ := h
  refine ⟨Sa, Sb, Ta, Fa, Tb, Fb, S1, S2, sh1, sh2, g.a.below hb, g.b.below hb, g.apart, fun k hk => ?_, g.low, Nat.le_trans g.sz hb.size, g.shape, g.puts⟩
  rcases List.mem_append.1 hk with hk | hk
  · have := hq k hk
    exact ⟨this.2, fun hm => by have := g.a.lt _ (.inl hm); omega, fun hm => by have := g.b.lt _ (.inl hm); omega⟩
  · exact ⟨Nat.lt_of_lt_of_le (g.qs k hk).1 hb.size, (g.qs k hk).2⟩
theorem cell_turns {w w' : World} {T : List Nat} (h : Turns w w' T) {a : Addr} {v : Value} (hc : w.cell? a = some v) (hn : a.block ∉ T) : w'.cell? a = some v := by
  rw [World.cell?_of_block (h.block _ (World.block_lt_of_cell? w _ hc) hn)]; exact hc
section
variable {W w w' : World} {Es : List Nat} {Q Wa Wb Ma Mb sec hd p : Nat} {v : Value} {xs : List OAct} {seen : Nat → Bool} {hA hB : Nat → Nat}
theorem Lp.begin {w4 : World} (ht : TwoM w4 W.heap.size Ma Mb [Wa, Wb] sec hd p hA hB) (ho : OnIs w w4.heap.size w4.heap.size v xs sec seen) (hb : Below w4.heap.size w4 w) (ca : w4.cell? ⟨Wa, 4, none⟩ = some (.pointer (some ⟨Ma, 0, none⟩))) (cb : w4.cell? ⟨Wb, 4, none⟩ = some (.pointer (some ⟨Mb, 0, none⟩))) (hbw : Below W.heap.size W w) : Lp W w4.heap.size [] w Wa Wb Ma Mb sec hd p v xs seen hA hB := by
  refine ⟨ht.adds hb (fun q hq => ?_), ho, keep_below hb _ _ ca, keep_below hb _ _ cb, hbw⟩
  rcases List.mem_cons.1 hq with rfl | hq
  · exact ⟨Nat.le_refl _, ho.map.lt⟩
  · have := own_blkOf ho.own hq
    exact ⟨this.1, this.2.1⟩
theorem Lp.go {p' : Nat} {hA' hB' : Nat → Nat} (h : Lp W Q Es w Wa Wb Ma Mb sec hd p v xs seen hA hB) (ht : TwoM w' W.heap.size Ma Mb (Es ++ ((Q :: blkOf v) ++ [Wa, Wb])) sec hd p' hA' hB') (hk : Kq w w' W.heap.size (Es ++ ((Q :: blkOf v) ++ [Wa, Wb]))) : Lp W Q Es w' Wa Wb Ma Mb sec hd p' v xs seen hA' hB' := by
  obtain ⟨T, h1, h2, h3⟩ := hk
  exact ⟨ht, h.on.turns h1 (fun k hk => ⟨fun e => h2 k hk (by simp [e]), fun hm => h2 k hk (by simp [hm])⟩), cell_turns h1 h.ca (fun hm => h2 _ hm (by simp)), cell_turns h1 h.cb (fun hm => h2 _ hm (by simp)), h.below.trans h3⟩
theorem Lp.then_below (h : Lp W Q Es w Wa Wb Ma Mb sec hd p v xs seen hA hB) (hb : Below w.heap.size w w') : Lp W Q Es w' Wa Wb Ma Mb sec hd p v xs seen hA hB :=
  ⟨h.two.below hb, h.on.below hb, keep_below hb _ _ h.ca, keep_below hb _ _ h.cb, h.below.trans (hb.mono h.below.size)⟩
theorem Lp.add {qs : List Nat} (h : Lp W Q Es w Wa Wb Ma Mb sec hd p v xs seen hA hB) (hb : Below w.heap.size w w') (hq : ∀ q ∈ qs, w.heap.size ≤ q ∧ q < w'.heap.size) : Lp W Q (qs ++ Es) w' Wa Wb Ma Mb sec hd p v xs seen hA hB := by
  have := h.then_below hb
  refine ⟨?_, this.on, this.ca, this.cb, this.below⟩
  rw [List.append_assoc]
  exact h.two.adds hb hq
theorem TwoM.sub {B : Nat} {Qs Qs' : List Nat} (h : TwoM w B Ma Mb Qs sec hd p hA hB) (hs : ∀ q ∈ Qs', q ∈ Qs) : TwoM w B Ma Mb Qs' sec hd p hA hB := by
  obtain ⟨Sa, Sb, Ta, Fa, Tb, Fb, S1, S2, sh1, sh2, g⟩ := h
  exact ⟨Sa, Sb, Ta, Fa, Tb, Fb, S1, S2, sh1, sh2, g.a, g.b, g.apart, fun q hq => g.qs q (hs q hq), g.low, g.sz, g.shape, g.puts⟩
theorem Lp.drop (h : Lp W Q Es w Wa Wb Ma Mb sec hd p v xs seen hA hB) : Lp W Q [] w Wa Wb Ma Mb sec hd p v xs seen hA hB :=
  ⟨h.two.sub (fun q hq => List.mem_append.2 (.inr hq)), h.on, h.ca, h.cb, h.below⟩
theorem Lp.mono {p' : Nat} (h : Lp W Q Es w Wa Wb Ma Mb sec hd p v xs seen hA hB) (hp : p ≤ p') : Lp W Q Es w Wa Wb Ma Mb sec hd p' v xs seen hA hB := ⟨h.two.mono hp, h.on, h.ca, h.cb, h.below⟩
theorem kq_row {B : Nat} {Qs : List Nat} (h : Kq w w' B (Es ++ Qs)) : ∀ g ∈ Es, ∀ t cs, Row w g t cs → Row w' g t cs := fun g hg t cs hr => by
  obtain ⟨T, h1, h2, _⟩ := h
  exact h1.row hr (fun hm => h2 g hm (List.mem_append.2 (.inl hg)))
theorem Lp.setA (h : Lp W Q Es w Wa Wb Ma Mb sec hd p v xs seen hA hB) (x : OAct) (hx : x ∈ xs) (hp : p ≤ 262143) :
    Calls Try.prog 11 #[.pointer (some ⟨Ma, 0, none⟩), .int .i64 x.s, .agg #[.int .i64 x.b, .int .i64 x.p]] w fun e w' => e = .returned (.int .i64 0) ∧ Lp W Q Es w' Wa Wb Ma Mb sec hd (p + 1) v xs seen (updH hA x.key.1 x.key.2) hB ∧ (∀ g ∈ Es, ∀ t cs, Row w g t cs → Row w' g t cs) :=
  (h.two.setA x.s x.b x.p ((h.on.once.pos x.key (List.mem_map_of_mem hx)).2.2) (h.on.fit x hx).1 (h.on.fit x hx).2 hp).mono fun e w' ⟨he, ht, hk⟩ => ⟨he, h.go ht hk, kq_row hk⟩
theorem Lp.setB (h : Lp W Q Es w Wa Wb Ma Mb sec hd p v xs seen hA hB) (x : OAct) (hx : x ∈ xs) (hp : p ≤ 262143) :
    Calls Try.prog 11 #[.pointer (some ⟨Mb, 0, none⟩), .int .i64 x.s, .agg #[.int .i64 x.b, .int .i64 x.p]] w fun e w' => e = .returned (.int .i64 0) ∧ Lp W Q Es w' Wa Wb Ma Mb sec hd (p + 1) v xs seen hA (updH hB x.key.1 x.key.2) ∧ (∀ g ∈ Es, ∀ t cs, Row w g t cs → Row w' g t cs) :=
  (h.two.setB x.s x.b x.p ((h.on.once.pos x.key (List.mem_map_of_mem hx)).2.2) (h.on.fit x hx).1 (h.on.fit x hx).2 hp).mono fun e w' ⟨he, ht, hk⟩ => ⟨he, h.go ht hk, kq_row hk⟩
theorem Lp.getA (h : Lp W Q Es w Wa Wb Ma Mb sec hd p v xs seen hA hB) (s : Nat) (hs : s < sec) (hp : p ≤ 262143) :
    Calls Try.prog 12 #[.pointer (some ⟨Ma, 0, none⟩), .int .i64 s] w fun e w' => e = .returned (.tuple #[numV (hA s), .bool (decide (hA s ≠ 0)), .int .i64 0]) ∧ Lp W Q Es w' Wa Wb Ma Mb sec hd (p + 1) v xs seen hA hB ∧ (∀ g ∈ Es, ∀ t cs, Row w g t cs → Row w' g t cs) :=
  (h.two.getA s hs hp).mono fun e w' ⟨he, ht, hk⟩ => ⟨he, h.go ht hk, kq_row hk⟩
theorem Lp.getB (h : Lp W Q Es w Wa Wb Ma Mb sec hd p v xs seen hA hB) (s : Nat) (hs : s < sec) (hp : p ≤ 262143) :
    Calls Try.prog 12 #[.pointer (some ⟨Mb, 0, none⟩), .int .i64 s] w fun e w' => e = .returned (.tuple #[numV (hB s), .bool (decide (hB s ≠ 0)), .int .i64 0]) ∧ Lp W Q Es w' Wa Wb Ma Mb sec hd (p + 1) v xs seen hA hB ∧ (∀ g ∈ Es, ∀ t cs, Row w g t cs → Row w' g t cs) :=
  (h.two.getB s hs hp).mono fun e w' ⟨he, ht, hk⟩ => ⟨he, h.go ht hk, kq_row hk⟩
theorem Lp.heldA (h : Lp W Q Es w Wa Wb Ma Mb sec hd p v xs seen hA hB) :
    Calls Try.prog 13 #[.pointer (some ⟨Ma, 0, none⟩)] w fun e w' => (∃ n : Nat, e = .returned (.int .i64 n) ∧ n ≤ 1) ∧ Lp W Q Es w' Wa Wb Ma Mb sec hd p v xs seen hA hB ∧ (∀ g ∈ Es, ∀ t cs, Row w g t cs → Row w' g t cs) :=
  h.two.heldA.mono fun e w' ⟨he, ht, hk⟩ => ⟨he, h.go ht hk, kq_row hk⟩
theorem Lp.heldB (h : Lp W Q Es w Wa Wb Ma Mb sec hd p v xs seen hA hB) :
    Calls Try.prog 13 #[.pointer (some ⟨Mb, 0, none⟩)] w fun e w' => (∃ n : Nat, e = .returned (.int .i64 n) ∧ n ≤ hd) ∧ Lp W Q Es w' Wa Wb Ma Mb sec hd p v xs seen hA hB ∧ (∀ g ∈ Es, ∀ t cs, Row w g t cs → Row w' g t cs) :=
  h.two.heldB.mono fun e w' ⟨he, ht, hk⟩ => ⟨he, h.go ht hk, kq_row hk⟩
end
/-- What region 25 reads. -/
structure Rd (Wa Wb Ma Mb gx gy : Nat) (x y : OAct) where
  u : World
  ca : u.cell? ⟨Wa, 4, none⟩ = some (.pointer (some ⟨Ma, 0, none⟩))
  cb : u.cell? ⟨Wb, 4, none⟩ = some (.pointer (some ⟨Mb, 0, none⟩))
  rx : Row u gx 30 x.cells.toArray
  ry : Row u gy 30 y.cells.toArray
end Go.Proofs.Ytfipmpajdkgffaa

namespace Go.Proofs.Ytfipmpajdkgffaa
open Go.RowKit Go.MapKept Go.ChangeMaps
attribute [local go_sem] Oper.semAt_some
attribute [local simp, local go_sem] wide_fn
set_option linter.unusedVariables false
set_option linter.unusedSimpArgs false

theorem Parts_same (w : World) (Mb Sb : Nat) (T F : List Nat) (S : Sm) (sh : Sh) (h : SmIs w Mb Sb T F S sh) (k : Nat) :
    Calls Try.prog 18 #[.pointer (some ⟨Mb, 0, none⟩)] (w.drewN k) fun e w' => e = .returned (.int .i64 S.np) ∧ w' = w.drewN k := by
  obtain ⟨Q, Db, P, pb, h⟩ := h
  have c5 := h.cells.2.2.1
  clear h
  go_enter Try.func18, Try.ntmps18
  go_wp2
  go_ret
  exact ⟨rfl, rfl⟩
/-- The shapes that may be. -/
def shapeB (a b c : Int) : Prop := (1 ≤ a ∧ a ≤ 16384) ∧ (16 ≤ b ∧ b ≤ 4096 ∧ b % 4 = 0) ∧ 1 ≤ c ∧ c ≤ 4096
set_option maxRecDepth 100000 in
set_option maxHeartbeats 4000000 in
theorem plays_in (a b c : Nat) (ha : 1 ≤ a ∧ a ≤ 16384) (hb : 16 ≤ b ∧ b ≤ 4096 ∧ b % 4 = 0) (hc : 1 ≤ c ∧ c ≤ 4096) (A : Option Addr) (n cap : Nat) (f : Nat → Nat → Int) (W : World) (hA : Acts W A n 4 f) (hn : n ≤ 200) (hcap : n ≤ cap) :
    Calls Try.prog 5 #[.int .i64 a, .int .i64 b, .int .i64 c, .slice A n cap] W fun e w' => e = .returned (.bool true) ∧ Below W.heap.size W w' := by
  have HK := Lib.hid (known_any W)
  have HBe : Hid (∀ u, Calls Try.prog 9 #[.int .i64 a, .int .i64 b, .int .i64 c] u fun e w' => ∃ Wb Mb Sb Hb T, e = .returned (.pointer (some ⟨Wb, 0, none⟩)) ∧ WdIs w' u.heap.size Wb Mb Sb Hb T [] (Sm.new a b c) sh0 (fun _ => 0) ∧ Below u.heap.size u w') := fun u => begun_any u a b c ha hb hc
  have HAc := Lib.hid hA
  clear hA
  obtain ⟨ha1, ha2⟩ := ha
  obtain ⟨hb1, hb2, hb3⟩ := hb
  obtain ⟨hc1, hc2⟩ := hc
  have hb4 : (b : Int) % 4 = 0 := by omega
  clear hb3
  obtain ⟨ea, hea⟩ : ∃ ea, ea = b / 4 := ⟨_, rfl⟩
  have hea1 : 4 ≤ ea ∧ ea ≤ 1024 := by omega
  have HEa := Lib.hid hea
  have hbe : (b : Int) / 4 = (ea : Int) := by omega
  clear hea
  go_enter Try.func5, Try.ntmps5
  go_wp2_with fail
  refine HK.out.mono ?_
  rintro e w1 ⟨rfl, hb1'⟩
  have HB1 := Lib.hid hb1'
  clear hb1' HK
  go_wp2_with fail
  refine (HBe.out w1).mono ?_
  rintro e w2 ⟨Wb, Mb, Sb, Hb, T, rfl, hi, hb2'⟩
  have HI := Lib.hid hi
  have HB2 : Hid (Below W.heap.size W w2) := HB1.out.trans (hb2'.mono HB1.out.size)
  have HBz := Lib.hid HB1.out.size
  have c4 : w2.cell? ⟨Wb, 4, none⟩ = some (.pointer (some ⟨Mb, 0, none⟩)) := hi.row.cell 4
  have HPa : Hid (∀ k, Calls Try.prog 18 #[.pointer (some ⟨Mb, 0, none⟩)] (w2.drewN k) fun e w' => e = .returned (.int .i64 ((Sm.new a b c).np : Nat)) ∧ w' = w2.drewN k) := fun k => Parts_same w2 Mb Sb T [] _ _ hi.sm k
  have hnp : (Sm.new a b c).np = (a - 1) / ea + 1 := by rw [HEa.out]; rfl
  rw [hnp] at HPa
  obtain ⟨np, hnpe⟩ : ∃ np, np = (a - 1) / ea + 1 := ⟨_, rfl⟩
  rw [← hnpe] at HPa
  have hq : ((a : Int) + (ea : Int) - 1) / (ea : Int) = (np : Int) := by
    have h1 : ((a : Int) + (ea : Int) - 1) = ((a - 1 + ea : Nat) : Int) := by omega
    rw [h1, ← Int.natCast_ediv, Nat.add_div_right _ (by omega), hnpe]
  have hnp6 : np ≤ 16384 := by have := Nat.div_le_self (a - 1) ea; omega
  have hv1 : IntKind.i64.wrap (ea : Int) = ea := by rw [IntKind.wrap_i64]; omega
  have hv2 : IntKind.i64.wrap ((a : Int) + ea) = a + ea := by rw [IntKind.wrap_i64]; omega
  have hv3 : IntKind.i64.wrap ((a : Int) + ea - 1) = a + ea - 1 := by rw [IntKind.wrap_i64]; omega
  have hv4 : IntKind.i64.wrap (np : Int) = np := by rw [IntKind.wrap_i64]; omega
  clear hi hb2' hnp hnpe HBe
  go_wp2_with fail
  go_quiet ((go_at_call 18; exact Calls.quiet_of_same (HPa.out _)))
  clear hq hv1 hv2 hv3 hv4 hbe hb4 c4 HPa
  have HW2 : Hid (Wst w1.heap.size (w2.drewN nq) Wb Sb Hb a b c 0 0) := ⟨Mb, T, [], Sm.new a b c, sh0, fun _ => 0, HI.out.below (below_drewN0 (Below.refl _ _) _), ⟨rfl, rfl, rfl⟩, rfl, by simp [sh0], by simp [Sm.new]⟩
  have HB3 : Hid (Below W.heap.size W (w2.drewN nq)) := below_drewN0 HB2.out _
  generalize w2.drewN nq = w3 at *
  clear HI HB2
  go_wp2
  go_loopw [12] (fun v wr => ∃ k : Nat, v = .int .i64 k ∧ k ≤ n ∧ Wst w1.heap.size wr Wb Sb Hb a b c (k * k + k) (2 * k) ∧ Below W.heap.size W wr) (fun v _ => n - (intOf v).toNat)
  case atStart => exact ⟨0, rfl, by omega, HW2.out, HB3.out⟩
  case round =>
    obtain ⟨k, rfl, hk, hw, hb⟩ := hrel
    have HW := Lib.hid hw
    have HB := Lib.hid hb
    clear hw hb HW2 HB3
    by_cases hkn : k < n
    · have hkk : k * k ≤ 39601 := Nat.mul_le_mul (show k ≤ 199 by omega) (show k ≤ 199 by omega)
      obtain ⟨bb, off, rfl⟩ := HAc.out.addr (show 0 < n by omega)
      have y0 := keep_below HB.out _ _ (HAc.out.cells k 0 hkn (by omega))
      have y1 := keep_below HB.out _ _ (HAc.out.cells k 1 hkn (by omega))
      have y2 := keep_below HB.out _ _ (HAc.out.cells k 2 hkn (by omega))
      have y3 := keep_below HB.out _ _ (HAc.out.cells k 3 hkn (by omega))
      rw [Nat.add_zero] at y0
      rw [← Nat.add_assoc] at y1 y2 y3
      have HSt := Lib.hid (step_any wr w1.heap.size Wb Sb Hb a b c (k * k + k) (2 * k) HW.out (by omega) ha2 ⟨f k 0, f k 1, f k 2, f k 3⟩)
      generalize f k 0 = f0 at *
      generalize f k 1 = f1 at *
      generalize f k 2 = f2 at *
      generalize f k 3 = f3 at *
      clear hkk
      go_wp2_with fail
      refine HSt.out.mono ?_
      rintro e w4 ⟨rfl, hw4, hb4⟩
      have HW4 : Hid (Wst w1.heap.size w4 Wb Sb Hb a b c ((k + 1) * (k + 1) + (k + 1)) (2 * (k + 1))) := hw4.mono (by rw [Nat.add_mul, Nat.mul_add]; omega) (by omega)
      have HB4 : Hid (Below W.heap.size W w4) := HB.out.trans (hb4.mono HBz.out)
      clear hw4 hb4 y0 y1 y2 y3 HSt
      go_wp2
      go_roundw
      case rel => exact ⟨k + 1, by go_num, by omega, HW4.out, HB4.out⟩
      case measure => simp [intOf]; omega
    · obtain rfl : k = n := by omega
      have HW4 : Hid (Wst w1.heap.size wr Wb Sb Hb a b c 40200 400) := HW.out.mono (by have := Nat.mul_le_mul hn hn; omega) (by omega)
      obtain ⟨q, hq⟩ : ∃ q : Nat, (a : Int) / 300 = (q : Int) := ⟨a / 300, by omega⟩
      have hq6 : q ≤ 55 := by omega
      clear HW
      go_wp2
      go_loopw [13] (fun v wr => ∃ i : Nat, v = .int .i64 i ∧ i ≤ 17000 ∧ Wst w1.heap.size wr Wb Sb Hb a b c (40200 + i) (400 + i) ∧ Below W.heap.size W wr) (fun v _ => a - (intOf v).toNat)
      case atStart => exact ⟨0, rfl, by omega, HW4.out, HB.out⟩
      case round =>
        obtain ⟨i, rfl, hi, hw, hb⟩ := hrel
        have HWx := Lib.hid hw
        have HBx := Lib.hid hb
        clear hw hb HW4 HB
        by_cases hia : i < a
        · have HG := Lib.hid (wget_any wr w1.heap.size Wb Sb Hb a b c _ _ HWx.out (by omega) i)
          go_wp2_with fail
          refine HG.out.mono ?_
          rintro e w5 ⟨rfl, hw5, hb5⟩
          have HW5 : Hid (Wst w1.heap.size w5 Wb Sb Hb a b c (40200 + (i + 1 + q)) (400 + (i + 1 + q))) := hw5.mono (by omega) (by omega)
          have HB5 : Hid (Below W.heap.size W w5) := HBx.out.trans (hb5.mono HBz.out)
          clear hw5 hb5 HG
          go_wp2
          go_roundw
          case rel => exact ⟨i + 1 + q, by go_num, by omega, HW5.out, HB5.out⟩
          case measure => simp [intOf]; omega
        · clear hq
          go_wp2
          go_ret
          exact ⟨rfl, HBx.out⟩
set_option maxRecDepth 100000 in
set_option maxHeartbeats 4000000 in
theorem plays_long (a b c : Int) (A : Option Addr) (n cap : Nat) (W : World) (hn : 200 < n) (hn6 : n ≤ 9223372036854775807) :
    Calls Try.prog 5 #[.int .i64 a, .int .i64 b, .int .i64 c, .slice A n cap] W fun e w' => e = .returned (.bool true) ∧ Below W.heap.size W w' := by
  have HK := Lib.hid (known_any W)
  go_enter Try.func5, Try.ntmps5
  go_wp2_with fail
  refine HK.out.mono ?_
  rintro e w1 ⟨rfl, hb1'⟩
  have HB1 := Lib.hid hb1'
  clear hb1' HK
  go_wp2; go_ret; exact ⟨rfl, HB1.out⟩
set_option maxRecDepth 100000 in
set_option maxHeartbeats 4000000 in
theorem plays_no (a b c : Int) (h : ¬ shapeB a b c) (A : Option Addr) (n cap : Nat) (W : World) (hn : n ≤ 200) :
    Calls Try.prog 5 #[.int .i64 a, .int .i64 b, .int .i64 c, .slice A n cap] W fun e w' => e = .returned (.bool true) ∧ Below W.heap.size W w' := by
  have HK := Lib.hid (known_any W)
  have HNo : Hid (∀ u v, Calls Try.prog 17 #[.int .i64 a, .int .i64 b, .int .i64 c, v] u fun e w' => e = .returned (.tuple #[.pointer none, .int .i64 1]) ∧ Below u.heap.size u w') := fun u v => New_no u a b c v h
  unfold shapeB at h
  by_cases h1 : 1 ≤ a
  · by_cases h2 : a ≤ 16384
    · by_cases h3 : 16 ≤ b
      · by_cases h4 : b ≤ 4096
        · by_cases h5 : b % 4 = 0
          · by_cases h6 : 1 ≤ c
            · have h7 : ¬ c ≤ 4096 := fun h7 => h ⟨⟨h1, h2⟩, ⟨h3, h4, h5⟩, h6, h7⟩
              clear h
              go_enter Try.func5, Try.ntmps5
              go_wp2_with fail
              refine HK.out.mono ?_
              rintro e w1 ⟨rfl, hb1'⟩
              have HB1 := Lib.hid hb1'
              clear hb1' HK
              go_wp2_with fail
              refine (NewShelf_any w1).mono ?_
              rintro e w2 ⟨rfl, _, hb2'⟩
              have HB2 : Hid (Below W.heap.size W w2) := HB1.out.trans (hb2'.mono HB1.out.size)
              clear hb2'
              go_wp2_with fail
              refine (HNo.out w2 _).mono ?_
              rintro e w3 ⟨rfl, hb3'⟩
              have HB3 : Hid (Below W.heap.size W w3) := HB2.out.trans (hb3'.mono HB2.out.size)
              clear hb3' HNo
              go_wp2
              go_ret
              exact ⟨by first | (simp; done) | rfl, HB3.out⟩
            · clear h
              go_enter Try.func5, Try.ntmps5
              go_wp2_with fail
              refine HK.out.mono ?_
              rintro e w1 ⟨rfl, hb1'⟩
              have HB1 := Lib.hid hb1'
              clear hb1' HK
              go_wp2_with fail
              refine (NewShelf_any w1).mono ?_
              rintro e w2 ⟨rfl, _, hb2'⟩
              have HB2 : Hid (Below W.heap.size W w2) := HB1.out.trans (hb2'.mono HB1.out.size)
              clear hb2'
              go_wp2_with fail
              refine (HNo.out w2 _).mono ?_
              rintro e w3 ⟨rfl, hb3'⟩
              have HB3 : Hid (Below W.heap.size W w3) := HB2.out.trans (hb3'.mono HB2.out.size)
              clear hb3' HNo
              go_wp2
              go_ret
              exact ⟨by first | (simp; done) | rfl, HB3.out⟩
          · clear h
            go_enter Try.func5, Try.ntmps5
            go_wp2_with fail
            refine HK.out.mono ?_
            rintro e w1 ⟨rfl, hb1'⟩
            have HB1 := Lib.hid hb1'
            clear hb1' HK
            go_wp2_with fail
            refine (NewShelf_any w1).mono ?_
            rintro e w2 ⟨rfl, _, hb2'⟩
            have HB2 : Hid (Below W.heap.size W w2) := HB1.out.trans (hb2'.mono HB1.out.size)
            clear hb2'
            go_wp2_with fail
            refine (HNo.out w2 _).mono ?_
            rintro e w3 ⟨rfl, hb3'⟩
            have HB3 : Hid (Below W.heap.size W w3) := HB2.out.trans (hb3'.mono HB2.out.size)
            clear hb3' HNo
            go_wp2
            go_ret
            exact ⟨by first | (simp; done) | rfl, HB3.out⟩
        · clear h
          go_enter Try.func5, Try.ntmps5
          go_wp2_with fail
          refine HK.out.mono ?_
          rintro e w1 ⟨rfl, hb1'⟩
          have HB1 := Lib.hid hb1'
          clear hb1' HK
          go_wp2_with fail
          refine (NewShelf_any w1).mono ?_
          rintro e w2 ⟨rfl, _, hb2'⟩
          have HB2 : Hid (Below W.heap.size W w2) := HB1.out.trans (hb2'.mono HB1.out.size)
          clear hb2'
          go_wp2_with fail
          refine (HNo.out w2 _).mono ?_
          rintro e w3 ⟨rfl, hb3'⟩
          have HB3 : Hid (Below W.heap.size W w3) := HB2.out.trans (hb3'.mono HB2.out.size)
          clear hb3' HNo
          go_wp2
          go_ret
          exact ⟨by first | (simp; done) | rfl, HB3.out⟩
      · clear h
        go_enter Try.func5, Try.ntmps5
        go_wp2_with fail
        refine HK.out.mono ?_
        rintro e w1 ⟨rfl, hb1'⟩
        have HB1 := Lib.hid hb1'
        clear hb1' HK
        go_wp2_with fail
        refine (NewShelf_any w1).mono ?_
        rintro e w2 ⟨rfl, _, hb2'⟩
        have HB2 : Hid (Below W.heap.size W w2) := HB1.out.trans (hb2'.mono HB1.out.size)
        clear hb2'
        go_wp2_with fail
        refine (HNo.out w2 _).mono ?_
        rintro e w3 ⟨rfl, hb3'⟩
        have HB3 : Hid (Below W.heap.size W w3) := HB2.out.trans (hb3'.mono HB2.out.size)
        clear hb3' HNo
        go_wp2
        go_ret
        exact ⟨by first | (simp; done) | rfl, HB3.out⟩
    · clear h
      go_enter Try.func5, Try.ntmps5
      go_wp2_with fail
      refine HK.out.mono ?_
      rintro e w1 ⟨rfl, hb1'⟩
      have HB1 := Lib.hid hb1'
      clear hb1' HK
      go_wp2_with fail
      refine (NewShelf_any w1).mono ?_
      rintro e w2 ⟨rfl, _, hb2'⟩
      have HB2 : Hid (Below W.heap.size W w2) := HB1.out.trans (hb2'.mono HB1.out.size)
      clear hb2'
      go_wp2_with fail
      refine (HNo.out w2 _).mono ?_
      rintro e w3 ⟨rfl, hb3'⟩
      have HB3 : Hid (Below W.heap.size W w3) := HB2.out.trans (hb3'.mono HB2.out.size)
      clear hb3' HNo
      go_wp2
      go_ret
      exact ⟨by first | (simp; done) | rfl, HB3.out⟩
  · clear h
    go_enter Try.func5, Try.ntmps5
    go_wp2_with fail
    refine HK.out.mono ?_
    rintro e w1 ⟨rfl, hb1'⟩
    have HB1 := Lib.hid hb1'
    clear hb1' HK
    go_wp2_with fail
    refine (NewShelf_any w1).mono ?_
    rintro e w2 ⟨rfl, _, hb2'⟩
    have HB2 : Hid (Below W.heap.size W w2) := HB1.out.trans (hb2'.mono HB1.out.size)
    clear hb2'
    go_wp2_with fail
    refine (HNo.out w2 _).mono ?_
    rintro e w3 ⟨rfl, hb3'⟩
    have HB3 : Hid (Below W.heap.size W w3) := HB2.out.trans (hb3'.mono HB2.out.size)
    clear hb3' HNo
    go_wp2
    go_ret
    exact ⟨by first | (simp; done) | rfl, HB3.out⟩
theorem plays_walk (a b c : Int) (A : Option Addr) (n cap : Nat) (f : Nat → Nat → Int) (W : World) (hA : Acts W A n 4 f) (hcap : n ≤ cap) (hm : cap ≤ maxLen) :
    Calls Try.prog 5 #[.int .i64 a, .int .i64 b, .int .i64 c, .slice A n cap] W fun e w' => e = .returned (.bool true) ∧ Below W.heap.size W w' := by
  unfold maxLen at hm
  by_cases hn : n ≤ 200
  · by_cases h : shapeB a b c
    · obtain ⟨h1, h2, h3⟩ := id h
      obtain ⟨a, rfl⟩ : ∃ x : Nat, a = x := ⟨a.toNat, by omega⟩
      obtain ⟨b, rfl⟩ : ∃ x : Nat, b = x := ⟨b.toNat, by omega⟩
      obtain ⟨c, rfl⟩ : ∃ x : Nat, c = x := ⟨c.toNat, by omega⟩
      exact plays_in a b c (by omega) (by omega) (by omega) A n cap f W hA hn hcap
    · exact plays_no a b c h A n cap W hn
  · exact plays_long a b c A n cap W (by omega) (by omega)
end Go.Proofs.Ytfipmpajdkgffaa

namespace Go.Proofs.Ytfipmpajdkgffaa
open Go.RowKit Go.MapKept Go.ChangeMaps
set_option linter.unusedVariables false
set_option linter.unusedSimpArgs false

def Sh.fullAt (sh : Sh) (r : Int) : Sh := { sh with full := r }
theorem ShIs.setFull {w : World} {Sb : Nat} {T F : List Nat} {sh : Sh} (h : ShIs w Sb T F sh) (hTF : ∀ q ∈ F, q ∉ T) (r : Int) : ShIs (w.setCell ⟨Sb, 2, none⟩ (.int .i64 r)) Sb T F (sh.fullAt r) := by
  obtain ⟨v1, v2, xs, h1, h2, h3, h4, h5, h6⟩ := h.at'
  have ht : Turns w (w.setCell ⟨Sb, 2, none⟩ (.int .i64 r)) [Sb] := (Turns.refl _ _).setCell (by simp) _
  have hno : ∀ (v : Value) (e : TypeId) (n : Nat) (ys : List Value), w.ownsRow 0 e 1 v n ys → e ≠ 56 → ∀ g, v.ownBlock = some g → g ∉ [Sb] := fun v e n ys ho he g hg hm => by
    rw [List.mem_singleton.1 hm] at hg
    rcases ho.2 with ⟨e1, _⟩ | ⟨g', cap, cu, e1, _, hr', _⟩
    · rw [e1] at hg; cases hg
    · rw [e1] at hg
      injection hg with hg
      exact Row.ne_type (show Row w g' _ cu from hr') h1 he hg
  refine ⟨⟨v1, v2, xs, ?_, ht.own h2 (hno _ _ _ _ h2 (by decide)), ht.own h3 (hno _ _ _ _ h3 (by decide)), h4, h5, fun i d hd => ?_⟩, h.mem, h.small, h.same⟩
  · show Row _ Sb _ #[v1, v2, .int .i64 r]
    simpa using h1.put 2 (.int .i64 r)
  · obtain ⟨A, c, h7, h8, h9⟩ := h6 i d hd
    exact ⟨A, c, h7, cells8_turns h8 ht (fun a ha h0 hm => hTF _ (h9 a ha h0) (by rw [List.mem_singleton.1 hm]; exact h.mem)), h9⟩
theorem SmAt.setFull {w : World} {Mb Sb Q Db : Nat} {P pb : Nat → Nat} {T F : List Nat} {S : Sm} {sh : Sh} (h : SmAt w Mb Sb Q Db P pb T F S sh) (r : Int) : SmAt (w.setCell ⟨Sb, 2, none⟩ (.int .i64 r)) Mb Sb Q Db P pb T F S (sh.fullAt r) := by
  have ht : Turns w (w.setCell ⟨Sb, 2, none⟩ (.int .i64 r)) [Sb] := (Turns.refl _ _).setCell (by simp) _
  obtain ⟨⟨_, _, k1, _, k2, k3⟩, hk⟩ := h.kinds
  obtain ⟨cs, d1, d2, d3⟩ := h.dir
  obtain ⟨f, m1, m2⟩ := h.map
  refine ⟨ht.row h.row (by simpa using k1), ⟨cs, ht.row d1 (by simpa using k3), d2, d3⟩, ⟨f, m1.turns ht (by simpa using k2), m2⟩, fun n x hx => ?_, h.inj, h.shelf.setFull h.apart r, h.mem, h.apart, fun q hq => by simpa using h.lt q hq, h.sh⟩
  obtain ⟨a, b, c', d'⟩ := h.part n x hx
  obtain ⟨p1, p2, _⟩ := hk n x hx
  exact ⟨a, b.keep ht (by simpa using p1.2.2.2) (by simpa using p2.2.2.2), c', d'⟩
theorem Pw.setFull {S : Sm} {sh : Sh} {hs : Nat → Nat} (h : Pw S sh hs) (r : Int) (hr : -1 ≤ r ∧ r ≤ 1048576) : Pw S (sh.fullAt r) hs :=
  ⟨⟨h.wl.ok, h.wl.clean, h.wl.len, h.wl.same, h.wl.held, hr, h.wl.page⟩, h.nw, h.vals, h.few, h.sec, h.out⟩
theorem WdIs.setFull {w : World} {B Wb Mb Sb Hb : Nat} {T F : List Nat} {S : Sm} {sh : Sh} {hs : Nat → Nat} (h : WdIs w B Wb Mb Sb Hb T F S sh hs) (r : Int) (hr : -1 ≤ r ∧ r ≤ 1048576) :
    (∃ v, w.cell? ⟨Sb, 2, none⟩ = some v) ∧ w.frozen? ⟨Sb, 2, none⟩ = false ∧ WdIs (w.setCell ⟨Sb, 2, none⟩ (.int .i64 r)) B Wb Mb Sb Hb T F S (sh.fullAt r) hs ∧ B ≤ Sb := by
  obtain ⟨Q, Db, P, pb, ha⟩ := h.sm
  obtain ⟨v1, v2, xs, h1, _⟩ := ha.shelf.at'
  have ht : Turns w (w.setCell ⟨Sb, 2, none⟩ (.int .i64 r)) [Sb] := (Turns.refl _ _).setCell (by simp) _
  have hm := ha.shelf.mem
  refine ⟨⟨_, h1.cell 2⟩, h1.frozen 2, ⟨ht.row h.row (fun hk => h.sepW.1 (by rw [List.mem_singleton.1 hk]; exact hm)), ⟨Q, Db, P, pb, ha.setFull r⟩, h.has.turns ht (fun hk => h.sepH.1 (by rw [List.mem_singleton.1 hk]; exact hm)), h.sepW, h.sepH, h.low, h.pw.setFull r hr⟩, h.low.2.2 Sb hm⟩
/-- A law's World, behind some acts; its shelf may be full. -/
def Wsf (B : Nat) (w : World) (Wb Sb Hb sec pg hd p c : Nat) : Prop := ∃ Mb T F S sh hs, WdIs w B Wb Mb Sb Hb T F S sh hs ∧ (S.sectors = sec ∧ S.page = pg ∧ S.held = hd) ∧ sh.L.length ≤ p ∧ S.cnt ≤ c
theorem Wsf.below {w w' : World} {B Wb Sb Hb sec pg hd p c : Nat} (h : Wsf B w Wb Sb Hb sec pg hd p c) (hb : Below w.heap.size w w') : Wsf B w' Wb Sb Hb sec pg hd p c := by
  obtain ⟨Mb, T, F, S, sh, hs, g1, g2⟩ := h
  exact ⟨Mb, T, F, S, sh, hs, g1.below hb, g2⟩
theorem Wst.wsf {w : World} {B Wb Sb Hb sec pg hd p c : Nat} (h : Wst B w Wb Sb Hb sec pg hd p c) (r : Int) (hr : -1 ≤ r ∧ r ≤ 1048576) : (∃ v, w.cell? ⟨Sb, 2, none⟩ = some v) ∧ w.frozen? ⟨Sb, 2, none⟩ = false ∧ w.cell? ⟨Wb, 3, none⟩ = some (.pointer (some ⟨Sb, 0, none⟩)) ∧ Wsf B (w.setCell ⟨Sb, 2, none⟩ (.int .i64 r)) Wb Sb Hb sec pg hd p c ∧ B ≤ Sb := by
  obtain ⟨Mb, T, F, S, sh, hs, g1, g2, g3, g4, g5⟩ := h
  obtain ⟨h1, h2, h3, h4⟩ := g1.setFull r hr
  exact ⟨h1, h2, g1.row.cell 3, ⟨Mb, T, F, S, _, hs, h3, g2, g4, g5⟩, h4⟩
theorem Wsf.wst {w : World} {B Wb Sb Hb sec pg hd p c : Nat} (h : Wsf B w Wb Sb Hb sec pg hd p c) : (∃ v, w.cell? ⟨Sb, 2, none⟩ = some v) ∧ w.frozen? ⟨Sb, 2, none⟩ = false ∧ w.cell? ⟨Wb, 3, none⟩ = some (.pointer (some ⟨Sb, 0, none⟩)) ∧ Wst B (w.setCell ⟨Sb, 2, none⟩ (.int .i64 (-1))) Wb Sb Hb sec pg hd p c ∧ B ≤ Sb := by
  obtain ⟨Mb, T, F, S, sh, hs, g1, g2, g4, g5⟩ := h
  obtain ⟨h1, h2, h3, h4⟩ := g1.setFull (-1) (by omega)
  exact ⟨h1, h2, g1.row.cell 3, ⟨Mb, T, F, S, _, hs, h3, g2, rfl, g4, g5⟩, h4⟩
/-- Set, on a shelf that may be full. -/
def FSetP (u : World) (B Wb Mb Sb Hb : Nat) (T F : List Nat) (S : Sm) (sh : Sh) (hs : Nat → Nat) (s v : Nat) (e : Ending) (w' : World) : Prop :=
  (e = .returned (.int .i64 0) ∧ ∃ S2 sh2, SmTo u w' Mb Sb T F S2 sh2 ∧ Sets s v 1 1 S sh S2 sh2) ∨
  (e = .returned (.int .i64 3) ∧ ∃ T' F' S2 sh2, WdIs w' B Wb Mb Sb Hb T' F' S2 sh2 hs ∧ (S2.sectors = S.sectors ∧ S2.page = S.page ∧ S2.held = S.held) ∧ sh2.L.length ≤ sh.L.length ∧ S2.cnt ≤ S.cnt)
theorem full_set {u : World} {B Wb Mb Sb Hb : Nat} {T F : List Nat} {S : Sm} {sh : Sh} {hs : Nat → Nat} (h : WdIs u B Wb Mb Sb Hb T F S sh hs) (s b p : Nat) (hss : s < S.sectors) (hb : b < 1024) (hp : p < 256) (hl : sh.L.length ≤ 262143) :
    Calls Try.prog 11 #[.pointer (some ⟨Mb, 0, none⟩), .int .i64 s, .agg #[.int .i64 b, .int .i64 p]] u fun e w' => FSetP u B Wb Mb Sb Hb T F S sh hs s (b * 256 + p + 1) e w' ∧ Turns u w' T := by
  refine (Set_any u Mb Sb T F S sh h.sm s b p hss hb hp hl h.pw.wl).mono fun e w' hp => ?_
  rcases hp with ⟨he, _, S2, sh2, hto, hset⟩ | ⟨c, he, hc, S2, sh2, hto, hg⟩
  · refine ⟨.inl ⟨he, S2, sh2, hto, hset⟩, ?_⟩
    obtain ⟨_, _, _, h2, _⟩ := hto
    exact h2
  · have hc3 : c = 3 := by
      rcases hc with ⟨_, h1⟩ | ⟨h1, _⟩
      · obtain ⟨z, hz⟩ := h.pw.tellsS hss
        rw [hz] at h1; cases h1
      · exact h1
    subst hc3
    obtain ⟨T', F', h1, h2, _, _⟩ := h.to hto hg.sectors hg.page hg.held (h.pw.goes hg)
    exact ⟨.inr ⟨he, T', F', S2, sh2, h1, ⟨hg.sectors, hg.page, hg.held⟩, hg.puts.2, hg.cnt⟩, h2⟩
end Go.Proofs.Ytfipmpajdkgffaa

namespace Go.Proofs.Ytfipmpajdkgffaa
open Go.RowKit Go.MapKept Go.ChangeMaps
attribute [local go_sem] Oper.semAt_some
attribute [local simp, local go_sem] wide_fn
set_option linter.unusedVariables false
set_option linter.unusedSimpArgs false

/-- A map, all of it from block B on, over a shelf that takes whatever is put. -/
def Mst (B : Nat) (w : World) (Mb sec pg hd p c : Nat) : Prop := ∃ Sb T F S sh, SmIs w Mb Sb T F S sh ∧ Wl S sh ∧ sh.full = -1 ∧ (∀ q ∈ T, B ≤ q) ∧ B ≤ w.heap.size ∧ (S.sectors = sec ∧ S.page = pg ∧ S.held = hd) ∧ sh.L.length ≤ p ∧ S.cnt ≤ c
section
variable {B Mb sec pg hd p c : Nat} {w w' : World}
theorem Mst.below (h : Mst B w Mb sec pg hd p c) (hb : Below w.heap.size w w') : Mst B w' Mb sec pg hd p c := by
  obtain ⟨Sb, T, F, S, sh, h1, h2, h3, h4, h5, h6⟩ := h
  exact ⟨Sb, T, F, S, sh, h1.below hb, h2, h3, h4, Nat.le_trans h5 hb.size, h6⟩
theorem Mst.mono {p' c' : Nat} (h : Mst B w Mb sec pg hd p c) (h1 : p ≤ p') (h2 : c ≤ c') : Mst B w Mb sec pg hd p' c' := by
  obtain ⟨Sb, T, F, S, sh, g1, g2, g3, g4, g5, g6, g7, g8⟩ := h
  exact ⟨Sb, T, F, S, sh, g1, g2, g3, g4, g5, g6, by omega, by omega⟩
theorem mst_to {Sb : Nat} {T F : List Nat} {S' : Sm} {sh' : Sh} (hto : SmTo w w' Mb Sb T F S' sh') (hw : Wl S' sh') (hf : sh'.full = -1) (hT : ∀ q ∈ T, B ≤ q) (hB : B ≤ w.heap.size) (hs : S'.sectors = sec ∧ S'.page = pg ∧ S'.held = hd) (hp : sh'.L.length ≤ p) (hc : S'.cnt ≤ c) : Mst B w' Mb sec pg hd p c ∧ Below B w w' := by
  obtain ⟨T', F', h1, h2, h3, h4⟩ := hto
  exact ⟨⟨Sb, T', F', S', sh', h1, hw, hf, fun q hq => (h3 q hq).elim (hT q) (fun h => Nat.le_trans hB h), Nat.le_trans hB h2.size, hs, hp, hc⟩, h2.below (Below.refl _ _) hB hT⟩
/-- What a sector is told is a place that may be. -/
theorem val_few {S : Sm} {sh : Sh} (h : Wl S sh) {s v : Nat} (hv : val S sh s = some v) : v ≤ 262144 := by
  obtain ⟨h1, h2⟩ := each_pos h
  unfold val at hv
  cases hb : told S sh (s / S.each) with
  | none => rw [hb] at hv; cases hv
  | some b =>
    rw [hb] at hv
    simp only [Option.map_some, Option.some.injEq] at hv
    have hok := told_len h hb
    have hm := Nat.mod_lt s (show 0 < S.each by omega)
    have := hok.2 (s % S.each) (show s % S.each < S.page / 4 from hm)
    rw [Nat.mul_comm] at this
    omega
theorem Mst.get (h : Mst B w Mb sec pg hd p c) (hp : p ≤ 262143) (s : Int) :
    Calls Try.prog 12 #[.pointer (some ⟨Mb, 0, none⟩), .int .i64 s] w fun e w' => (∃ (v : Nat) (z : Int), e = .returned (.tuple #[numV v, .bool (decide (v ≠ 0)), .int .i64 z]) ∧ v ≤ 262144 ∧ (z ≠ 0 → v = 0)) ∧ Mst B w' Mb sec pg hd (p + 1) (c + 1) ∧ Below B w w' := by
  obtain ⟨Sb, T, F, S, sh, h1, h2, h3, h4, h5, h6, h7, h8⟩ := h
  by_cases hin : 0 ≤ s ∧ s < S.sectors
  · obtain ⟨k, rfl⟩ : ∃ k : Nat, s = k := ⟨s.toNat, by omega⟩
    refine (Get_any w Mb Sb T F S sh h1 k (by omega) (by omega) h2).mono fun e w' hp' => ?_
    rcases hp' with ⟨v, hv, he, S', sh', hto, hg⟩ | ⟨z, he, hz, S', sh', hto, hg⟩
    · exact ⟨⟨v, 0, he, val_few h2 hv, fun h => absurd rfl h⟩, mst_to hto hg.wl (by have := hg.full; omega) h4 h5 ⟨hg.sectors.trans h6.1, hg.page.trans h6.2.1, hg.held.trans h6.2.2⟩ (by have := hg.puts.2; omega) (by have := hg.cnt; omega)⟩
    · exact ⟨⟨0, z, he, by omega, fun _ => rfl⟩, mst_to hto hg.wl (by have := hg.full; omega) h4 h5 ⟨hg.sectors.trans h6.1, hg.page.trans h6.2.1, hg.held.trans h6.2.2⟩ (by have := hg.puts.2; omega) (by have := hg.cnt; omega)⟩
  · refine (Get_out w Mb Sb T F S sh h1 s (by omega)).mono fun e w' ⟨he, hb⟩ => ?_
    exact ⟨⟨0, 1, he, by omega, fun _ => rfl⟩, (Mst.below ⟨Sb, T, F, S, sh, h1, h2, h3, h4, h5, h6, h7, h8⟩ hb).mono (by omega) (by omega), hb.mono h5⟩
theorem Mst.set (h : Mst B w Mb sec pg hd p c) (hp : p ≤ 262143) (s : Int) (b q : Nat) (hb : b < 1024) (hq : q < 256) :
    Calls Try.prog 11 #[.pointer (some ⟨Mb, 0, none⟩), .int .i64 s, .agg #[.int .i64 b, .int .i64 q]] w fun e w' => (∃ z : Int, e = .returned (.int .i64 z)) ∧ Mst B w' Mb sec pg hd (p + 1) (c + 1) ∧ Below B w w' := by
  obtain ⟨Sb, T, F, S, sh, h1, h2, h3, h4, h5, h6, h7, h8⟩ := h
  by_cases hin : 0 ≤ s ∧ s < S.sectors
  · obtain ⟨k, rfl⟩ : ∃ k : Nat, s = k := ⟨s.toNat, by omega⟩
    refine (Set_any w Mb Sb T F S sh h1 k b q (by omega) hb hq (by omega) h2).mono fun e w' hp' => ?_
    rcases hp' with ⟨he, _, S', sh', hto, hg⟩ | ⟨z, he, hz, S', sh', hto, hg⟩
    · exact ⟨⟨0, he⟩, mst_to hto hg.wl (by have := hg.full; omega) h4 h5 ⟨hg.sectors.trans h6.1, hg.page.trans h6.2.1, hg.held.trans h6.2.2⟩ (by have := hg.puts.2; omega) (by have := hg.cnt; omega)⟩
    · exact ⟨⟨z, he⟩, mst_to hto hg.wl (by have := hg.full; omega) h4 h5 ⟨hg.sectors.trans h6.1, hg.page.trans h6.2.1, hg.held.trans h6.2.2⟩ (by have := hg.puts.2; omega) (by have := hg.cnt; omega)⟩
  · refine (Set_arg w Mb Sb T F S sh h1 s b q (.inl (by omega))).mono fun e w' ⟨he, hb'⟩ => ?_
    exact ⟨⟨1, he⟩, (Mst.below ⟨Sb, T, F, S, sh, h1, h2, h3, h4, h5, h6, h7, h8⟩ hb').mono (by omega) (by omega), hb'.mono h5⟩
theorem Mst.flush (h : Mst B w Mb sec pg hd p c) (hp : p + c ≤ 262143) :
    Calls Try.prog 16 #[.pointer (some ⟨Mb, 0, none⟩)] w fun e w' => e = .returned (.int .i64 0) ∧ Mst B w' Mb sec pg hd (p + c) c ∧ Below B w w' := by
  obtain ⟨Sb, T, F, S, sh, h1, h2, h3, h4, h5, h6, h7, h8⟩ := h
  refine (Flush_any w Mb Sb T F S sh h1 (by omega) h3 h2).mono fun e w' ⟨he, S', sh', hto, hg, _⟩ => ?_
  exact ⟨he, mst_to hto hg.wl (by have := hg.full; omega) h4 h5 ⟨hg.sectors.trans h6.1, hg.page.trans h6.2.1, hg.held.trans h6.2.2⟩ (by have := hg.puts.2; omega) (by have := hg.cnt; omega)⟩
theorem Mst.held (h : Mst B w Mb sec pg hd p c) :
    Calls Try.prog 13 #[.pointer (some ⟨Mb, 0, none⟩)] w fun e w' => (∃ n : Nat, e = .returned (.int .i64 n) ∧ n ≤ hd) ∧ Below w.heap.size w w' := by
  obtain ⟨Sb, T, F, S, sh, h1, h2, h3, h4, h5, h6, h7, h8⟩ := h
  exact (Held_any w Mb Sb T F S sh h1).mono fun e w' ⟨he, hb⟩ => ⟨⟨_, he, by rw [← h6.2.2]; exact h2.held⟩, hb⟩
end
/-- A place that may be, as a value: 'right' says so. -/
theorem numV_right {v : Nat} (h : v ≤ 262144) : ∃ b p : Nat, numV v = .agg #[.int .i64 b, .int .i64 p] ∧ b < 1024 ∧ p < 256 ∧ (v = 0 → b = 0 ∧ p = 0) := by
  by_cases h0 : v = 0
  · subst h0; exact ⟨0, 0, rfl, by decide, by decide, fun _ => ⟨rfl, rfl⟩⟩
  · exact ⟨(v - 1) / 256, (v - 1) % 256, by unfold numV; rw [if_neg h0, if_neg h0], by omega, by omega, fun h => absurd h h0⟩
end Go.Proofs.Ytfipmpajdkgffaa
