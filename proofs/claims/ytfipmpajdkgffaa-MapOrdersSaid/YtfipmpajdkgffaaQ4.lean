/- What follows is laid together from several texts of mine, in their order. -/
import Derived.Test.YtfipmpajdkgffaaQ3

namespace Go.Proofs.Ytfipmpajdkgffaa
open Go.RowKit Go.MapKept Go.ChangeMaps
attribute [local go_sem] Oper.semAt_some
attribute [local simp, local go_sem] wide_fn
set_option linter.unusedVariables false
set_option linter.unusedSimpArgs false
/-- An act. -/
structure Ac where
  op : Int
  s : Int
  b : Int
  p : Int
def Ac.row (x : Ac) : Array Value := #[.int .i64 x.op, .int .i64 x.s, .int .i64 x.b, .int .i64 x.p]
def Ac.val (x : Ac) : Value := .agg #[.int .i64 x.op, .int .i64 x.s, .int .i64 x.b, .int .i64 x.p]
/-- What the end of a step calls. -/
theorem end_calls {u0 : World} {B Wb Mb Sb Hb : Nat} {T F : List Nat} {S : Sm} {sh : Sh} {hs : Nat → Nat} (h : WdIs u0 B Wb Mb Sb Hb T F S sh hs) (hf : sh.full = -1) (hl : sh.L.length ≤ 262143) (s : Int) (u : World) (hb : Below u0.heap.size u0 u) :
    (Calls Try.prog 13 #[.pointer (some ⟨Mb, 0, none⟩)] u fun e w' => e = .returned (.int .i64 S.cnt) ∧ Below u.heap.size u w') ∧
    (Calls Try.prog 34 #[.pointer (some ⟨Mb, 0, none⟩)] u fun e w' => (∃ k : Nat, e = .returned (.int .i64 k) ∧ k ≤ S.cnt) ∧ Below u.heap.size u w') ∧
    (Calls Try.prog 20 #[.pointer (some ⟨Wb, 0, none⟩), .int .i64 s] u fun e w' => e = .returned (.bool true) ∧ WdM u0 w' B Wb Mb Sb Hb T F 1 1 S sh hs ∧ Turns u w' T) := by
  have hu := h.below hb
  have hh := h.pw.wl.held
  have hc : S.cnt ≤ 1073741824 := by
    obtain ⟨_, _, _, _, h1⟩ := h.sm
    have := h1.sh.2.2.2.2; omega
  refine ⟨Held_any u Mb Sb T F S sh hu.sm, (Dirty_any u Mb Sb T F S sh hu.sm hc).mono fun e w' ⟨⟨k, h1, h2, _⟩, h3⟩ => ⟨⟨k, h1, h2⟩, h3⟩, (get_any' u B Wb Mb Sb Hb T F S sh hs hu hf hl s).mono fun e w' ⟨h1, T', F', S', sh', h2, h3, h4, h5, h6⟩ => ⟨h1, ⟨T', F', S', sh', h2, (Turns.of_below hb T).trans h3 (fun q hq => .inl hq), fun q hq => (h4 q hq).imp (fun h => h) (fun h => Nat.le_trans hb.size h), fun q hq => (h5 q hq).imp (fun h => h) (fun h => Nat.le_trans hb.size h), h6⟩, h3⟩⟩
theorem WdTo.early {w u w' : World} {B Wb Sb Hb k c : Nat} {S : Sm} {sh : Sh} (h : WdTo u w' B Wb Sb Hb k c S sh) (hb : Below w.heap.size w u) (hB : B ≤ w.heap.size) : WdTo w w' B Wb Sb Hb k c S sh := by
  obtain ⟨Mb, T, F, S', sh', hs, h1, h2, h3⟩ := h
  exact ⟨Mb, T, F, S', sh', hs, h1, (hb.mono hB).trans h2, h3⟩
set_option maxRecDepth 100000 in
set_option maxHeartbeats 4000000 in
theorem step_get (w : World) (B Wb Mb Sb Hb : Nat) (T F : List Nat) (S : Sm) (sh : Sh) (hs : Nat → Nat) (h : WdIs w B Wb Mb Sb Hb T F S sh hs) (hf : sh.full = -1) (hl : sh.L.length ≤ 262143) (x : Ac) (hop : x.op ≠ 1 ∧ x.op ≠ 2 ∧ x.op ≠ 3 ∧ x.op ≠ 4 ∧ x.op ≠ 5) :
    Calls Try.prog 19 #[.pointer (some ⟨Wb, 0, none⟩), x.val] w fun e w' => e = .returned (.bool true) ∧ WdTo w w' B Wb Sb Hb 1 1 S sh := by
  obtain ⟨op, sc, pb, pp⟩ := x
  unfold Ac.val
  dsimp only at hop ⊢
  skip
  obtain ⟨w1, hw1⟩ : ∃ w1, w1 = w.alloc (.cells #[.int .i64 op, .int .i64 sc, .int .i64 pb, .int .i64 pp] 30) := ⟨_, rfl⟩
  have HB1 : Hid (Below w.heap.size w w1) := by unfold Hid; rw [hw1]; exact (Below.refl _ _).alloc (Nat.le_refl _) _
  obtain ⟨X, hX⟩ : ∃ X, X = w.heap.size := ⟨_, rfl⟩
  have HX : Hid (Row w1 X 30 #[.int .i64 op, .int .i64 sc, .int .i64 pb, .int .i64 pp]) := by unfold Hid; rw [hw1, hX]; exact Row.fresh _ _ _
  have HD := Lib.hid (h.below HB1.out)
  have HXT : Hid (X ∉ T) := fun hm => by
    obtain ⟨_, _, _, _, h1⟩ := h.sm
    have := h1.lt _ (.inl hm); omega
  have HXW : Hid (X ∉ F ∧ X ≠ Wb ∧ X ≠ Hb) := ⟨fun hm => by
    obtain ⟨_, _, _, _, h1⟩ := h.sm
    have := h1.lt _ (.inr hm); omega, by have := h.row.lt; omega, by have := h.has.lt; omega⟩
  have HBl := Lib.hid h.B_le
  have HFl := Lib.hid hf
  have HL := Lib.hid hl
  have x0 := HX.out.cell 0
  have x1 := HX.out.cell 1
  have c0 := HD.out.row.cell 0
  simp only [List.getElem?_toArray, List.getElem?_cons_zero, List.getElem?_cons_succ] at x0 x1 c0
  have hsec := h.sm.few
  obtain ⟨st, hst⟩ : ∃ st, st = S.sectors := ⟨_, rfl⟩
  obtain ⟨cn, hcn⟩ : ∃ cn, cn = S.cnt := ⟨_, rfl⟩
  have HCn := Lib.hid hcn
  clear hcn
  obtain ⟨hl0, hhl⟩ : ∃ hl0, hl0 = S.held := ⟨_, rfl⟩
  have HSt := Lib.hid hst
  have HHl := Lib.hid hhl
  rw [← hst] at c0 hsec
  have HX1 := Lib.hid hX
  rw [hX, hw1] at x0 x1
  rw [hw1] at c0
  have HW1 := Lib.hid hw1
  have HH := Lib.hid h
  clear h hf hl hst hhl hX hw1
  obtain ⟨o1, o2, o3, o4, o5⟩ := hop
  by_cases i0 : 0 ≤ sc
  · by_cases i1 : sc < st
    · skip
      go_enter Try.func19, Try.ntmps19
      go_wp2
      go_quiet (fail)
      go_wp2
      rw [← HW1.out]
      obtain ⟨u0, hu0⟩ : ∃ u0, u0 = w1.drewN nq := ⟨_, rfl⟩
      rw [← hu0]
      replace HD : Hid (WdIs u0 B Wb Mb Sb Hb T F S sh hs) := by unfold Hid; rw [hu0]; exact HD.out.below (below_drewN0 (Below.refl _ _) _)
      replace HX : Hid (Row u0 X 30 #[.int .i64 op, .int .i64 sc, .int .i64 pb, .int .i64 pp]) := by unfold Hid; rw [hu0]; exact HX.out
      replace HB1 : Hid (Below w.heap.size w u0) := by unfold Hid; rw [hu0]; exact below_drewN0 HB1.out _
      rw [← HX1.out]
      clear hu0 x0 x1 c0
      have k1 : ∀ t : Kept u0 T, t.u.cell? ⟨Wb, 4, none⟩ = some (.pointer (some ⟨Mb, 0, none⟩)) := fun t => (t.h.row HD.out.row HD.out.sepW.1).cell 4
      have k2 : ∀ t : Kept u0 T, t.u.cell? ⟨Wb, 2, none⟩ = some (.int .i64 hl0) := fun t => by rw [HHl.out]; exact (t.h.row HD.out.row HD.out.sepW.1).cell 2
      have k3 : ∀ t : Kept u0 T, t.u.cell? ⟨X, 1, none⟩ = some (.int .i64 sc) := fun t => (t.h.row HX.out HXT.out).cell 1
      have hS : ∃ t : Kept u0 T, World.drew u0 = t.u := ⟨⟨_, (Turns.refl _ _).drew⟩, rfl⟩
      have hmx : Try.prog.follows .mixedOrders = true := by kernel_rfl
      have hcl : cn ≤ hl0 := by rw [HCn.out, HHl.out]; exact HD.out.pw.wl.held
      have HHe : Hid (∀ u, Below (World.heap u0).size u0 u → Calls Try.prog 13 #[.pointer (some ⟨Mb, 0, none⟩)] u fun e w' => e = .returned (.int .i64 cn) ∧ Below u.heap.size u w') := fun u hu => by rw [HCn.out]; exact (end_calls HD.out HFl.out HL.out sc u hu).1
      have HDi : Hid (∀ u, Below (World.heap u0).size u0 u → Calls Try.prog 34 #[.pointer (some ⟨Mb, 0, none⟩)] u fun e w' => (∃ k : Nat, e = .returned (.int .i64 k) ∧ k ≤ cn) ∧ Below u.heap.size u w') := fun u hu => by rw [HCn.out]; exact (end_calls HD.out HFl.out HL.out sc u hu).2.1
      have HGe : Hid (∀ u, Below (World.heap u0).size u0 u → Calls Try.prog 20 #[.pointer (some ⟨Wb, 0, none⟩), .int .i64 sc] u fun e w' => e = .returned (.bool true) ∧ WdM u0 w' B Wb Mb Sb Hb T F 1 1 S sh hs ∧ Turns u w' T) := fun u hu => (end_calls HD.out HFl.out HL.out sc u hu).2.2
      refine wp_region_noPanic ?_
      refine region_treeW (fun u => ∃ t : Kept u0 T, u = t.u) (Tn.takes [0,1,2,3,5,6,7,8] (.one 4 (Tn.takes [9,10,11,12,13,14,16,17,18,19] (.one 15 (.one 20 (Tn.takes [21,22,23,24,25,26] (.one 27 (.take 28 (.take 29 .nil))))))))) hmx (by kernel_rfl) (fun _ _ _ _ _ h => h) hS ?_
      simp only [Tn.takes]
      (repeat ((with_reducible refine wpTree_take (by with_unfolding_all exact rfl) ?_); (with_reducible (show wpQuiet _ _ _ _ (_ :: _) _)); go_big_quiet_step (fail); (with_reducible refine wpQuiet_nil ?_)))
      (with_reducible refine wpTree_one (by with_unfolding_all exact rfl) ?_)
      gi_wp2_with fail
      refine ((callsIn_wide (n := 8)).2 (HHe.out _ ((Below.refl _ _).drew))).mono ?_
      rintro e w6 ⟨rfl, hb6⟩
      have HB6 : Hid (Below (World.heap u0).size u0 w6) := ((Below.refl _ _).drew).trans hb6
      clear hb6
      gi_wp2_with fail
      (with_reducible refine outQ_normal ?_ ?_); exact ⟨⟨w6, Turns.of_below HB6.out _⟩, rfl⟩
      (repeat ((with_reducible refine wpTree_take (by with_unfolding_all exact rfl) ?_); (with_reducible (show wpQuiet _ _ _ _ (_ :: _) _)); go_big_quiet_step (fail); (with_reducible refine wpQuiet_nil ?_)))
      (with_reducible refine wpTree_one (by with_unfolding_all exact rfl) ?_)
      gi_wp2_with fail
      refine ((callsIn_wide (n := 8)).2 (HDi.out _ HB6.out)).mono ?_
      rintro e w7 ⟨⟨dn, rfl, hdn⟩, hb7⟩
      have HB7 : Hid (Below (World.heap u0).size u0 w7) := HB6.out.trans (hb7.mono HB6.out.size)
      clear hb7
      gi_wp2_with fail
      (with_reducible refine outQ_normal ?_ ?_); exact ⟨⟨w7, Turns.of_below HB7.out _⟩, rfl⟩
      (with_reducible refine wpTree_one (by with_unfolding_all exact rfl) ?_)
      gi_wp2_with fail
      refine ((callsIn_wide (n := 8)).2 (HHe.out _ HB7.out)).mono ?_
      rintro e w8 ⟨rfl, hb8⟩
      have HB8 : Hid (Below (World.heap u0).size u0 w8) := HB7.out.trans (hb8.mono HB7.out.size)
      clear hb8
      gi_wp2_with fail
      (with_reducible refine outQ_normal ?_ ?_); exact ⟨⟨w8, Turns.of_below HB8.out _⟩, rfl⟩
      (repeat ((with_reducible refine wpTree_take (by with_unfolding_all exact rfl) ?_); (with_reducible (show wpQuiet _ _ _ _ (_ :: _) _)); go_big_quiet_step (fail); (with_reducible refine wpQuiet_nil ?_)))
      (with_reducible refine wpTree_one (by with_unfolding_all exact rfl) ?_)
      gi_wp2_with fail
      refine ((callsIn_wide (n := 8)).2 (HGe.out _ HB8.out)).mono ?_
      rintro e w9 ⟨rfl, hm9, ht9⟩
      have HM9 := Lib.hid hm9
      have HT9 : Hid (Turns u0 w9 T) := (Turns.of_below HB8.out _).trans ht9 (fun q hq => .inl hq)
      clear hm9 ht9
      gi_wp2_with fail
      (with_reducible refine outQ_normal ?_ ?_); exact ⟨⟨w9, HT9.out⟩, rfl⟩
      (repeat ((with_reducible refine wpTree_take (by with_unfolding_all exact rfl) ?_); (with_reducible (show wpQuiet _ _ _ _ (_ :: _) _)); go_big_quiet_step (fail); (with_reducible refine wpQuiet_nil ?_)))
      with_reducible refine wpTree_nil ?_
      refine NoPanic.normal ?_
      clear k1 k2 k3 hS
      go_wp2
      go_ret
      exact ⟨by first | (simp; done) | (simp; omega), (WdM.wdTo HD.out HM9.out).early HB1.out HBl.out⟩
    · skip
      go_enter Try.func19, Try.ntmps19
      go_wp2
      go_quiet (fail)
      go_wp2
      rw [← HW1.out]
      obtain ⟨u0, hu0⟩ : ∃ u0, u0 = w1.drewN nq := ⟨_, rfl⟩
      rw [← hu0]
      replace HD : Hid (WdIs u0 B Wb Mb Sb Hb T F S sh hs) := by unfold Hid; rw [hu0]; exact HD.out.below (below_drewN0 (Below.refl _ _) _)
      replace HX : Hid (Row u0 X 30 #[.int .i64 op, .int .i64 sc, .int .i64 pb, .int .i64 pp]) := by unfold Hid; rw [hu0]; exact HX.out
      replace HB1 : Hid (Below w.heap.size w u0) := by unfold Hid; rw [hu0]; exact below_drewN0 HB1.out _
      rw [← HX1.out]
      clear hu0 x0 x1 c0
      have k1 : ∀ t : Kept u0 T, t.u.cell? ⟨Wb, 4, none⟩ = some (.pointer (some ⟨Mb, 0, none⟩)) := fun t => (t.h.row HD.out.row HD.out.sepW.1).cell 4
      have k2 : ∀ t : Kept u0 T, t.u.cell? ⟨Wb, 2, none⟩ = some (.int .i64 hl0) := fun t => by rw [HHl.out]; exact (t.h.row HD.out.row HD.out.sepW.1).cell 2
      have k3 : ∀ t : Kept u0 T, t.u.cell? ⟨X, 1, none⟩ = some (.int .i64 sc) := fun t => (t.h.row HX.out HXT.out).cell 1
      have hS : ∃ t : Kept u0 T, World.drew u0 = t.u := ⟨⟨_, (Turns.refl _ _).drew⟩, rfl⟩
      have hmx : Try.prog.follows .mixedOrders = true := by kernel_rfl
      have hcl : cn ≤ hl0 := by rw [HCn.out, HHl.out]; exact HD.out.pw.wl.held
      have HHe : Hid (∀ u, Below (World.heap u0).size u0 u → Calls Try.prog 13 #[.pointer (some ⟨Mb, 0, none⟩)] u fun e w' => e = .returned (.int .i64 cn) ∧ Below u.heap.size u w') := fun u hu => by rw [HCn.out]; exact (end_calls HD.out HFl.out HL.out sc u hu).1
      have HDi : Hid (∀ u, Below (World.heap u0).size u0 u → Calls Try.prog 34 #[.pointer (some ⟨Mb, 0, none⟩)] u fun e w' => (∃ k : Nat, e = .returned (.int .i64 k) ∧ k ≤ cn) ∧ Below u.heap.size u w') := fun u hu => by rw [HCn.out]; exact (end_calls HD.out HFl.out HL.out sc u hu).2.1
      have HGe : Hid (∀ u, Below (World.heap u0).size u0 u → Calls Try.prog 20 #[.pointer (some ⟨Wb, 0, none⟩), .int .i64 sc] u fun e w' => e = .returned (.bool true) ∧ WdM u0 w' B Wb Mb Sb Hb T F 1 1 S sh hs ∧ Turns u w' T) := fun u hu => (end_calls HD.out HFl.out HL.out sc u hu).2.2
      refine wp_region_noPanic ?_
      refine region_treeW (fun u => ∃ t : Kept u0 T, u = t.u) (Tn.takes [0,1,2,3,5,6,7,8] (.one 4 (Tn.takes [9,10,11,12,13,14,16,17,18,19] (.one 15 (.one 20 (Tn.takes [21,22,23,24,25,26] (.one 27 (.take 28 (.take 29 .nil))))))))) hmx (by kernel_rfl) (fun _ _ _ _ _ h => h) hS ?_
      simp only [Tn.takes]
      (repeat ((with_reducible refine wpTree_take (by with_unfolding_all exact rfl) ?_); (with_reducible (show wpQuiet _ _ _ _ (_ :: _) _)); go_big_quiet_step (fail); (with_reducible refine wpQuiet_nil ?_)))
      (with_reducible refine wpTree_one (by with_unfolding_all exact rfl) ?_)
      gi_wp2_with fail
      refine ((callsIn_wide (n := 8)).2 (HHe.out _ ((Below.refl _ _).drew))).mono ?_
      rintro e w6 ⟨rfl, hb6⟩
      have HB6 : Hid (Below (World.heap u0).size u0 w6) := ((Below.refl _ _).drew).trans hb6
      clear hb6
      gi_wp2_with fail
      (with_reducible refine outQ_normal ?_ ?_); exact ⟨⟨w6, Turns.of_below HB6.out _⟩, rfl⟩
      (repeat ((with_reducible refine wpTree_take (by with_unfolding_all exact rfl) ?_); (with_reducible (show wpQuiet _ _ _ _ (_ :: _) _)); go_big_quiet_step (fail); (with_reducible refine wpQuiet_nil ?_)))
      (with_reducible refine wpTree_one (by with_unfolding_all exact rfl) ?_)
      gi_wp2_with fail
      refine ((callsIn_wide (n := 8)).2 (HDi.out _ HB6.out)).mono ?_
      rintro e w7 ⟨⟨dn, rfl, hdn⟩, hb7⟩
      have HB7 : Hid (Below (World.heap u0).size u0 w7) := HB6.out.trans (hb7.mono HB6.out.size)
      clear hb7
      gi_wp2_with fail
      (with_reducible refine outQ_normal ?_ ?_); exact ⟨⟨w7, Turns.of_below HB7.out _⟩, rfl⟩
      (with_reducible refine wpTree_one (by with_unfolding_all exact rfl) ?_)
      gi_wp2_with fail
      refine ((callsIn_wide (n := 8)).2 (HHe.out _ HB7.out)).mono ?_
      rintro e w8 ⟨rfl, hb8⟩
      have HB8 : Hid (Below (World.heap u0).size u0 w8) := HB7.out.trans (hb8.mono HB7.out.size)
      clear hb8
      gi_wp2_with fail
      (with_reducible refine outQ_normal ?_ ?_); exact ⟨⟨w8, Turns.of_below HB8.out _⟩, rfl⟩
      (repeat ((with_reducible refine wpTree_take (by with_unfolding_all exact rfl) ?_); (with_reducible (show wpQuiet _ _ _ _ (_ :: _) _)); go_big_quiet_step (fail); (with_reducible refine wpQuiet_nil ?_)))
      (with_reducible refine wpTree_one (by with_unfolding_all exact rfl) ?_)
      gi_wp2_with fail
      refine ((callsIn_wide (n := 8)).2 (HGe.out _ HB8.out)).mono ?_
      rintro e w9 ⟨rfl, hm9, ht9⟩
      have HM9 := Lib.hid hm9
      have HT9 : Hid (Turns u0 w9 T) := (Turns.of_below HB8.out _).trans ht9 (fun q hq => .inl hq)
      clear hm9 ht9
      gi_wp2_with fail
      (with_reducible refine outQ_normal ?_ ?_); exact ⟨⟨w9, HT9.out⟩, rfl⟩
      (repeat ((with_reducible refine wpTree_take (by with_unfolding_all exact rfl) ?_); (with_reducible (show wpQuiet _ _ _ _ (_ :: _) _)); go_big_quiet_step (fail); (with_reducible refine wpQuiet_nil ?_)))
      with_reducible refine wpTree_nil ?_
      refine NoPanic.normal ?_
      clear k1 k2 k3 hS
      go_wp2
      go_ret
      exact ⟨by first | (simp; done) | (simp; omega), (WdM.wdTo HD.out HM9.out).early HB1.out HBl.out⟩
  · have i1 : sc < 0 := by omega
    have g1 : decide (0 ≤ sc) = false := decide_eq_false i0
    go_enter Try.func19, Try.ntmps19
    go_wp2
    go_quiet (fail)
    go_wp2
    rw [← HW1.out]
    obtain ⟨u0, hu0⟩ : ∃ u0, u0 = w1.drewN nq := ⟨_, rfl⟩
    rw [← hu0]
    replace HD : Hid (WdIs u0 B Wb Mb Sb Hb T F S sh hs) := by unfold Hid; rw [hu0]; exact HD.out.below (below_drewN0 (Below.refl _ _) _)
    replace HX : Hid (Row u0 X 30 #[.int .i64 op, .int .i64 sc, .int .i64 pb, .int .i64 pp]) := by unfold Hid; rw [hu0]; exact HX.out
    replace HB1 : Hid (Below w.heap.size w u0) := by unfold Hid; rw [hu0]; exact below_drewN0 HB1.out _
    rw [← HX1.out]
    clear hu0 x0 x1 c0
    have k1 : ∀ t : Kept u0 T, t.u.cell? ⟨Wb, 4, none⟩ = some (.pointer (some ⟨Mb, 0, none⟩)) := fun t => (t.h.row HD.out.row HD.out.sepW.1).cell 4
    have k2 : ∀ t : Kept u0 T, t.u.cell? ⟨Wb, 2, none⟩ = some (.int .i64 hl0) := fun t => by rw [HHl.out]; exact (t.h.row HD.out.row HD.out.sepW.1).cell 2
    have k3 : ∀ t : Kept u0 T, t.u.cell? ⟨X, 1, none⟩ = some (.int .i64 sc) := fun t => (t.h.row HX.out HXT.out).cell 1
    have hS : ∃ t : Kept u0 T, World.drew u0 = t.u := ⟨⟨_, (Turns.refl _ _).drew⟩, rfl⟩
    have hmx : Try.prog.follows .mixedOrders = true := by kernel_rfl
    have hcl : cn ≤ hl0 := by rw [HCn.out, HHl.out]; exact HD.out.pw.wl.held
    have HHe : Hid (∀ u, Below (World.heap u0).size u0 u → Calls Try.prog 13 #[.pointer (some ⟨Mb, 0, none⟩)] u fun e w' => e = .returned (.int .i64 cn) ∧ Below u.heap.size u w') := fun u hu => by rw [HCn.out]; exact (end_calls HD.out HFl.out HL.out sc u hu).1
    have HDi : Hid (∀ u, Below (World.heap u0).size u0 u → Calls Try.prog 34 #[.pointer (some ⟨Mb, 0, none⟩)] u fun e w' => (∃ k : Nat, e = .returned (.int .i64 k) ∧ k ≤ cn) ∧ Below u.heap.size u w') := fun u hu => by rw [HCn.out]; exact (end_calls HD.out HFl.out HL.out sc u hu).2.1
    have HGe : Hid (∀ u, Below (World.heap u0).size u0 u → Calls Try.prog 20 #[.pointer (some ⟨Wb, 0, none⟩), .int .i64 sc] u fun e w' => e = .returned (.bool true) ∧ WdM u0 w' B Wb Mb Sb Hb T F 1 1 S sh hs ∧ Turns u w' T) := fun u hu => (end_calls HD.out HFl.out HL.out sc u hu).2.2
    refine wp_region_noPanic ?_
    refine region_treeW (fun u => ∃ t : Kept u0 T, u = t.u) (Tn.takes [0,1,2,3,5,6,7,8] (.one 4 (Tn.takes [9,10,11,12,13,14,16,17,18,19] (.one 15 (.one 20 (Tn.takes [21,22,23,24,25,26] (.one 27 (.take 28 (.take 29 .nil))))))))) hmx (by kernel_rfl) (fun _ _ _ _ _ h => h) hS ?_
    simp only [Tn.takes]
    (repeat ((with_reducible refine wpTree_take (by with_unfolding_all exact rfl) ?_); (with_reducible (show wpQuiet _ _ _ _ (_ :: _) _)); go_big_quiet_step (fail); (with_reducible refine wpQuiet_nil ?_)))
    (with_reducible refine wpTree_one (by with_unfolding_all exact rfl) ?_)
    gi_wp2_with fail
    refine ((callsIn_wide (n := 8)).2 (HHe.out _ ((Below.refl _ _).drew))).mono ?_
    rintro e w6 ⟨rfl, hb6⟩
    have HB6 : Hid (Below (World.heap u0).size u0 w6) := ((Below.refl _ _).drew).trans hb6
    clear hb6
    gi_wp2_with fail
    (with_reducible refine outQ_normal ?_ ?_); exact ⟨⟨w6, Turns.of_below HB6.out _⟩, rfl⟩
    (repeat ((with_reducible refine wpTree_take (by with_unfolding_all exact rfl) ?_); (with_reducible (show wpQuiet _ _ _ _ (_ :: _) _)); go_big_quiet_step (fail); (with_reducible refine wpQuiet_nil ?_)))
    (with_reducible refine wpTree_one (by with_unfolding_all exact rfl) ?_)
    gi_wp2_with fail
    refine ((callsIn_wide (n := 8)).2 (HDi.out _ HB6.out)).mono ?_
    rintro e w7 ⟨⟨dn, rfl, hdn⟩, hb7⟩
    have HB7 : Hid (Below (World.heap u0).size u0 w7) := HB6.out.trans (hb7.mono HB6.out.size)
    clear hb7
    gi_wp2_with fail
    (with_reducible refine outQ_normal ?_ ?_); exact ⟨⟨w7, Turns.of_below HB7.out _⟩, rfl⟩
    (with_reducible refine wpTree_one (by with_unfolding_all exact rfl) ?_)
    gi_wp2_with fail
    refine ((callsIn_wide (n := 8)).2 (HHe.out _ HB7.out)).mono ?_
    rintro e w8 ⟨rfl, hb8⟩
    have HB8 : Hid (Below (World.heap u0).size u0 w8) := HB7.out.trans (hb8.mono HB7.out.size)
    clear hb8
    gi_wp2_with fail
    (with_reducible refine outQ_normal ?_ ?_); exact ⟨⟨w8, Turns.of_below HB8.out _⟩, rfl⟩
    (repeat ((with_reducible refine wpTree_take (by with_unfolding_all exact rfl) ?_); (with_reducible (show wpQuiet _ _ _ _ (_ :: _) _)); go_big_quiet_step (fail); (with_reducible refine wpQuiet_nil ?_)))
    (with_reducible refine wpTree_one (by with_unfolding_all exact rfl) ?_)
    gi_wp2_with fail
    refine ((callsIn_wide (n := 8)).2 (HGe.out _ HB8.out)).mono ?_
    rintro e w9 ⟨rfl, hm9, ht9⟩
    have HM9 := Lib.hid hm9
    have HT9 : Hid (Turns u0 w9 T) := (Turns.of_below HB8.out _).trans ht9 (fun q hq => .inl hq)
    clear hm9 ht9
    gi_wp2_with fail
    (with_reducible refine outQ_normal ?_ ?_); exact ⟨⟨w9, HT9.out⟩, rfl⟩
    (repeat ((with_reducible refine wpTree_take (by with_unfolding_all exact rfl) ?_); (with_reducible (show wpQuiet _ _ _ _ (_ :: _) _)); go_big_quiet_step (fail); (with_reducible refine wpQuiet_nil ?_)))
    with_reducible refine wpTree_nil ?_
    refine NoPanic.normal ?_
    clear k1 k2 k3 hS
    go_wp2
    go_ret
    exact ⟨by first | (simp; done) | (simp; omega), (WdM.wdTo HD.out HM9.out).early HB1.out HBl.out⟩
end Go.Proofs.Ytfipmpajdkgffaa

namespace Go.Proofs.Ytfipmpajdkgffaa
open Go.RowKit Go.MapKept Go.ChangeMaps
attribute [local go_sem] Oper.semAt_some
attribute [local simp, local go_sem] wide_fn
set_option linter.unusedVariables false
set_option linter.unusedSimpArgs false
set_option maxHeartbeats 1000000 in
theorem lright_aux (b p : Int) (r : Bool) (hr : r = rightB b p) (w : World) : Calls Try.prog 10 #[.agg #[.int .i64 b, .int .i64 p]] w fun e w' => e = .returned (.bool r) ∧ Below w.heap.size w w' := by
  unfold rightB at hr
  have HB : Hid (Below w.heap.size w (w.alloc (.cells #[.int .i64 b, .int .i64 p] 28))) := by unfold Hid; (repeat (first | (with_reducible refine Below.drew ?_) | (with_reducible refine below_drewN0 ?_ _) | ((with_reducible refine Below.setCell ?_ ?_ _); rotate_left; focus (first | omega | (simp; done) | (simp; omega) | (simp at *; omega))) | ((with_reducible refine Below.alloc ?_ ?_ _); rotate_left; focus (first | omega | (simp; done) | (simp; omega) | (simp at *; omega))) | (with_reducible exact Below.refl _ _)))
  by_cases h1 : 0 ≤ b
  · by_cases h2 : b < 1024
    · by_cases h3 : 0 ≤ p
      · by_cases h4 : p < 256
        · obtain rfl : r = true := hr.trans (decide_eq_true ⟨h1, h2, h3, h4⟩)
          clear hr
          go_enter Try.func10, Try.ntmps10
          go_wp2
          go_ret
          exact ⟨rfl, HB.out⟩
        · obtain rfl : r = false := hr.trans (decide_eq_false (fun h => h4 h.2.2.2))
          clear hr
          go_enter Try.func10, Try.ntmps10
          go_wp2
          go_ret
          exact ⟨rfl, HB.out⟩
      · obtain rfl : r = false := hr.trans (decide_eq_false (fun h => h3 h.2.2.1))
        clear hr
        go_enter Try.func10, Try.ntmps10
        go_wp2
        go_ret
        exact ⟨rfl, HB.out⟩
    · obtain rfl : r = false := hr.trans (decide_eq_false (fun h => h2 h.2.1))
      clear hr
      go_enter Try.func10, Try.ntmps10
      go_wp2
      go_ret
      exact ⟨rfl, HB.out⟩
  · obtain rfl : r = false := hr.trans (decide_eq_false (fun h => h1 h.1))
    clear hr
    go_enter Try.func10, Try.ntmps10
    go_wp2
    go_ret
    exact ⟨rfl, HB.out⟩
theorem lright_any (b p : Int) (w : World) : Calls Try.prog 10 #[.agg #[.int .i64 b, .int .i64 p]] w fun e w' => e = .returned (.bool (rightB b p)) ∧ Below w.heap.size w w' := lright_aux b p _ rfl w
theorem WdIs.stay {w w' : World} {B Wb Mb Sb Hb k c : Nat} {T F : List Nat} {S : Sm} {sh : Sh} {hs : Nat → Nat} (h : WdIs w B Wb Mb Sb Hb T F S sh hs) (hb : Below w.heap.size w w') : WdTo w w' B Wb Sb Hb k c S sh :=
  ⟨Mb, T, F, S, sh, hs, h.below hb, hb.mono h.B_le, ⟨rfl, rfl, rfl⟩, rfl, by omega, by omega⟩
set_option maxRecDepth 100000 in
set_option maxHeartbeats 4000000 in
theorem step_set_bad (w : World) (B Wb Mb Sb Hb : Nat) (T F : List Nat) (S : Sm) (sh : Sh) (hs : Nat → Nat) (h : WdIs w B Wb Mb Sb Hb T F S sh hs) (hf : sh.full = -1) (hl : sh.L.length ≤ 262143) (x : Ac) (hop : x.op = 1) (hbad : (x.s < 0 ∨ (S.sectors : Int) ≤ x.s) ∨ rightB x.b x.p = false) :
    Calls Try.prog 19 #[.pointer (some ⟨Wb, 0, none⟩), x.val] w fun e w' => e = .returned (.bool true) ∧ WdTo w w' B Wb Sb Hb 1 1 S sh := by
  have HS : Hid (∀ u, Below w.heap.size w u → Calls Try.prog 11 #[.pointer (some ⟨Mb, 0, none⟩), .int .i64 x.s, .agg #[.int .i64 x.b, .int .i64 x.p]] u fun e w' => e = .returned (.int .i64 1) ∧ Below u.heap.size u w') := fun u hu => Set_arg u Mb Sb T F S sh (h.below hu).sm x.s x.b x.p hbad
  have HRi : Hid (∀ u, Calls Try.prog 10 #[.agg #[.int .i64 x.b, .int .i64 x.p]] u fun e w' => e = .returned (.bool (rightB x.b x.p)) ∧ Below u.heap.size u w') := fun u => lright_any x.b x.p u
  obtain ⟨op, sc, pb, pp⟩ := x
  unfold Ac.val
  dsimp only at hop ⊢
  subst hop
  obtain ⟨w1, hw1⟩ : ∃ w1, w1 = w.alloc (.cells #[.int .i64 1, .int .i64 sc, .int .i64 pb, .int .i64 pp] 30) := ⟨_, rfl⟩
  have HB1 : Hid (Below w.heap.size w w1) := by unfold Hid; rw [hw1]; exact (Below.refl _ _).alloc (Nat.le_refl _) _
  obtain ⟨X, hX⟩ : ∃ X, X = w.heap.size := ⟨_, rfl⟩
  have HX : Hid (Row w1 X 30 #[.int .i64 1, .int .i64 sc, .int .i64 pb, .int .i64 pp]) := by unfold Hid; rw [hw1, hX]; exact Row.fresh _ _ _
  have HD := Lib.hid (h.below HB1.out)
  have HXT : Hid (X ∉ T) := fun hm => by
    obtain ⟨_, _, _, _, h1⟩ := h.sm
    have := h1.lt _ (.inl hm); omega
  have HXW : Hid (X ∉ F ∧ X ≠ Wb ∧ X ≠ Hb) := ⟨fun hm => by
    obtain ⟨_, _, _, _, h1⟩ := h.sm
    have := h1.lt _ (.inr hm); omega, by have := h.row.lt; omega, by have := h.has.lt; omega⟩
  have HBl := Lib.hid h.B_le
  have HFl := Lib.hid hf
  have HL := Lib.hid hl
  have x0 := HX.out.cell 0
  have x1 := HX.out.cell 1
  have c0 := HD.out.row.cell 0
  simp only [List.getElem?_toArray, List.getElem?_cons_zero, List.getElem?_cons_succ] at x0 x1 c0
  have hsec := h.sm.few
  obtain ⟨st, hst⟩ : ∃ st, st = S.sectors := ⟨_, rfl⟩
  obtain ⟨cn, hcn⟩ : ∃ cn, cn = S.cnt := ⟨_, rfl⟩
  have HCn := Lib.hid hcn
  clear hcn
  obtain ⟨hl0, hhl⟩ : ∃ hl0, hl0 = S.held := ⟨_, rfl⟩
  have HSt := Lib.hid hst
  have HHl := Lib.hid hhl
  rw [← hst] at c0 hsec
  have HX1 := Lib.hid hX
  rw [hX, hw1] at x0 x1
  rw [hw1] at c0
  have HW1 := Lib.hid hw1
  have HH := Lib.hid h
  clear h hf hl hst hhl hX hw1
  dsimp only at hbad HS HRi
  rw [← HSt.out] at hbad
  by_cases i0 : 0 ≤ sc
  · by_cases i1 : sc < st
    · have hr : rightB pb pp = false := hbad.elim (fun h => by omega) (fun h => h)
      rw [hr] at HRi
      clear hbad hr
      go_enter Try.func19, Try.ntmps19
      go_wp2
      go_quiet (fail)
      go_wp2
      rw [← HW1.out]
      obtain ⟨u0, hu0⟩ : ∃ u0, u0 = w1.drewN nq := ⟨_, rfl⟩
      rw [← hu0]
      replace HD : Hid (WdIs u0 B Wb Mb Sb Hb T F S sh hs) := by unfold Hid; rw [hu0]; exact HD.out.below (below_drewN0 (Below.refl _ _) _)
      replace HX : Hid (Row u0 X 30 #[.int .i64 1, .int .i64 sc, .int .i64 pb, .int .i64 pp]) := by unfold Hid; rw [hu0]; exact HX.out
      replace HB1 : Hid (Below w.heap.size w u0) := by unfold Hid; rw [hu0]; exact below_drewN0 HB1.out _
      rw [← HX1.out]
      clear hu0 x0 x1 c0
      have k1 : ∀ t : Kept u0 [], t.u.cell? ⟨Wb, 4, none⟩ = some (.pointer (some ⟨Mb, 0, none⟩)) := fun t => (t.h.row HD.out.row (by simp)).cell 4
      have k2 : ∀ t : Kept u0 [], t.u.cell? ⟨X, 1, none⟩ = some (.int .i64 sc) := fun t => (t.h.row HX.out (by simp)).cell 1
      have k3 : ∀ t : Kept u0 [], t.u.cell? ⟨X, 2, none⟩ = some (.int .i64 pb) := fun t => (t.h.row HX.out (by simp)).cell 2
      have k4 : ∀ t : Kept u0 [], t.u.cell? ⟨X, 3, none⟩ = some (.int .i64 pp) := fun t => (t.h.row HX.out (by simp)).cell 3
      (refine region_kept ([]) [0, 1, 2, 3, 4, 5, 6, 7] [8, 9] (by kernel_rfl) (by kernel_rfl) (fun _ _ _ _ _ h => h) ?_; simp only [List.filterMap_cons, List.getElem?_cons_zero, List.getElem?_cons_succ, List.filterMap_nil]; (repeat ((show wpQuiet _ _ _ _ (_ :: _) _); go_big_quiet_step (fail))); refine wpQuiet_nil ?_)
      clear k1 k2 k3 k4
      refine wpSeqS_step ?_
      go_wp2_with fail
      refine (HS.out _ (HB1.out.trans ((Below.refl _ _).drew.mono HB1.out.size))).mono ?_
      rintro e w2 ⟨rfl, hb⟩
      have HT2 : Hid (Turns u0 w2 []) := ((Turns.refl u0 []).drew).then_below hb
      have HB2 : Hid (Below u0.heap.size u0 w2) := (Below.refl _ _).drew.trans hb
      clear hb
      go_wp2_with fail
      refine outQ_normal HT2.out ?_
      refine wpSeqS_last ?_
      have y2 := (HT2.out.row HX.out (by simp)).cell 2
      have y3 := (HT2.out.row HX.out (by simp)).cell 3
      simp only [List.getElem?_toArray, List.getElem?_cons_zero, List.getElem?_cons_succ] at y2 y3
      go_wp2_with fail
      refine (HRi.out _).mono ?_
      rintro e w3 ⟨rfl, hb⟩
      have HB3 : Hid (Below u0.heap.size u0 w3) := HB2.out.trans (hb.mono HB2.out.size)
      clear hb y2 y3
      go_wp2
      go_ret
      exact ⟨by first | (simp; done) | rfl, HH.out.stay (HB1.out.trans (HB3.out.mono HB1.out.size))⟩
    · skip
      clear hbad
      go_enter Try.func19, Try.ntmps19
      go_wp2
      go_quiet (fail)
      go_wp2
      rw [← HW1.out]
      obtain ⟨u0, hu0⟩ : ∃ u0, u0 = w1.drewN nq := ⟨_, rfl⟩
      rw [← hu0]
      replace HD : Hid (WdIs u0 B Wb Mb Sb Hb T F S sh hs) := by unfold Hid; rw [hu0]; exact HD.out.below (below_drewN0 (Below.refl _ _) _)
      replace HX : Hid (Row u0 X 30 #[.int .i64 1, .int .i64 sc, .int .i64 pb, .int .i64 pp]) := by unfold Hid; rw [hu0]; exact HX.out
      replace HB1 : Hid (Below w.heap.size w u0) := by unfold Hid; rw [hu0]; exact below_drewN0 HB1.out _
      rw [← HX1.out]
      clear hu0 x0 x1 c0
      have k1 : ∀ t : Kept u0 [], t.u.cell? ⟨Wb, 4, none⟩ = some (.pointer (some ⟨Mb, 0, none⟩)) := fun t => (t.h.row HD.out.row (by simp)).cell 4
      have k2 : ∀ t : Kept u0 [], t.u.cell? ⟨X, 1, none⟩ = some (.int .i64 sc) := fun t => (t.h.row HX.out (by simp)).cell 1
      have k3 : ∀ t : Kept u0 [], t.u.cell? ⟨X, 2, none⟩ = some (.int .i64 pb) := fun t => (t.h.row HX.out (by simp)).cell 2
      have k4 : ∀ t : Kept u0 [], t.u.cell? ⟨X, 3, none⟩ = some (.int .i64 pp) := fun t => (t.h.row HX.out (by simp)).cell 3
      (refine region_kept ([]) [0, 1, 2, 3, 4, 5, 6, 7] [8, 9] (by kernel_rfl) (by kernel_rfl) (fun _ _ _ _ _ h => h) ?_; simp only [List.filterMap_cons, List.getElem?_cons_zero, List.getElem?_cons_succ, List.filterMap_nil]; (repeat ((show wpQuiet _ _ _ _ (_ :: _) _); go_big_quiet_step (fail))); refine wpQuiet_nil ?_)
      clear k1 k2 k3 k4
      refine wpSeqS_step ?_
      go_wp2_with fail
      refine (HS.out _ (HB1.out.trans ((Below.refl _ _).drew.mono HB1.out.size))).mono ?_
      rintro e w2 ⟨rfl, hb⟩
      have HT2 : Hid (Turns u0 w2 []) := ((Turns.refl u0 []).drew).then_below hb
      have HB2 : Hid (Below u0.heap.size u0 w2) := (Below.refl _ _).drew.trans hb
      clear hb
      go_wp2_with fail
      refine outQ_normal HT2.out ?_
      refine wpSeqS_last ?_
      go_wp2
      go_ret
      exact ⟨by first | (simp; done) | rfl, HH.out.stay (HB1.out.trans (HB2.out.mono HB1.out.size))⟩
  · have i1 : sc < 0 := by omega
    have g1 : decide (0 ≤ sc) = false := decide_eq_false i0
    clear hbad
    go_enter Try.func19, Try.ntmps19
    go_wp2
    go_quiet (fail)
    go_wp2
    rw [← HW1.out]
    obtain ⟨u0, hu0⟩ : ∃ u0, u0 = w1.drewN nq := ⟨_, rfl⟩
    rw [← hu0]
    replace HD : Hid (WdIs u0 B Wb Mb Sb Hb T F S sh hs) := by unfold Hid; rw [hu0]; exact HD.out.below (below_drewN0 (Below.refl _ _) _)
    replace HX : Hid (Row u0 X 30 #[.int .i64 1, .int .i64 sc, .int .i64 pb, .int .i64 pp]) := by unfold Hid; rw [hu0]; exact HX.out
    replace HB1 : Hid (Below w.heap.size w u0) := by unfold Hid; rw [hu0]; exact below_drewN0 HB1.out _
    rw [← HX1.out]
    clear hu0 x0 x1 c0
    have k1 : ∀ t : Kept u0 [], t.u.cell? ⟨Wb, 4, none⟩ = some (.pointer (some ⟨Mb, 0, none⟩)) := fun t => (t.h.row HD.out.row (by simp)).cell 4
    have k2 : ∀ t : Kept u0 [], t.u.cell? ⟨X, 1, none⟩ = some (.int .i64 sc) := fun t => (t.h.row HX.out (by simp)).cell 1
    have k3 : ∀ t : Kept u0 [], t.u.cell? ⟨X, 2, none⟩ = some (.int .i64 pb) := fun t => (t.h.row HX.out (by simp)).cell 2
    have k4 : ∀ t : Kept u0 [], t.u.cell? ⟨X, 3, none⟩ = some (.int .i64 pp) := fun t => (t.h.row HX.out (by simp)).cell 3
    (refine region_kept ([]) [0, 1, 2, 3, 4, 5, 6, 7] [8, 9] (by kernel_rfl) (by kernel_rfl) (fun _ _ _ _ _ h => h) ?_; simp only [List.filterMap_cons, List.getElem?_cons_zero, List.getElem?_cons_succ, List.filterMap_nil]; (repeat ((show wpQuiet _ _ _ _ (_ :: _) _); go_big_quiet_step (fail))); refine wpQuiet_nil ?_)
    clear k1 k2 k3 k4
    refine wpSeqS_step ?_
    go_wp2_with fail
    refine (HS.out _ (HB1.out.trans ((Below.refl _ _).drew.mono HB1.out.size))).mono ?_
    rintro e w2 ⟨rfl, hb⟩
    have HT2 : Hid (Turns u0 w2 []) := ((Turns.refl u0 []).drew).then_below hb
    have HB2 : Hid (Below u0.heap.size u0 w2) := (Below.refl _ _).drew.trans hb
    clear hb
    go_wp2_with fail
    refine outQ_normal HT2.out ?_
    refine wpSeqS_last ?_
    go_wp2
    go_ret
    exact ⟨by first | (simp; done) | rfl, HH.out.stay (HB1.out.trans (HB2.out.mono HB1.out.size))⟩
end Go.Proofs.Ytfipmpajdkgffaa

namespace Go.Proofs.Ytfipmpajdkgffaa
open Go.RowKit Go.MapKept Go.ChangeMaps
attribute [local go_sem] Oper.semAt_some
attribute [local simp, local go_sem] wide_fn
set_option linter.unusedVariables false
set_option linter.unusedSimpArgs false
theorem WdTo.late {w u w' : World} {B Wb Sb Hb k c k' c' : Nat} {S S2 : Sm} {sh sh2 : Sh} (h : WdTo u w' B Wb Sb Hb k c S2 sh2) (hb : Below B w u) (h1 : S2.sectors = S.sectors ∧ S2.page = S.page ∧ S2.held = S.held) (h2 : sh2.full = sh.full) (h3 : sh2.L.length ≤ sh.L.length + k') (h4 : S2.cnt ≤ S.cnt + c') : WdTo w w' B Wb Sb Hb (k' + k) (c' + c) S sh := by
  obtain ⟨Mb, T, F, S', sh', hs, g1, g2, g3, g4, g5, g6⟩ := h
  exact ⟨Mb, T, F, S', sh', hs, g1, hb.trans g2, ⟨g3.1.trans h1.1, g3.2.1.trans h1.2.1, g3.2.2.trans h1.2.2⟩, g4.trans h2, by omega, by omega⟩
theorem WdIs.update {u w2 w3 : World} {B Wb Mb Sb Hb : Nat} {T F : List Nat} {S S2 : Sm} {sh sh2 : Sh} {hs hs' : Nat → Nat} (h : WdIs u B Wb Mb Sb Hb T F S sh hs) (hto : SmTo u w2 Mb Sb T F S2 sh2) (h1 : S2.sectors = S.sectors) (h2 : S2.page = S.page) (h3 : S2.held = S.held) (ht : Turns w2 w3 [Hb]) (hh : HasIs w3 Hb hs') (hp : Pw S2 sh2 hs') :
    ∃ T2 F2, WdIs w3 B Wb Mb Sb Hb T2 F2 S2 sh2 hs' ∧ Turns u w3 (Hb :: T) ∧ (∀ q ∈ T2, q ∈ T ∨ u.heap.size ≤ q) ∧ (∀ q ∈ F2, q ∈ F ∨ u.heap.size ≤ q) := by
  obtain ⟨T2, F2, g1, g2, g3, g4⟩ := hto
  have hW := h.row.lt
  have hH := h.has.lt
  have hHT : Hb ∉ T2 := fun hk => (g3 _ hk).elim h.sepH.1 (fun h => by omega)
  have hHF : Hb ∉ F2 := fun hk => (g4 _ hk).elim h.sepH.2 (fun h => by omega)
  refine ⟨T2, F2, ⟨by rw [h1, h2, h3]; exact ht.row (g2.row h.row h.sepW.1) (by simp; exact h.ne), g1.keep ht (fun k hk => by rw [List.mem_singleton.1 hk]; exact ⟨hHT, hHF⟩), hh, ⟨fun hk => (g3 _ hk).elim h.sepW.1 (fun h => by omega), fun hk => (g4 _ hk).elim h.sepW.2 (fun h => by omega)⟩, ⟨hHT, hHF⟩, ⟨h.low.1, h.low.2.1, fun k hk => (g3 k hk).elim (h.low.2.2 k) (fun h5 => Nat.le_trans h.B_le h5)⟩, hp⟩, ?_, g3, g4⟩
  exact (g2.mono (S' := Hb :: T) (fun k hk => List.mem_cons_of_mem _ hk)).trans ht (fun k hk => .inl (by rw [List.mem_singleton.1 hk]; simp))
set_option maxRecDepth 100000 in
set_option maxHeartbeats 4000000 in
theorem step_set (w : World) (B Wb Mb Sb Hb : Nat) (T F : List Nat) (S : Sm) (sh : Sh) (hs : Nat → Nat) (h : WdIs w B Wb Mb Sb Hb T F S sh hs) (hf : sh.full = -1) (hl : sh.L.length + 1 ≤ 262143) (x : Ac) (hop : x.op = 1) (hin : 0 ≤ x.s ∧ x.s < S.sectors) (hri : rightB x.b x.p = true) :
    Calls Try.prog 19 #[.pointer (some ⟨Wb, 0, none⟩), x.val] w fun e w' => e = .returned (.bool true) ∧ WdTo w w' B Wb Sb Hb 2 2 S sh := by
  have hr0 := of_decide_eq_true hri
  have HRi : Hid (∀ u, Calls Try.prog 10 #[.agg #[.int .i64 x.b, .int .i64 x.p]] u fun e w' => e = .returned (.bool true) ∧ Below u.heap.size u w') := fun u => hri ▸ lright_any x.b x.p u
  obtain ⟨op, sc, pb, pp⟩ := x
  unfold Ac.val
  dsimp only at hop ⊢
  subst hop
  obtain ⟨w1, hw1⟩ : ∃ w1, w1 = w.alloc (.cells #[.int .i64 1, .int .i64 sc, .int .i64 pb, .int .i64 pp] 30) := ⟨_, rfl⟩
  have HB1 : Hid (Below w.heap.size w w1) := by unfold Hid; rw [hw1]; exact (Below.refl _ _).alloc (Nat.le_refl _) _
  obtain ⟨X, hX⟩ : ∃ X, X = w.heap.size := ⟨_, rfl⟩
  have HX : Hid (Row w1 X 30 #[.int .i64 1, .int .i64 sc, .int .i64 pb, .int .i64 pp]) := by unfold Hid; rw [hw1, hX]; exact Row.fresh _ _ _
  have HD := Lib.hid (h.below HB1.out)
  have HXT : Hid (X ∉ T) := fun hm => by
    obtain ⟨_, _, _, _, h1⟩ := h.sm
    have := h1.lt _ (.inl hm); omega
  have HXW : Hid (X ∉ F ∧ X ≠ Wb ∧ X ≠ Hb) := ⟨fun hm => by
    obtain ⟨_, _, _, _, h1⟩ := h.sm
    have := h1.lt _ (.inr hm); omega, by have := h.row.lt; omega, by have := h.has.lt; omega⟩
  have HBl := Lib.hid h.B_le
  have HFl := Lib.hid hf
  have HL := Lib.hid hl
  have x0 := HX.out.cell 0
  have x1 := HX.out.cell 1
  have c0 := HD.out.row.cell 0
  simp only [List.getElem?_toArray, List.getElem?_cons_zero, List.getElem?_cons_succ] at x0 x1 c0
  have hsec := h.sm.few
  obtain ⟨st, hst⟩ : ∃ st, st = S.sectors := ⟨_, rfl⟩
  obtain ⟨cn, hcn⟩ : ∃ cn, cn = S.cnt := ⟨_, rfl⟩
  have HCn := Lib.hid hcn
  clear hcn
  obtain ⟨hl0, hhl⟩ : ∃ hl0, hl0 = S.held := ⟨_, rfl⟩
  have HSt := Lib.hid hst
  have HHl := Lib.hid hhl
  rw [← hst] at c0 hsec
  have HX1 := Lib.hid hX
  rw [hX, hw1] at x0 x1
  rw [hw1] at c0
  have HW1 := Lib.hid hw1
  have HH := Lib.hid h
  clear h hf hl hst hhl hX hw1
  dsimp only at hr0 HRi hin
  clear hri
  obtain ⟨s, hsn⟩ : ∃ s : Nat, sc = s := ⟨sc.toNat, by omega⟩
  obtain ⟨b, hbn⟩ : ∃ b : Nat, pb = b := ⟨pb.toNat, by omega⟩
  obtain ⟨p, hpn⟩ : ∃ p : Nat, pp = p := ⟨pp.toNat, by omega⟩
  have HSn := Lib.hid hsn
  have HBn := Lib.hid hbn
  have HPn := Lib.hid hpn
  have HI := Lib.hid hin
  rw [← HSt.out] at hin
  obtain ⟨i0, i1⟩ := hin
  have HS : Hid (∀ u, WdIs u B Wb Mb Sb Hb T F S sh hs → Calls Try.prog 11 #[.pointer (some ⟨Mb, 0, none⟩), .int .i64 sc, .agg #[.int .i64 pb, .int .i64 pp]] u fun e w' => e = .returned (.int .i64 0) ∧ ∃ S2 sh2, SmTo u w' Mb Sb T F S2 sh2 ∧ Sets s (b * 256 + p + 1) 1 1 S sh S2 sh2) := fun u hu => by
    rw [hsn, hbn, hpn]
    refine (Set_any u Mb Sb T F S sh hu.sm s b p (by have := HI.out; omega) (by omega) (by omega) (by have := HL.out; omega) hu.pw.wl).mono fun e w' h => ?_
    rcases h with ⟨h1, _, S2, sh2, h3, h4⟩ | ⟨c, _, ⟨_, h2⟩ | ⟨_, h2⟩, _⟩
    · exact ⟨h1, S2, sh2, h3, h4⟩
    · obtain ⟨z, hz⟩ := hu.pw.tellsS (s := s) (by have := HI.out; omega)
      rw [hz] at h2; cases h2
    · have := HFl.out; omega
  have HR0 := Lib.hid hr0
  have HNv : Hid (numV (b * 256 + p + 1) = .agg #[.int .i64 pb, .int .i64 pp]) := by
    unfold Hid numV
    rw [hbn, hpn]
    rw [if_neg (by omega), if_neg (by omega), show (b * 256 + p + 1 - 1) / 256 = b by omega, show (b * 256 + p + 1 - 1) % 256 = p by omega]
  clear hr0 hsn hbn hpn
  go_enter Try.func19, Try.ntmps19
  go_wp2
  go_quiet (fail)
  go_wp2
  rw [← HW1.out]
  obtain ⟨u0, hu0⟩ : ∃ u0, u0 = w1.drewN nq := ⟨_, rfl⟩
  rw [← hu0]
  replace HD : Hid (WdIs u0 B Wb Mb Sb Hb T F S sh hs) := by unfold Hid; rw [hu0]; exact HD.out.below (below_drewN0 (Below.refl _ _) _)
  replace HX : Hid (Row u0 X 30 #[.int .i64 1, .int .i64 sc, .int .i64 pb, .int .i64 pp]) := by unfold Hid; rw [hu0]; exact HX.out
  replace HB1 : Hid (Below w.heap.size w u0) := by unfold Hid; rw [hu0]; exact below_drewN0 HB1.out _
  rw [← HX1.out]
  clear hu0 x0 x1 c0
  have k1 : ∀ t : Kept u0 T, t.u.cell? ⟨Wb, 4, none⟩ = some (.pointer (some ⟨Mb, 0, none⟩)) := fun t => (t.h.row HD.out.row HD.out.sepW.1).cell 4
  have k2 : ∀ t : Kept u0 T, t.u.cell? ⟨X, 1, none⟩ = some (.int .i64 sc) := fun t => (t.h.row HX.out HXT.out).cell 1
  have k3 : ∀ t : Kept u0 T, t.u.cell? ⟨X, 2, none⟩ = some (.int .i64 pb) := fun t => (t.h.row HX.out HXT.out).cell 2
  have k4 : ∀ t : Kept u0 T, t.u.cell? ⟨X, 3, none⟩ = some (.int .i64 pp) := fun t => (t.h.row HX.out HXT.out).cell 3
  (refine region_kept (T) [0, 1, 2, 3, 4, 5, 6, 7] [8, 9] (by kernel_rfl) (by kernel_rfl) (fun _ _ _ _ _ h => h) ?_; simp only [List.filterMap_cons, List.getElem?_cons_zero, List.getElem?_cons_succ, List.filterMap_nil]; (repeat ((show wpQuiet _ _ _ _ (_ :: _) _); go_big_quiet_step (fail))); refine wpQuiet_nil ?_)
  clear k1 k2 k3 k4
  refine wpSeqS_step ?_
  go_wp2_with fail
  have HDu := Lib.hid (HD.out.below (below_drewN0 (Below.refl _ _) 1))
  refine (HS.out _ HDu.out).mono ?_
  rintro e w2 ⟨rfl, S2, sh2, hto, hset⟩
  have HTo := Lib.hid hto
  have HSet := Lib.hid hset
  have HT2u : Hid (Turns u0 w2 T) := by obtain ⟨_, _, _, g2, _⟩ := hto; exact ((Turns.refl u0 T).drew).trans g2 (fun q hq => .inl hq)
  have HSe : Hid ((S2.sectors = S.sectors ∧ S2.page = S.page ∧ S2.held = S.held) ∧ sh2.full = sh.full ∧ sh2.L.length ≤ sh.L.length + 1 ∧ S2.cnt ≤ S.cnt + 1) := ⟨⟨hset.sectors, hset.page, hset.held⟩, by have := hset.full; have := HFl.out; omega, hset.puts.2, hset.cnt⟩
  have HPw := Lib.hid (HD.out.pw.sets (s := s) (v := b * 256 + p + 1) (by have := HI.out; have := HSn.out; omega) (by have := HR0.out; have := HBn.out; have := HPn.out; omega) hset)
  clear hto hset
  have HX2 : Hid (Row w2 X 30 #[.int .i64 1, .int .i64 sc, .int .i64 pb, .int .i64 pp]) := HT2u.out.row HX.out HXT.out
  go_wp2_with fail
  refine outQ_normal HT2u.out ?_
  refine wpSeqS_last ?_
  have y2 := HX2.out.cell 2
  have y3 := HX2.out.cell 3
  simp only [List.getElem?_toArray, List.getElem?_cons_zero, List.getElem?_cons_succ] at y2 y3
  go_wp2_with fail
  refine (HRi.out _).mono ?_
  rintro e w3 ⟨rfl, hb⟩
  have HB3 := Lib.hid hb
  clear hb y2 y3
  have HTo3 : Hid (SmTo u0.drew w3 Mb Sb T F S2 sh2) := by
    obtain ⟨T2, F2, g1, g2, g3, g4⟩ := HTo.out
    exact ⟨T2, F2, g1.below HB3.out, g2.then_below HB3.out, g3, g4⟩
  have HT3 : Hid (Turns u0 w3 T) := HT2u.out.then_below HB3.out
  have HX3 : Hid (Row w3 X 30 #[.int .i64 1, .int .i64 sc, .int .i64 pb, .int .i64 pp]) := HX2.out.below HB3.out HX2.out.lt
  have HR3 := Lib.hid (HT3.out.row HD.out.row HD.out.sepW.1)
  go_wp2
  have HHa : Hid (HasIs w3 Hb hs) := HD.out.has.turns HT3.out HD.out.sepH.1
  have k1 : ∀ t : Kept w3 [], t.u.cell? ⟨Wb, 5, none⟩ = some (.map (some Hb)) := fun t => (t.h.row HR3.out (by simp)).cell 5
  have k2 : ∀ t : Kept w3 [], t.u.cell? ⟨X, 1, none⟩ = some (.int .i64 sc) := fun t => (t.h.row HX3.out (by simp)).cell 1
  have k3 : ∀ t : Kept w3 [], t.u.cell? ⟨X, 2, none⟩ = some (.int .i64 pb) := fun t => (t.h.row HX3.out (by simp)).cell 2
  have k4 : ∀ t : Kept w3 [], t.u.cell? ⟨X, 3, none⟩ = some (.int .i64 pp) := fun t => (t.h.row HX3.out (by simp)).cell 3
  (refine region_kept ([]) [0, 1, 2, 3, 4, 5, 6, 7] [8] (by kernel_rfl) (by kernel_rfl) (fun _ _ _ _ _ h => h) ?_; simp only [List.filterMap_cons, List.getElem?_cons_zero, List.getElem?_cons_succ, List.filterMap_nil]; (repeat ((show wpQuiet _ _ _ _ (_ :: _) _); go_big_quiet_step (fail))); refine wpQuiet_nil ?_)
  clear k1 k2 k3 k4
  refine wpSeqS_last ?_
  obtain ⟨w4, hup, hh4, ht4⟩ := (HHa.out.turns ((Turns.refl w3 []).drew) (by simp)).set s (b * 256 + p + 1) (by have := HI.out; have := HSn.out; have := HD.out.sm.few; omega) (by omega)
  rw [HNv.out, ← HSn.out] at hup
  have HUp := Lib.hid (HDu.out.update HTo3.out HSe.out.1.1 HSe.out.1.2.1 HSe.out.1.2.2 (((Turns.refl w3 [Hb]).drew).trans ht4 (fun q hq => .inl hq)) hh4 HPw.out)
  have HX4 : Hid (Row w4 X 30 #[.int .i64 1, .int .i64 sc, .int .i64 pb, .int .i64 pp]) := ht4.row (show Row w3.drew X _ _ from HX3.out) (by simp; exact HXW.out.2.2)
  clear hh4 ht4
  go_wp2
  obtain ⟨T2, F2, hd4, ht4, hg4, hf4⟩ := HUp.out
  have HB4 : Hid (Below B w w4) := (HB1.out.mono HBl.out).trans ((below_drewN0 (Below.refl _ _) 1).trans (ht4.below (Below.refl _ _) (Nat.le_trans HBl.out HB1.out.size) (fun q hq => by
    rcases List.mem_cons.1 hq with rfl | hq
    · exact HD.out.low.2.1
    · exact HD.out.low.2.2 q hq)))
  replace HXT : Hid (X ∉ T2) := fun hm => (hg4 _ hm).elim HXT.out (fun h => by have := HX.out.lt; have : u0.heap.size ≤ X := h; omega)
  replace HD := Lib.hid hd4
  replace HX := HX4
  obtain ⟨hs2, hhs2⟩ : ∃ hs2, hs2 = updH hs s (b * 256 + p + 1) := ⟨_, rfl⟩
  rw [← hhs2] at HD
  replace HFl : Hid (sh2.full = -1) := HSe.out.2.1.trans HFl.out
  have HL0 := HL
  replace HL : Hid (sh2.L.length ≤ 262143) := by have := HSe.out.2.2.1; have := HL0.out; unfold Hid; omega
  replace HHl : Hid (hl0 = S2.held) := HHl.out.trans HSe.out.1.2.2.symm
  clear hd4 ht4 hg4 hf4 hhs2 hup
  obtain ⟨cn, hcn⟩ : ∃ cn, cn = S2.cnt := ⟨_, rfl⟩
  replace HCn := Lib.hid hcn
  clear hcn HUp HX4 HPw HTo3 HTo HDu HX3 HX2 HR3 HHa
  have k1 : ∀ t : Kept w4 T2, t.u.cell? ⟨Wb, 4, none⟩ = some (.pointer (some ⟨Mb, 0, none⟩)) := fun t => (t.h.row HD.out.row HD.out.sepW.1).cell 4
  have k2 : ∀ t : Kept w4 T2, t.u.cell? ⟨Wb, 2, none⟩ = some (.int .i64 hl0) := fun t => by rw [HHl.out]; exact (t.h.row HD.out.row HD.out.sepW.1).cell 2
  have k3 : ∀ t : Kept w4 T2, t.u.cell? ⟨X, 1, none⟩ = some (.int .i64 sc) := fun t => (t.h.row HX.out HXT.out).cell 1
  have hS : ∃ t : Kept w4 T2, World.drew w4 = t.u := ⟨⟨_, (Turns.refl _ _).drew⟩, rfl⟩
  have hmx : Try.prog.follows .mixedOrders = true := by kernel_rfl
  have hcl : cn ≤ hl0 := by rw [HCn.out, HHl.out]; exact HD.out.pw.wl.held
  have HHe : Hid (∀ u, Below (World.heap w4).size w4 u → Calls Try.prog 13 #[.pointer (some ⟨Mb, 0, none⟩)] u fun e w' => e = .returned (.int .i64 cn) ∧ Below u.heap.size u w') := fun u hu => by rw [HCn.out]; exact (end_calls HD.out HFl.out HL.out sc u hu).1
  have HDi : Hid (∀ u, Below (World.heap w4).size w4 u → Calls Try.prog 34 #[.pointer (some ⟨Mb, 0, none⟩)] u fun e w' => (∃ k : Nat, e = .returned (.int .i64 k) ∧ k ≤ cn) ∧ Below u.heap.size u w') := fun u hu => by rw [HCn.out]; exact (end_calls HD.out HFl.out HL.out sc u hu).2.1
  have HGe : Hid (∀ u, Below (World.heap w4).size w4 u → Calls Try.prog 20 #[.pointer (some ⟨Wb, 0, none⟩), .int .i64 sc] u fun e w' => e = .returned (.bool true) ∧ WdM w4 w' B Wb Mb Sb Hb T2 F2 1 1 S2 sh2 hs2 ∧ Turns u w' T2) := fun u hu => (end_calls HD.out HFl.out HL.out sc u hu).2.2
  refine wp_region_noPanic ?_
  refine region_treeW (fun u => ∃ t : Kept w4 T2, u = t.u) (Tn.takes [0,1,2,3,5,6,7,8] (.one 4 (Tn.takes [9,10,11,12,13,14,16,17,18,19] (.one 15 (.one 20 (Tn.takes [21,22,23,24,25,26] (.one 27 (.take 28 (.take 29 .nil))))))))) hmx (by kernel_rfl) (fun _ _ _ _ _ h => h) hS ?_
  simp only [Tn.takes]
  (repeat ((with_reducible refine wpTree_take (by with_unfolding_all exact rfl) ?_); (with_reducible (show wpQuiet _ _ _ _ (_ :: _) _)); go_big_quiet_step (fail); (with_reducible refine wpQuiet_nil ?_)))
  (with_reducible refine wpTree_one (by with_unfolding_all exact rfl) ?_)
  gi_wp2_with fail
  refine ((callsIn_wide (n := 8)).2 (HHe.out _ ((Below.refl _ _).drew))).mono ?_
  rintro e w6 ⟨rfl, hb6⟩
  have HB6 : Hid (Below (World.heap w4).size w4 w6) := ((Below.refl _ _).drew).trans hb6
  clear hb6
  gi_wp2_with fail
  (with_reducible refine outQ_normal ?_ ?_); exact ⟨⟨w6, Turns.of_below HB6.out _⟩, rfl⟩
  (repeat ((with_reducible refine wpTree_take (by with_unfolding_all exact rfl) ?_); (with_reducible (show wpQuiet _ _ _ _ (_ :: _) _)); go_big_quiet_step (fail); (with_reducible refine wpQuiet_nil ?_)))
  (with_reducible refine wpTree_one (by with_unfolding_all exact rfl) ?_)
  gi_wp2_with fail
  refine ((callsIn_wide (n := 8)).2 (HDi.out _ HB6.out)).mono ?_
  rintro e w7 ⟨⟨dn, rfl, hdn⟩, hb7⟩
  have HB7 : Hid (Below (World.heap w4).size w4 w7) := HB6.out.trans (hb7.mono HB6.out.size)
  clear hb7
  gi_wp2_with fail
  (with_reducible refine outQ_normal ?_ ?_); exact ⟨⟨w7, Turns.of_below HB7.out _⟩, rfl⟩
  (with_reducible refine wpTree_one (by with_unfolding_all exact rfl) ?_)
  gi_wp2_with fail
  refine ((callsIn_wide (n := 8)).2 (HHe.out _ HB7.out)).mono ?_
  rintro e w8 ⟨rfl, hb8⟩
  have HB8 : Hid (Below (World.heap w4).size w4 w8) := HB7.out.trans (hb8.mono HB7.out.size)
  clear hb8
  gi_wp2_with fail
  (with_reducible refine outQ_normal ?_ ?_); exact ⟨⟨w8, Turns.of_below HB8.out _⟩, rfl⟩
  (repeat ((with_reducible refine wpTree_take (by with_unfolding_all exact rfl) ?_); (with_reducible (show wpQuiet _ _ _ _ (_ :: _) _)); go_big_quiet_step (fail); (with_reducible refine wpQuiet_nil ?_)))
  (with_reducible refine wpTree_one (by with_unfolding_all exact rfl) ?_)
  gi_wp2_with fail
  refine ((callsIn_wide (n := 8)).2 (HGe.out _ HB8.out)).mono ?_
  rintro e w9 ⟨rfl, hm9, ht9⟩
  have HM9 := Lib.hid hm9
  have HT9 : Hid (Turns w4 w9 T2) := (Turns.of_below HB8.out _).trans ht9 (fun q hq => .inl hq)
  clear hm9 ht9
  gi_wp2_with fail
  (with_reducible refine outQ_normal ?_ ?_); exact ⟨⟨w9, HT9.out⟩, rfl⟩
  (repeat ((with_reducible refine wpTree_take (by with_unfolding_all exact rfl) ?_); (with_reducible (show wpQuiet _ _ _ _ (_ :: _) _)); go_big_quiet_step (fail); (with_reducible refine wpQuiet_nil ?_)))
  with_reducible refine wpTree_nil ?_
  refine NoPanic.normal ?_
  clear k1 k2 k3 hS
  go_wp2
  go_ret
  exact ⟨by first | (simp; done) | (simp; omega), (WdM.wdTo HD.out HM9.out).late HB4.out HSe.out.1 HSe.out.2.1 HSe.out.2.2.1 HSe.out.2.2.2⟩
end Go.Proofs.Ytfipmpajdkgffaa

namespace Go.Proofs.Ytfipmpajdkgffaa
open Go.RowKit Go.MapKept Go.ChangeMaps
attribute [local go_sem] Oper.semAt_some
attribute [local simp, local go_sem] wide_fn
set_option linter.unusedVariables false
set_option linter.unusedSimpArgs false
set_option maxRecDepth 100000 in
set_option maxHeartbeats 4000000 in
theorem step_clear_bad (w : World) (B Wb Mb Sb Hb : Nat) (T F : List Nat) (S : Sm) (sh : Sh) (hs : Nat → Nat) (h : WdIs w B Wb Mb Sb Hb T F S sh hs) (hf : sh.full = -1) (hl : sh.L.length ≤ 262143) (x : Ac) (hop : x.op = 2) (hbad : x.s < 0 ∨ (S.sectors : Int) ≤ x.s) :
    Calls Try.prog 19 #[.pointer (some ⟨Wb, 0, none⟩), x.val] w fun e w' => e = .returned (.bool true) ∧ WdTo w w' B Wb Sb Hb 1 1 S sh := by
  have HS : Hid (∀ u, Below w.heap.size w u → Calls Try.prog 33 #[.pointer (some ⟨Mb, 0, none⟩), .int .i64 x.s] u fun e w' => e = .returned (.int .i64 1) ∧ Below u.heap.size u w') := fun u hu => Clear_out u Mb Sb T F S sh (h.below hu).sm x.s hbad
  obtain ⟨op, sc, pb, pp⟩ := x
  unfold Ac.val
  dsimp only at hop ⊢
  subst hop
  obtain ⟨w1, hw1⟩ : ∃ w1, w1 = w.alloc (.cells #[.int .i64 2, .int .i64 sc, .int .i64 pb, .int .i64 pp] 30) := ⟨_, rfl⟩
  have HB1 : Hid (Below w.heap.size w w1) := by unfold Hid; rw [hw1]; exact (Below.refl _ _).alloc (Nat.le_refl _) _
  obtain ⟨X, hX⟩ : ∃ X, X = w.heap.size := ⟨_, rfl⟩
  have HX : Hid (Row w1 X 30 #[.int .i64 2, .int .i64 sc, .int .i64 pb, .int .i64 pp]) := by unfold Hid; rw [hw1, hX]; exact Row.fresh _ _ _
  have HD := Lib.hid (h.below HB1.out)
  have HXT : Hid (X ∉ T) := fun hm => by
    obtain ⟨_, _, _, _, h1⟩ := h.sm
    have := h1.lt _ (.inl hm); omega
  have HXW : Hid (X ∉ F ∧ X ≠ Wb ∧ X ≠ Hb) := ⟨fun hm => by
    obtain ⟨_, _, _, _, h1⟩ := h.sm
    have := h1.lt _ (.inr hm); omega, by have := h.row.lt; omega, by have := h.has.lt; omega⟩
  have HBl := Lib.hid h.B_le
  have HFl := Lib.hid hf
  have HL := Lib.hid hl
  have x0 := HX.out.cell 0
  have x1 := HX.out.cell 1
  have c0 := HD.out.row.cell 0
  simp only [List.getElem?_toArray, List.getElem?_cons_zero, List.getElem?_cons_succ] at x0 x1 c0
  have hsec := h.sm.few
  obtain ⟨st, hst⟩ : ∃ st, st = S.sectors := ⟨_, rfl⟩
  obtain ⟨cn, hcn⟩ : ∃ cn, cn = S.cnt := ⟨_, rfl⟩
  have HCn := Lib.hid hcn
  clear hcn
  obtain ⟨hl0, hhl⟩ : ∃ hl0, hl0 = S.held := ⟨_, rfl⟩
  have HSt := Lib.hid hst
  have HHl := Lib.hid hhl
  rw [← hst] at c0 hsec
  have HX1 := Lib.hid hX
  rw [hX, hw1] at x0 x1
  rw [hw1] at c0
  have HW1 := Lib.hid hw1
  have HH := Lib.hid h
  clear h hf hl hst hhl hX hw1
  dsimp only at hbad HS
  rw [← HSt.out] at hbad
  by_cases i0 : 0 ≤ sc
  · have i1 : ¬ sc < st := by omega
    have g2 : decide (sc < (st : Int)) = false := decide_eq_false i1
    clear hbad
    go_enter Try.func19, Try.ntmps19
    go_wp2
    go_quiet (fail)
    go_wp2
    rw [← HW1.out]
    obtain ⟨u0, hu0⟩ : ∃ u0, u0 = w1.drewN nq := ⟨_, rfl⟩
    rw [← hu0]
    replace HD : Hid (WdIs u0 B Wb Mb Sb Hb T F S sh hs) := by unfold Hid; rw [hu0]; exact HD.out.below (below_drewN0 (Below.refl _ _) _)
    replace HX : Hid (Row u0 X 30 #[.int .i64 2, .int .i64 sc, .int .i64 pb, .int .i64 pp]) := by unfold Hid; rw [hu0]; exact HX.out
    replace HB1 : Hid (Below w.heap.size w u0) := by unfold Hid; rw [hu0]; exact below_drewN0 HB1.out _
    rw [← HX1.out]
    clear hu0 x0 x1 c0
    have k1 : ∀ t : Kept u0 [], t.u.cell? ⟨Wb, 4, none⟩ = some (.pointer (some ⟨Mb, 0, none⟩)) := fun t => (t.h.row HD.out.row (by simp)).cell 4
    have k2 : ∀ t : Kept u0 [], t.u.cell? ⟨X, 1, none⟩ = some (.int .i64 sc) := fun t => (t.h.row HX.out (by simp)).cell 1
    (refine region_kept ([]) [0, 1, 2, 3, 4, 5] [6, 7] (by kernel_rfl) (by kernel_rfl) (fun _ _ _ _ _ h => h) ?_; simp only [List.filterMap_cons, List.getElem?_cons_zero, List.getElem?_cons_succ, List.filterMap_nil]; (repeat ((show wpQuiet _ _ _ _ (_ :: _) _); go_big_quiet_step (fail))); refine wpQuiet_nil ?_)
    clear k1 k2
    refine wpSeqS_step ?_
    go_wp2_with fail
    refine (HS.out _ (HB1.out.trans ((Below.refl _ _).drew.mono HB1.out.size))).mono ?_
    rintro e w2 ⟨rfl, hb⟩
    have HT2 : Hid (Turns u0 w2 []) := ((Turns.refl u0 []).drew).then_below hb
    have HB2 : Hid (Below u0.heap.size u0 w2) := (Below.refl _ _).drew.trans hb
    clear hb
    go_wp2_with fail
    refine outQ_normal HT2.out ?_
    refine wpSeqS_last ?_
    go_wp2
    go_ret
    exact ⟨by first | (simp; done) | rfl, HH.out.stay (HB1.out.trans (HB2.out.mono HB1.out.size))⟩
  · have i1 : sc < 0 := by omega
    have g1 : decide (0 ≤ sc) = false := decide_eq_false i0
    clear hbad
    go_enter Try.func19, Try.ntmps19
    go_wp2
    go_quiet (fail)
    go_wp2
    rw [← HW1.out]
    obtain ⟨u0, hu0⟩ : ∃ u0, u0 = w1.drewN nq := ⟨_, rfl⟩
    rw [← hu0]
    replace HD : Hid (WdIs u0 B Wb Mb Sb Hb T F S sh hs) := by unfold Hid; rw [hu0]; exact HD.out.below (below_drewN0 (Below.refl _ _) _)
    replace HX : Hid (Row u0 X 30 #[.int .i64 2, .int .i64 sc, .int .i64 pb, .int .i64 pp]) := by unfold Hid; rw [hu0]; exact HX.out
    replace HB1 : Hid (Below w.heap.size w u0) := by unfold Hid; rw [hu0]; exact below_drewN0 HB1.out _
    rw [← HX1.out]
    clear hu0 x0 x1 c0
    have k1 : ∀ t : Kept u0 [], t.u.cell? ⟨Wb, 4, none⟩ = some (.pointer (some ⟨Mb, 0, none⟩)) := fun t => (t.h.row HD.out.row (by simp)).cell 4
    have k2 : ∀ t : Kept u0 [], t.u.cell? ⟨X, 1, none⟩ = some (.int .i64 sc) := fun t => (t.h.row HX.out (by simp)).cell 1
    (refine region_kept ([]) [0, 1, 2, 3, 4, 5] [6, 7] (by kernel_rfl) (by kernel_rfl) (fun _ _ _ _ _ h => h) ?_; simp only [List.filterMap_cons, List.getElem?_cons_zero, List.getElem?_cons_succ, List.filterMap_nil]; (repeat ((show wpQuiet _ _ _ _ (_ :: _) _); go_big_quiet_step (fail))); refine wpQuiet_nil ?_)
    clear k1 k2
    refine wpSeqS_step ?_
    go_wp2_with fail
    refine (HS.out _ (HB1.out.trans ((Below.refl _ _).drew.mono HB1.out.size))).mono ?_
    rintro e w2 ⟨rfl, hb⟩
    have HT2 : Hid (Turns u0 w2 []) := ((Turns.refl u0 []).drew).then_below hb
    have HB2 : Hid (Below u0.heap.size u0 w2) := (Below.refl _ _).drew.trans hb
    clear hb
    go_wp2_with fail
    refine outQ_normal HT2.out ?_
    refine wpSeqS_last ?_
    go_wp2
    go_ret
    exact ⟨by first | (simp; done) | rfl, HH.out.stay (HB1.out.trans (HB2.out.mono HB1.out.size))⟩
set_option maxRecDepth 100000 in
set_option maxHeartbeats 4000000 in
theorem step_clear (w : World) (B Wb Mb Sb Hb : Nat) (T F : List Nat) (S : Sm) (sh : Sh) (hs : Nat → Nat) (h : WdIs w B Wb Mb Sb Hb T F S sh hs) (hf : sh.full = -1) (hl : sh.L.length + 1 ≤ 262143) (x : Ac) (hop : x.op = 2) (hin : 0 ≤ x.s ∧ x.s < S.sectors) :
    Calls Try.prog 19 #[.pointer (some ⟨Wb, 0, none⟩), x.val] w fun e w' => e = .returned (.bool true) ∧ WdTo w w' B Wb Sb Hb 2 2 S sh := by
  obtain ⟨op, sc, pb, pp⟩ := x
  unfold Ac.val
  dsimp only at hop ⊢
  subst hop
  obtain ⟨w1, hw1⟩ : ∃ w1, w1 = w.alloc (.cells #[.int .i64 2, .int .i64 sc, .int .i64 pb, .int .i64 pp] 30) := ⟨_, rfl⟩
  have HB1 : Hid (Below w.heap.size w w1) := by unfold Hid; rw [hw1]; exact (Below.refl _ _).alloc (Nat.le_refl _) _
  obtain ⟨X, hX⟩ : ∃ X, X = w.heap.size := ⟨_, rfl⟩
  have HX : Hid (Row w1 X 30 #[.int .i64 2, .int .i64 sc, .int .i64 pb, .int .i64 pp]) := by unfold Hid; rw [hw1, hX]; exact Row.fresh _ _ _
  have HD := Lib.hid (h.below HB1.out)
  have HXT : Hid (X ∉ T) := fun hm => by
    obtain ⟨_, _, _, _, h1⟩ := h.sm
    have := h1.lt _ (.inl hm); omega
  have HXW : Hid (X ∉ F ∧ X ≠ Wb ∧ X ≠ Hb) := ⟨fun hm => by
    obtain ⟨_, _, _, _, h1⟩ := h.sm
    have := h1.lt _ (.inr hm); omega, by have := h.row.lt; omega, by have := h.has.lt; omega⟩
  have HBl := Lib.hid h.B_le
  have HFl := Lib.hid hf
  have HL := Lib.hid hl
  have x0 := HX.out.cell 0
  have x1 := HX.out.cell 1
  have c0 := HD.out.row.cell 0
  simp only [List.getElem?_toArray, List.getElem?_cons_zero, List.getElem?_cons_succ] at x0 x1 c0
  have hsec := h.sm.few
  obtain ⟨st, hst⟩ : ∃ st, st = S.sectors := ⟨_, rfl⟩
  obtain ⟨cn, hcn⟩ : ∃ cn, cn = S.cnt := ⟨_, rfl⟩
  have HCn := Lib.hid hcn
  clear hcn
  obtain ⟨hl0, hhl⟩ : ∃ hl0, hl0 = S.held := ⟨_, rfl⟩
  have HSt := Lib.hid hst
  have HHl := Lib.hid hhl
  rw [← hst] at c0 hsec
  have HX1 := Lib.hid hX
  rw [hX, hw1] at x0 x1
  rw [hw1] at c0
  have HW1 := Lib.hid hw1
  have HH := Lib.hid h
  clear h hf hl hst hhl hX hw1
  dsimp only at hin
  obtain ⟨s, hsn⟩ : ∃ s : Nat, sc = s := ⟨sc.toNat, by omega⟩
  have HSn := Lib.hid hsn
  have HI := Lib.hid hin
  rw [← HSt.out] at hin
  obtain ⟨i0, i1⟩ := hin
  have HS : Hid (∀ u, WdIs u B Wb Mb Sb Hb T F S sh hs → Calls Try.prog 33 #[.pointer (some ⟨Mb, 0, none⟩), .int .i64 sc] u fun e w' => e = .returned (.int .i64 0) ∧ ∃ S2 sh2, SmTo u w' Mb Sb T F S2 sh2 ∧ Sets s 0 1 1 S sh S2 sh2) := fun u hu => by
    rw [hsn]
    refine (Clear_any u Mb Sb T F S sh hu.sm s (by have := HI.out; omega) (by have := HL.out; omega) hu.pw.wl).mono fun e w' h => ?_
    rcases h with ⟨h1, _, S2, sh2, h3, h4⟩ | ⟨c, _, ⟨_, h2⟩ | ⟨_, h2⟩, _⟩
    · exact ⟨h1, S2, sh2, h3, h4⟩
    · obtain ⟨z, hz⟩ := hu.pw.tellsS (s := s) (by have := HI.out; omega)
      rw [hz] at h2; cases h2
    · have := HFl.out; omega
  clear hsn
  go_enter Try.func19, Try.ntmps19
  go_wp2
  go_quiet (fail)
  go_wp2
  rw [← HW1.out]
  obtain ⟨u0, hu0⟩ : ∃ u0, u0 = w1.drewN nq := ⟨_, rfl⟩
  rw [← hu0]
  replace HD : Hid (WdIs u0 B Wb Mb Sb Hb T F S sh hs) := by unfold Hid; rw [hu0]; exact HD.out.below (below_drewN0 (Below.refl _ _) _)
  replace HX : Hid (Row u0 X 30 #[.int .i64 2, .int .i64 sc, .int .i64 pb, .int .i64 pp]) := by unfold Hid; rw [hu0]; exact HX.out
  replace HB1 : Hid (Below w.heap.size w u0) := by unfold Hid; rw [hu0]; exact below_drewN0 HB1.out _
  rw [← HX1.out]
  clear hu0 x0 x1 c0
  have k1 : ∀ t : Kept u0 T, t.u.cell? ⟨Wb, 4, none⟩ = some (.pointer (some ⟨Mb, 0, none⟩)) := fun t => (t.h.row HD.out.row HD.out.sepW.1).cell 4
  have k2 : ∀ t : Kept u0 T, t.u.cell? ⟨X, 1, none⟩ = some (.int .i64 sc) := fun t => (t.h.row HX.out HXT.out).cell 1
  (refine region_kept (T) [0, 1, 2, 3, 4, 5] [6, 7] (by kernel_rfl) (by kernel_rfl) (fun _ _ _ _ _ h => h) ?_; simp only [List.filterMap_cons, List.getElem?_cons_zero, List.getElem?_cons_succ, List.filterMap_nil]; (repeat ((show wpQuiet _ _ _ _ (_ :: _) _); go_big_quiet_step (fail))); refine wpQuiet_nil ?_)
  clear k1 k2
  refine wpSeqS_step ?_
  go_wp2_with fail
  have HDu := Lib.hid (HD.out.below (below_drewN0 (Below.refl _ _) 1))
  refine (HS.out _ HDu.out).mono ?_
  rintro e w2 ⟨rfl, S2, sh2, hto, hset⟩
  have HTo := Lib.hid hto
  have HSet := Lib.hid hset
  have HT2u : Hid (Turns u0 w2 T) := by obtain ⟨_, _, _, g2, _⟩ := hto; exact ((Turns.refl u0 T).drew).trans g2 (fun q hq => .inl hq)
  have HSe : Hid ((S2.sectors = S.sectors ∧ S2.page = S.page ∧ S2.held = S.held) ∧ sh2.full = sh.full ∧ sh2.L.length ≤ sh.L.length + 1 ∧ S2.cnt ≤ S.cnt + 1) := ⟨⟨hset.sectors, hset.page, hset.held⟩, by have := hset.full; have := HFl.out; omega, hset.puts.2, hset.cnt⟩
  have HPw := Lib.hid (HD.out.pw.sets (s := s) (v := 0) (by have := HI.out; have := HSn.out; omega) (by omega) hset)
  clear hto hset
  have HX2 : Hid (Row w2 X 30 #[.int .i64 2, .int .i64 sc, .int .i64 pb, .int .i64 pp]) := HT2u.out.row HX.out HXT.out
  go_wp2_with fail
  refine outQ_normal HT2u.out ?_
  refine wpSeqS_last ?_
  have HT3 := Lib.hid HT2u.out
  have HR3 := Lib.hid (HT3.out.row HD.out.row HD.out.sepW.1)
  go_wp2
  have HHa : Hid (HasIs w2 Hb hs) := HD.out.has.turns HT3.out HD.out.sepH.1
  have k1 : ∀ t : Kept w2 [], t.u.cell? ⟨Wb, 5, none⟩ = some (.map (some Hb)) := fun t => (t.h.row HR3.out (by simp)).cell 5
  have k2 : ∀ t : Kept w2 [], t.u.cell? ⟨X, 1, none⟩ = some (.int .i64 sc) := fun t => (t.h.row HX2.out (by simp)).cell 1
  (refine region_kept ([]) [0, 1, 2, 3, 4, 5] [6] (by kernel_rfl) (by kernel_rfl) (fun _ _ _ _ _ h => h) ?_; simp only [List.filterMap_cons, List.getElem?_cons_zero, List.getElem?_cons_succ, List.filterMap_nil]; (repeat ((show wpQuiet _ _ _ _ (_ :: _) _); go_big_quiet_step (fail))); refine wpQuiet_nil ?_)
  clear k1 k2
  refine wpSeqS_last ?_
  obtain ⟨w4, hup, hh4, ht4⟩ := (HHa.out.turns ((Turns.refl w2 []).drew) (by simp)).clear s (by have := HI.out; have := HSn.out; have := HD.out.sm.few; omega)
  rw [← HSn.out] at hup
  have HUp := Lib.hid (HDu.out.update HTo.out HSe.out.1.1 HSe.out.1.2.1 HSe.out.1.2.2 (((Turns.refl w2 [Hb]).drew).trans ht4 (fun q hq => .inl hq)) hh4 HPw.out)
  have HX4 : Hid (Row w4 X 30 #[.int .i64 2, .int .i64 sc, .int .i64 pb, .int .i64 pp]) := ht4.row (show Row w2.drew X _ _ from HX2.out) (by simp; exact HXW.out.2.2)
  clear hh4 ht4
  go_wp2
  obtain ⟨T2, F2, hd4, ht4, hg4, hf4⟩ := HUp.out
  have HB4 : Hid (Below B w w4) := (HB1.out.mono HBl.out).trans ((below_drewN0 (Below.refl _ _) 1).trans (ht4.below (Below.refl _ _) (Nat.le_trans HBl.out HB1.out.size) (fun q hq => by
    rcases List.mem_cons.1 hq with rfl | hq
    · exact HD.out.low.2.1
    · exact HD.out.low.2.2 q hq)))
  replace HXT : Hid (X ∉ T2) := fun hm => (hg4 _ hm).elim HXT.out (fun h => by have := HX.out.lt; have : u0.heap.size ≤ X := h; omega)
  replace HD := Lib.hid hd4
  replace HX := HX4
  obtain ⟨hs2, hhs2⟩ : ∃ hs2, hs2 = updH hs s 0 := ⟨_, rfl⟩
  rw [← hhs2] at HD
  replace HFl : Hid (sh2.full = -1) := HSe.out.2.1.trans HFl.out
  have HL0 := HL
  replace HL : Hid (sh2.L.length ≤ 262143) := by have := HSe.out.2.2.1; have := HL0.out; unfold Hid; omega
  replace HHl : Hid (hl0 = S2.held) := HHl.out.trans HSe.out.1.2.2.symm
  clear hd4 ht4 hg4 hf4 hhs2 hup
  obtain ⟨cn, hcn⟩ : ∃ cn, cn = S2.cnt := ⟨_, rfl⟩
  replace HCn := Lib.hid hcn
  clear hcn HUp HX4 HPw HTo HDu HX2 HR3 HHa
  have k1 : ∀ t : Kept w4 T2, t.u.cell? ⟨Wb, 4, none⟩ = some (.pointer (some ⟨Mb, 0, none⟩)) := fun t => (t.h.row HD.out.row HD.out.sepW.1).cell 4
  have k2 : ∀ t : Kept w4 T2, t.u.cell? ⟨Wb, 2, none⟩ = some (.int .i64 hl0) := fun t => by rw [HHl.out]; exact (t.h.row HD.out.row HD.out.sepW.1).cell 2
  have k3 : ∀ t : Kept w4 T2, t.u.cell? ⟨X, 1, none⟩ = some (.int .i64 sc) := fun t => (t.h.row HX.out HXT.out).cell 1
  have hS : ∃ t : Kept w4 T2, World.drew w4 = t.u := ⟨⟨_, (Turns.refl _ _).drew⟩, rfl⟩
  have hmx : Try.prog.follows .mixedOrders = true := by kernel_rfl
  have hcl : cn ≤ hl0 := by rw [HCn.out, HHl.out]; exact HD.out.pw.wl.held
  have HHe : Hid (∀ u, Below (World.heap w4).size w4 u → Calls Try.prog 13 #[.pointer (some ⟨Mb, 0, none⟩)] u fun e w' => e = .returned (.int .i64 cn) ∧ Below u.heap.size u w') := fun u hu => by rw [HCn.out]; exact (end_calls HD.out HFl.out HL.out sc u hu).1
  have HDi : Hid (∀ u, Below (World.heap w4).size w4 u → Calls Try.prog 34 #[.pointer (some ⟨Mb, 0, none⟩)] u fun e w' => (∃ k : Nat, e = .returned (.int .i64 k) ∧ k ≤ cn) ∧ Below u.heap.size u w') := fun u hu => by rw [HCn.out]; exact (end_calls HD.out HFl.out HL.out sc u hu).2.1
  have HGe : Hid (∀ u, Below (World.heap w4).size w4 u → Calls Try.prog 20 #[.pointer (some ⟨Wb, 0, none⟩), .int .i64 sc] u fun e w' => e = .returned (.bool true) ∧ WdM w4 w' B Wb Mb Sb Hb T2 F2 1 1 S2 sh2 hs2 ∧ Turns u w' T2) := fun u hu => (end_calls HD.out HFl.out HL.out sc u hu).2.2
  refine wp_region_noPanic ?_
  refine region_treeW (fun u => ∃ t : Kept w4 T2, u = t.u) (Tn.takes [0,1,2,3,5,6,7,8] (.one 4 (Tn.takes [9,10,11,12,13,14,16,17,18,19] (.one 15 (.one 20 (Tn.takes [21,22,23,24,25,26] (.one 27 (.take 28 (.take 29 .nil))))))))) hmx (by kernel_rfl) (fun _ _ _ _ _ h => h) hS ?_
  simp only [Tn.takes]
  (repeat ((with_reducible refine wpTree_take (by with_unfolding_all exact rfl) ?_); (with_reducible (show wpQuiet _ _ _ _ (_ :: _) _)); go_big_quiet_step (fail); (with_reducible refine wpQuiet_nil ?_)))
  (with_reducible refine wpTree_one (by with_unfolding_all exact rfl) ?_)
  gi_wp2_with fail
  refine ((callsIn_wide (n := 8)).2 (HHe.out _ ((Below.refl _ _).drew))).mono ?_
  rintro e w6 ⟨rfl, hb6⟩
  have HB6 : Hid (Below (World.heap w4).size w4 w6) := ((Below.refl _ _).drew).trans hb6
  clear hb6
  gi_wp2_with fail
  (with_reducible refine outQ_normal ?_ ?_); exact ⟨⟨w6, Turns.of_below HB6.out _⟩, rfl⟩
  (repeat ((with_reducible refine wpTree_take (by with_unfolding_all exact rfl) ?_); (with_reducible (show wpQuiet _ _ _ _ (_ :: _) _)); go_big_quiet_step (fail); (with_reducible refine wpQuiet_nil ?_)))
  (with_reducible refine wpTree_one (by with_unfolding_all exact rfl) ?_)
  gi_wp2_with fail
  refine ((callsIn_wide (n := 8)).2 (HDi.out _ HB6.out)).mono ?_
  rintro e w7 ⟨⟨dn, rfl, hdn⟩, hb7⟩
  have HB7 : Hid (Below (World.heap w4).size w4 w7) := HB6.out.trans (hb7.mono HB6.out.size)
  clear hb7
  gi_wp2_with fail
  (with_reducible refine outQ_normal ?_ ?_); exact ⟨⟨w7, Turns.of_below HB7.out _⟩, rfl⟩
  (with_reducible refine wpTree_one (by with_unfolding_all exact rfl) ?_)
  gi_wp2_with fail
  refine ((callsIn_wide (n := 8)).2 (HHe.out _ HB7.out)).mono ?_
  rintro e w8 ⟨rfl, hb8⟩
  have HB8 : Hid (Below (World.heap w4).size w4 w8) := HB7.out.trans (hb8.mono HB7.out.size)
  clear hb8
  gi_wp2_with fail
  (with_reducible refine outQ_normal ?_ ?_); exact ⟨⟨w8, Turns.of_below HB8.out _⟩, rfl⟩
  (repeat ((with_reducible refine wpTree_take (by with_unfolding_all exact rfl) ?_); (with_reducible (show wpQuiet _ _ _ _ (_ :: _) _)); go_big_quiet_step (fail); (with_reducible refine wpQuiet_nil ?_)))
  (with_reducible refine wpTree_one (by with_unfolding_all exact rfl) ?_)
  gi_wp2_with fail
  refine ((callsIn_wide (n := 8)).2 (HGe.out _ HB8.out)).mono ?_
  rintro e w9 ⟨rfl, hm9, ht9⟩
  have HM9 := Lib.hid hm9
  have HT9 : Hid (Turns w4 w9 T2) := (Turns.of_below HB8.out _).trans ht9 (fun q hq => .inl hq)
  clear hm9 ht9
  gi_wp2_with fail
  (with_reducible refine outQ_normal ?_ ?_); exact ⟨⟨w9, HT9.out⟩, rfl⟩
  (repeat ((with_reducible refine wpTree_take (by with_unfolding_all exact rfl) ?_); (with_reducible (show wpQuiet _ _ _ _ (_ :: _) _)); go_big_quiet_step (fail); (with_reducible refine wpQuiet_nil ?_)))
  with_reducible refine wpTree_nil ?_
  refine NoPanic.normal ?_
  clear k1 k2 k3 hS
  go_wp2
  go_ret
  exact ⟨by first | (simp; done) | (simp; omega), (WdM.wdTo HD.out HM9.out).late HB4.out HSe.out.1 HSe.out.2.1 HSe.out.2.2.1 HSe.out.2.2.2⟩
end Go.Proofs.Ytfipmpajdkgffaa

namespace Go.Proofs.Ytfipmpajdkgffaa
open Go.RowKit Go.MapKept Go.ChangeMaps
attribute [local go_sem] Oper.semAt_some
attribute [local simp, local go_sem] wide_fn
set_option linter.unusedVariables false
set_option linter.unusedSimpArgs false
/-- Behind a Flush, a Dirty, a Directory, a Parts. -/
structure Flushed (u0 w5 : World) (B Wb Mb Sb Hb : Nat) (T F T2 F2 : List Nat) (S : Sm) (sh : Sh) (S2 : Sm) (sh2 : Sh) (hs : Nat → Nat) : Prop where
  is : WdIs w5 B Wb Mb Sb Hb T2 F2 S2 sh2 hs
  turns : Turns u0 w5 T
  grown : (∀ q ∈ T2, q ∈ T ∨ u0.heap.size ≤ q) ∧ ∀ q ∈ F2, q ∈ F ∨ u0.heap.size ≤ q
  same : S2.sectors = S.sectors ∧ S2.page = S.page ∧ S2.held = S.held
  full : sh2.full = sh.full
  puts : sh2.L.length ≤ sh.L.length + S.cnt
  cnt : S2.cnt ≤ S.cnt + 0
  clean : ∀ m x, S2.parts m = some x → x.d = false
theorem Flushed.below {u0 w5 w6 : World} {B Wb Mb Sb Hb : Nat} {T F T2 F2 : List Nat} {S : Sm} {sh : Sh} {S2 : Sm} {sh2 : Sh} {hs : Nat → Nat} (h : Flushed u0 w5 B Wb Mb Sb Hb T F T2 F2 S sh S2 sh2 hs) (hb : Below w5.heap.size w5 w6) : Flushed u0 w6 B Wb Mb Sb Hb T F T2 F2 S sh S2 sh2 hs :=
  ⟨h.is.below hb, h.turns.then_below hb, h.grown, h.same, h.full, h.puts, h.cnt, h.clean⟩
theorem flush_world {u0 : World} {B Wb Mb Sb Hb : Nat} {T F : List Nat} {S : Sm} {sh : Sh} {hs : Nat → Nat} (h : WdIs u0 B Wb Mb Sb Hb T F S sh hs) (hf : sh.full = -1) (hl : sh.L.length + S.cnt ≤ 262143) :
    Calls Try.prog 16 #[.pointer (some ⟨Mb, 0, none⟩)] u0 fun e w' => e = .returned (.int .i64 0) ∧ ∃ T2 F2 S2 sh2, Flushed u0 w' B Wb Mb Sb Hb T F T2 F2 S sh S2 sh2 hs :=
  (Flush_any u0 Mb Sb T F S sh h.sm hl hf h.pw.wl).mono fun e w' ⟨he, S2, sh2, hto, hg, hc⟩ => by
    obtain ⟨T2, F2, h1, h2, h3, h4⟩ := h.to hto hg.sectors hg.page hg.held (h.pw.goes hg)
    exact ⟨he, T2, F2, S2, sh2, h1, h2, ⟨h3, h4⟩, ⟨hg.sectors, hg.page, hg.held⟩, by have := hg.full; omega, hg.puts.2, hg.cnt, hc⟩
theorem dirty_world {u : World} {B Wb Mb Sb Hb : Nat} {T F : List Nat} {S : Sm} {sh : Sh} {hs : Nat → Nat} (h : WdIs u B Wb Mb Sb Hb T F S sh hs) (hc : ∀ m x, S.parts m = some x → x.d = false) :
    Calls Try.prog 34 #[.pointer (some ⟨Mb, 0, none⟩)] u fun e w' => e = .returned (.int .i64 0) ∧ Below u.heap.size u w' :=
  (Dirty_any u Mb Sb T F S sh h.sm (by
    have := h.pw.wl.held
    obtain ⟨_, _, _, _, h1⟩ := h.sm
    have := h1.sh.2.2.2.2; omega)).mono fun e w' ⟨⟨k, h1, _, h3⟩, h4⟩ => ⟨by rw [h1, h3 hc]; rfl, h4⟩
set_option maxRecDepth 100000 in
set_option maxHeartbeats 4000000 in
theorem step_flush (w : World) (B Wb Mb Sb Hb : Nat) (T F : List Nat) (S : Sm) (sh : Sh) (hs : Nat → Nat) (h : WdIs w B Wb Mb Sb Hb T F S sh hs) (hf : sh.full = -1) (hl : sh.L.length + S.cnt ≤ 262143) (x : Ac) (hop : x.op = 3) :
    Calls Try.prog 19 #[.pointer (some ⟨Wb, 0, none⟩), x.val] w fun e w' => e = .returned (.bool true) ∧ WdTo w w' B Wb Sb Hb (S.cnt + 1) 1 S sh := by
  have HLc := Lib.hid hl
  obtain ⟨op, sc, pb, pp⟩ := x
  unfold Ac.val
  dsimp only at hop ⊢
  subst hop
  obtain ⟨w1, hw1⟩ : ∃ w1, w1 = w.alloc (.cells #[.int .i64 3, .int .i64 sc, .int .i64 pb, .int .i64 pp] 30) := ⟨_, rfl⟩
  have HB1 : Hid (Below w.heap.size w w1) := by unfold Hid; rw [hw1]; exact (Below.refl _ _).alloc (Nat.le_refl _) _
  obtain ⟨X, hX⟩ : ∃ X, X = w.heap.size := ⟨_, rfl⟩
  have HX : Hid (Row w1 X 30 #[.int .i64 3, .int .i64 sc, .int .i64 pb, .int .i64 pp]) := by unfold Hid; rw [hw1, hX]; exact Row.fresh _ _ _
  have HD := Lib.hid (h.below HB1.out)
  have HXT : Hid (X ∉ T) := fun hm => by
    obtain ⟨_, _, _, _, h1⟩ := h.sm
    have := h1.lt _ (.inl hm); omega
  have HXW : Hid (X ∉ F ∧ X ≠ Wb ∧ X ≠ Hb) := ⟨fun hm => by
    obtain ⟨_, _, _, _, h1⟩ := h.sm
    have := h1.lt _ (.inr hm); omega, by have := h.row.lt; omega, by have := h.has.lt; omega⟩
  have HBl := Lib.hid h.B_le
  have HFl := Lib.hid hf
  have HL := Lib.hid hl
  have x0 := HX.out.cell 0
  have x1 := HX.out.cell 1
  have c0 := HD.out.row.cell 0
  simp only [List.getElem?_toArray, List.getElem?_cons_zero, List.getElem?_cons_succ] at x0 x1 c0
  have hsec := h.sm.few
  obtain ⟨st, hst⟩ : ∃ st, st = S.sectors := ⟨_, rfl⟩
  obtain ⟨cn, hcn⟩ : ∃ cn, cn = S.cnt := ⟨_, rfl⟩
  have HCn := Lib.hid hcn
  clear hcn
  obtain ⟨hl0, hhl⟩ : ∃ hl0, hl0 = S.held := ⟨_, rfl⟩
  have HSt := Lib.hid hst
  have HHl := Lib.hid hhl
  rw [← hst] at c0 hsec
  have HX1 := Lib.hid hX
  rw [hX, hw1] at x0 x1
  rw [hw1] at c0
  have HW1 := Lib.hid hw1
  have HH := Lib.hid h
  clear h hf hl hst hhl hX hw1
  by_cases i0 : 0 ≤ sc
  · by_cases i1 : sc < st
    · skip
      have c4 := HD.out.row.cell 4
      simp only [List.getElem?_toArray, List.getElem?_cons_zero, List.getElem?_cons_succ] at c4
      rw [HW1.out] at c4
      go_enter Try.func19, Try.ntmps19
      go_wp2
      go_quiet (fail)
      go_wp2_with fail
      rw [← HW1.out]
      obtain ⟨u0, hu0⟩ : ∃ u0, u0 = w1.drewN nq := ⟨_, rfl⟩
      rw [← hu0]
      replace HD : Hid (WdIs u0 B Wb Mb Sb Hb T F S sh hs) := by unfold Hid; rw [hu0]; exact HD.out.below (below_drewN0 (Below.refl _ _) _)
      replace HX : Hid (Row u0 X 30 #[.int .i64 3, .int .i64 sc, .int .i64 pb, .int .i64 pp]) := by unfold Hid; rw [hu0]; exact HX.out
      replace HB1 : Hid (Below w.heap.size w u0) := by unfold Hid; rw [hu0]; exact below_drewN0 HB1.out _
      rw [← HX1.out]
      clear hu0 x0 x1 c0
      clear c4
      refine (flush_world HD.out HFl.out HLc.out).mono ?_
      rintro e w2 ⟨rfl, T2, F2, S2, sh2, hfl2⟩
      have HF2 := Lib.hid hfl2
      have k4 : w2.cell? ⟨Wb, 4, none⟩ = some (.pointer (some ⟨Mb, 0, none⟩)) := hfl2.is.row.cell 4
      clear hfl2
      go_wp2_with fail
      refine (dirty_world HF2.out.is HF2.out.clean).mono ?_
      rintro e w3 ⟨rfl, hb⟩
      have HF3 := Lib.hid (HF2.out.below hb)
      replace k4 : w3.cell? ⟨Wb, 4, none⟩ = some (.pointer (some ⟨Mb, 0, none⟩)) := HF3.out.is.row.cell 4
      clear hb
      go_wp2_with fail
      refine (Directory_any w3 Mb Sb T2 F2 S2 sh2 HF3.out.is.sm).mono ?_
      rintro e w4 ⟨rfl, hb, d, hdir, hrow⟩
      have HF4 := Lib.hid (HF3.out.below hb)
      have HDir := Lib.hid hdir
      have HRow4 := Lib.hid hrow
      replace k4 : w4.cell? ⟨Wb, 4, none⟩ = some (.pointer (some ⟨Mb, 0, none⟩)) := HF4.out.is.row.cell 4
      have hnp := HF4.out.is.sm.np_few
      have HPa := Lib.hid (Parts_any w4 Mb Sb T2 F2 S2 sh2 HF4.out.is.sm)
      obtain ⟨np, hnpe⟩ : ∃ np, np = S2.np := ⟨_, rfl⟩
      have HNp := Lib.hid hnpe
      rw [← hnpe] at HPa hnp ⊢
      clear hb hdir hrow hnpe
      go_wp2_with fail
      refine HPa.out.mono ?_
      rintro e w5 ⟨rfl, hb⟩
      have HF5 := Lib.hid (HF4.out.below hb)
      have HRow5 := Lib.hid (HRow4.out.below hb HRow4.out.lt)
      have HX5 : Hid (Row w5 X 30 #[.int .i64 3, .int .i64 sc, .int .i64 pb, .int .i64 pp]) := HF5.out.turns.row HX.out HXT.out
      have x50 := HX5.out.cell 0
      simp only [List.getElem?_toArray, List.getElem?_cons_zero] at x50
      have g9 : ¬ (4 * (np : Int) + 8 < 8 + 4 * (np : Int)) := by omega
      clear hb k4 HPa
      go_wp2
      have HB5 : Hid (Below B w w5) := (HB1.out.mono HBl.out).trans (HF5.out.turns.below (Below.refl _ _) (Nat.le_trans HBl.out HB1.out.size) HD.out.low.2.2)
      replace HXT : Hid (X ∉ T2) := fun hm => (HF5.out.grown.1 _ hm).elim HXT.out (fun h => by have := HX.out.lt; have : u0.heap.size ≤ X := h; omega)
      replace HD := Lib.hid HF5.out.is
      replace HX := HX5
      replace HFl : Hid (sh2.full = -1) := HF5.out.full.trans HFl.out
      replace HL : Hid (sh2.L.length ≤ 262143) := by have := HF5.out.puts; have := HLc.out; unfold Hid; omega
      replace HHl : Hid (hl0 = S2.held) := HHl.out.trans HF5.out.same.2.2.symm
      obtain ⟨cn, hcn⟩ : ∃ cn, cn = S2.cnt := ⟨_, rfl⟩
      replace HCn := Lib.hid hcn
      clear hcn HF2 HF3 HF4 HX5 HRow4
      have k1 : ∀ t : Kept w5 T2, t.u.cell? ⟨Wb, 4, none⟩ = some (.pointer (some ⟨Mb, 0, none⟩)) := fun t => (t.h.row HD.out.row HD.out.sepW.1).cell 4
      have k2 : ∀ t : Kept w5 T2, t.u.cell? ⟨Wb, 2, none⟩ = some (.int .i64 hl0) := fun t => by rw [HHl.out]; exact (t.h.row HD.out.row HD.out.sepW.1).cell 2
      have k3 : ∀ t : Kept w5 T2, t.u.cell? ⟨X, 1, none⟩ = some (.int .i64 sc) := fun t => (t.h.row HX.out HXT.out).cell 1
      have hS : ∃ t : Kept w5 T2, World.drew w5 = t.u := ⟨⟨_, (Turns.refl _ _).drew⟩, rfl⟩
      have hmx : Try.prog.follows .mixedOrders = true := by kernel_rfl
      have hcl : cn ≤ hl0 := by rw [HCn.out, HHl.out]; exact HD.out.pw.wl.held
      have HHe : Hid (∀ u, Below (World.heap w5).size w5 u → Calls Try.prog 13 #[.pointer (some ⟨Mb, 0, none⟩)] u fun e w' => e = .returned (.int .i64 cn) ∧ Below u.heap.size u w') := fun u hu => by rw [HCn.out]; exact (end_calls HD.out HFl.out HL.out sc u hu).1
      have HDi : Hid (∀ u, Below (World.heap w5).size w5 u → Calls Try.prog 34 #[.pointer (some ⟨Mb, 0, none⟩)] u fun e w' => (∃ k : Nat, e = .returned (.int .i64 k) ∧ k ≤ cn) ∧ Below u.heap.size u w') := fun u hu => by rw [HCn.out]; exact (end_calls HD.out HFl.out HL.out sc u hu).2.1
      have HGe : Hid (∀ u, Below (World.heap w5).size w5 u → Calls Try.prog 20 #[.pointer (some ⟨Wb, 0, none⟩), .int .i64 sc] u fun e w' => e = .returned (.bool true) ∧ WdM w5 w' B Wb Mb Sb Hb T2 F2 1 1 S2 sh2 hs ∧ Turns u w' T2) := fun u hu => (end_calls HD.out HFl.out HL.out sc u hu).2.2
      refine wp_region_noPanic ?_
      refine region_treeW (fun u => ∃ t : Kept w5 T2, u = t.u) (Tn.takes [0,1,2,3,5,6,7,8] (.one 4 (Tn.takes [9,10,11,12,13,14,16,17,18,19] (.one 15 (.one 20 (Tn.takes [21,22,23,24,25,26] (.one 27 (.take 28 (.take 29 .nil))))))))) hmx (by kernel_rfl) (fun _ _ _ _ _ h => h) hS ?_
      simp only [Tn.takes]
      (repeat ((with_reducible refine wpTree_take (by with_unfolding_all exact rfl) ?_); (with_reducible (show wpQuiet _ _ _ _ (_ :: _) _)); go_big_quiet_step (fail); (with_reducible refine wpQuiet_nil ?_)))
      (with_reducible refine wpTree_one (by with_unfolding_all exact rfl) ?_)
      gi_wp2_with fail
      refine ((callsIn_wide (n := 8)).2 (HHe.out _ ((Below.refl _ _).drew))).mono ?_
      rintro e w6 ⟨rfl, hb6⟩
      have HB6 : Hid (Below (World.heap w5).size w5 w6) := ((Below.refl _ _).drew).trans hb6
      clear hb6
      gi_wp2_with fail
      (with_reducible refine outQ_normal ?_ ?_); exact ⟨⟨w6, Turns.of_below HB6.out _⟩, rfl⟩
      (repeat ((with_reducible refine wpTree_take (by with_unfolding_all exact rfl) ?_); (with_reducible (show wpQuiet _ _ _ _ (_ :: _) _)); go_big_quiet_step (fail); (with_reducible refine wpQuiet_nil ?_)))
      (with_reducible refine wpTree_one (by with_unfolding_all exact rfl) ?_)
      gi_wp2_with fail
      refine ((callsIn_wide (n := 8)).2 (HDi.out _ HB6.out)).mono ?_
      rintro e w7 ⟨⟨dn, rfl, hdn⟩, hb7⟩
      have HB7 : Hid (Below (World.heap w5).size w5 w7) := HB6.out.trans (hb7.mono HB6.out.size)
      clear hb7
      gi_wp2_with fail
      (with_reducible refine outQ_normal ?_ ?_); exact ⟨⟨w7, Turns.of_below HB7.out _⟩, rfl⟩
      (with_reducible refine wpTree_one (by with_unfolding_all exact rfl) ?_)
      gi_wp2_with fail
      refine ((callsIn_wide (n := 8)).2 (HHe.out _ HB7.out)).mono ?_
      rintro e w8 ⟨rfl, hb8⟩
      have HB8 : Hid (Below (World.heap w5).size w5 w8) := HB7.out.trans (hb8.mono HB7.out.size)
      clear hb8
      gi_wp2_with fail
      (with_reducible refine outQ_normal ?_ ?_); exact ⟨⟨w8, Turns.of_below HB8.out _⟩, rfl⟩
      (repeat ((with_reducible refine wpTree_take (by with_unfolding_all exact rfl) ?_); (with_reducible (show wpQuiet _ _ _ _ (_ :: _) _)); go_big_quiet_step (fail); (with_reducible refine wpQuiet_nil ?_)))
      (with_reducible refine wpTree_one (by with_unfolding_all exact rfl) ?_)
      gi_wp2_with fail
      refine ((callsIn_wide (n := 8)).2 (HGe.out _ HB8.out)).mono ?_
      rintro e w9 ⟨rfl, hm9, ht9⟩
      have HM9 := Lib.hid hm9
      have HT9 : Hid (Turns w5 w9 T2) := (Turns.of_below HB8.out _).trans ht9 (fun q hq => .inl hq)
      clear hm9 ht9
      gi_wp2_with fail
      (with_reducible refine outQ_normal ?_ ?_); exact ⟨⟨w9, HT9.out⟩, rfl⟩
      (repeat ((with_reducible refine wpTree_take (by with_unfolding_all exact rfl) ?_); (with_reducible (show wpQuiet _ _ _ _ (_ :: _) _)); go_big_quiet_step (fail); (with_reducible refine wpQuiet_nil ?_)))
      with_reducible refine wpTree_nil ?_
      refine NoPanic.normal ?_
      clear k1 k2 k3 hS
      go_wp2
      go_ret
      exact ⟨by first | (simp; done) | (simp; omega), (WdM.wdTo HD.out HM9.out).late HB5.out HF5.out.same HF5.out.full HF5.out.puts HF5.out.cnt⟩
    · skip
      have c4 := HD.out.row.cell 4
      simp only [List.getElem?_toArray, List.getElem?_cons_zero, List.getElem?_cons_succ] at c4
      rw [HW1.out] at c4
      go_enter Try.func19, Try.ntmps19
      go_wp2
      go_quiet (fail)
      go_wp2_with fail
      rw [← HW1.out]
      obtain ⟨u0, hu0⟩ : ∃ u0, u0 = w1.drewN nq := ⟨_, rfl⟩
      rw [← hu0]
      replace HD : Hid (WdIs u0 B Wb Mb Sb Hb T F S sh hs) := by unfold Hid; rw [hu0]; exact HD.out.below (below_drewN0 (Below.refl _ _) _)
      replace HX : Hid (Row u0 X 30 #[.int .i64 3, .int .i64 sc, .int .i64 pb, .int .i64 pp]) := by unfold Hid; rw [hu0]; exact HX.out
      replace HB1 : Hid (Below w.heap.size w u0) := by unfold Hid; rw [hu0]; exact below_drewN0 HB1.out _
      rw [← HX1.out]
      clear hu0 x0 x1 c0
      clear c4
      refine (flush_world HD.out HFl.out HLc.out).mono ?_
      rintro e w2 ⟨rfl, T2, F2, S2, sh2, hfl2⟩
      have HF2 := Lib.hid hfl2
      have k4 : w2.cell? ⟨Wb, 4, none⟩ = some (.pointer (some ⟨Mb, 0, none⟩)) := hfl2.is.row.cell 4
      clear hfl2
      go_wp2_with fail
      refine (dirty_world HF2.out.is HF2.out.clean).mono ?_
      rintro e w3 ⟨rfl, hb⟩
      have HF3 := Lib.hid (HF2.out.below hb)
      replace k4 : w3.cell? ⟨Wb, 4, none⟩ = some (.pointer (some ⟨Mb, 0, none⟩)) := HF3.out.is.row.cell 4
      clear hb
      go_wp2_with fail
      refine (Directory_any w3 Mb Sb T2 F2 S2 sh2 HF3.out.is.sm).mono ?_
      rintro e w4 ⟨rfl, hb, d, hdir, hrow⟩
      have HF4 := Lib.hid (HF3.out.below hb)
      have HDir := Lib.hid hdir
      have HRow4 := Lib.hid hrow
      replace k4 : w4.cell? ⟨Wb, 4, none⟩ = some (.pointer (some ⟨Mb, 0, none⟩)) := HF4.out.is.row.cell 4
      have hnp := HF4.out.is.sm.np_few
      have HPa := Lib.hid (Parts_any w4 Mb Sb T2 F2 S2 sh2 HF4.out.is.sm)
      obtain ⟨np, hnpe⟩ : ∃ np, np = S2.np := ⟨_, rfl⟩
      have HNp := Lib.hid hnpe
      rw [← hnpe] at HPa hnp ⊢
      clear hb hdir hrow hnpe
      go_wp2_with fail
      refine HPa.out.mono ?_
      rintro e w5 ⟨rfl, hb⟩
      have HF5 := Lib.hid (HF4.out.below hb)
      have HRow5 := Lib.hid (HRow4.out.below hb HRow4.out.lt)
      have HX5 : Hid (Row w5 X 30 #[.int .i64 3, .int .i64 sc, .int .i64 pb, .int .i64 pp]) := HF5.out.turns.row HX.out HXT.out
      have x50 := HX5.out.cell 0
      simp only [List.getElem?_toArray, List.getElem?_cons_zero] at x50
      have g9 : ¬ (4 * (np : Int) + 8 < 8 + 4 * (np : Int)) := by omega
      clear hb k4 HPa
      go_wp2
      have HB5 : Hid (Below B w w5) := (HB1.out.mono HBl.out).trans (HF5.out.turns.below (Below.refl _ _) (Nat.le_trans HBl.out HB1.out.size) HD.out.low.2.2)
      replace HXT : Hid (X ∉ T2) := fun hm => (HF5.out.grown.1 _ hm).elim HXT.out (fun h => by have := HX.out.lt; have : u0.heap.size ≤ X := h; omega)
      replace HD := Lib.hid HF5.out.is
      replace HX := HX5
      replace HFl : Hid (sh2.full = -1) := HF5.out.full.trans HFl.out
      replace HL : Hid (sh2.L.length ≤ 262143) := by have := HF5.out.puts; have := HLc.out; unfold Hid; omega
      replace HHl : Hid (hl0 = S2.held) := HHl.out.trans HF5.out.same.2.2.symm
      obtain ⟨cn, hcn⟩ : ∃ cn, cn = S2.cnt := ⟨_, rfl⟩
      replace HCn := Lib.hid hcn
      clear hcn HF2 HF3 HF4 HX5 HRow4
      have k1 : ∀ t : Kept w5 T2, t.u.cell? ⟨Wb, 4, none⟩ = some (.pointer (some ⟨Mb, 0, none⟩)) := fun t => (t.h.row HD.out.row HD.out.sepW.1).cell 4
      have k2 : ∀ t : Kept w5 T2, t.u.cell? ⟨Wb, 2, none⟩ = some (.int .i64 hl0) := fun t => by rw [HHl.out]; exact (t.h.row HD.out.row HD.out.sepW.1).cell 2
      have k3 : ∀ t : Kept w5 T2, t.u.cell? ⟨X, 1, none⟩ = some (.int .i64 sc) := fun t => (t.h.row HX.out HXT.out).cell 1
      have hS : ∃ t : Kept w5 T2, World.drew w5 = t.u := ⟨⟨_, (Turns.refl _ _).drew⟩, rfl⟩
      have hmx : Try.prog.follows .mixedOrders = true := by kernel_rfl
      have hcl : cn ≤ hl0 := by rw [HCn.out, HHl.out]; exact HD.out.pw.wl.held
      have HHe : Hid (∀ u, Below (World.heap w5).size w5 u → Calls Try.prog 13 #[.pointer (some ⟨Mb, 0, none⟩)] u fun e w' => e = .returned (.int .i64 cn) ∧ Below u.heap.size u w') := fun u hu => by rw [HCn.out]; exact (end_calls HD.out HFl.out HL.out sc u hu).1
      have HDi : Hid (∀ u, Below (World.heap w5).size w5 u → Calls Try.prog 34 #[.pointer (some ⟨Mb, 0, none⟩)] u fun e w' => (∃ k : Nat, e = .returned (.int .i64 k) ∧ k ≤ cn) ∧ Below u.heap.size u w') := fun u hu => by rw [HCn.out]; exact (end_calls HD.out HFl.out HL.out sc u hu).2.1
      have HGe : Hid (∀ u, Below (World.heap w5).size w5 u → Calls Try.prog 20 #[.pointer (some ⟨Wb, 0, none⟩), .int .i64 sc] u fun e w' => e = .returned (.bool true) ∧ WdM w5 w' B Wb Mb Sb Hb T2 F2 1 1 S2 sh2 hs ∧ Turns u w' T2) := fun u hu => (end_calls HD.out HFl.out HL.out sc u hu).2.2
      refine wp_region_noPanic ?_
      refine region_treeW (fun u => ∃ t : Kept w5 T2, u = t.u) (Tn.takes [0,1,2,3,5,6,7,8] (.one 4 (Tn.takes [9,10,11,12,13,14,16,17,18,19] (.one 15 (.one 20 (Tn.takes [21,22,23,24,25,26] (.one 27 (.take 28 (.take 29 .nil))))))))) hmx (by kernel_rfl) (fun _ _ _ _ _ h => h) hS ?_
      simp only [Tn.takes]
      (repeat ((with_reducible refine wpTree_take (by with_unfolding_all exact rfl) ?_); (with_reducible (show wpQuiet _ _ _ _ (_ :: _) _)); go_big_quiet_step (fail); (with_reducible refine wpQuiet_nil ?_)))
      (with_reducible refine wpTree_one (by with_unfolding_all exact rfl) ?_)
      gi_wp2_with fail
      refine ((callsIn_wide (n := 8)).2 (HHe.out _ ((Below.refl _ _).drew))).mono ?_
      rintro e w6 ⟨rfl, hb6⟩
      have HB6 : Hid (Below (World.heap w5).size w5 w6) := ((Below.refl _ _).drew).trans hb6
      clear hb6
      gi_wp2_with fail
      (with_reducible refine outQ_normal ?_ ?_); exact ⟨⟨w6, Turns.of_below HB6.out _⟩, rfl⟩
      (repeat ((with_reducible refine wpTree_take (by with_unfolding_all exact rfl) ?_); (with_reducible (show wpQuiet _ _ _ _ (_ :: _) _)); go_big_quiet_step (fail); (with_reducible refine wpQuiet_nil ?_)))
      (with_reducible refine wpTree_one (by with_unfolding_all exact rfl) ?_)
      gi_wp2_with fail
      refine ((callsIn_wide (n := 8)).2 (HDi.out _ HB6.out)).mono ?_
      rintro e w7 ⟨⟨dn, rfl, hdn⟩, hb7⟩
      have HB7 : Hid (Below (World.heap w5).size w5 w7) := HB6.out.trans (hb7.mono HB6.out.size)
      clear hb7
      gi_wp2_with fail
      (with_reducible refine outQ_normal ?_ ?_); exact ⟨⟨w7, Turns.of_below HB7.out _⟩, rfl⟩
      (with_reducible refine wpTree_one (by with_unfolding_all exact rfl) ?_)
      gi_wp2_with fail
      refine ((callsIn_wide (n := 8)).2 (HHe.out _ HB7.out)).mono ?_
      rintro e w8 ⟨rfl, hb8⟩
      have HB8 : Hid (Below (World.heap w5).size w5 w8) := HB7.out.trans (hb8.mono HB7.out.size)
      clear hb8
      gi_wp2_with fail
      (with_reducible refine outQ_normal ?_ ?_); exact ⟨⟨w8, Turns.of_below HB8.out _⟩, rfl⟩
      (repeat ((with_reducible refine wpTree_take (by with_unfolding_all exact rfl) ?_); (with_reducible (show wpQuiet _ _ _ _ (_ :: _) _)); go_big_quiet_step (fail); (with_reducible refine wpQuiet_nil ?_)))
      (with_reducible refine wpTree_one (by with_unfolding_all exact rfl) ?_)
      gi_wp2_with fail
      refine ((callsIn_wide (n := 8)).2 (HGe.out _ HB8.out)).mono ?_
      rintro e w9 ⟨rfl, hm9, ht9⟩
      have HM9 := Lib.hid hm9
      have HT9 : Hid (Turns w5 w9 T2) := (Turns.of_below HB8.out _).trans ht9 (fun q hq => .inl hq)
      clear hm9 ht9
      gi_wp2_with fail
      (with_reducible refine outQ_normal ?_ ?_); exact ⟨⟨w9, HT9.out⟩, rfl⟩
      (repeat ((with_reducible refine wpTree_take (by with_unfolding_all exact rfl) ?_); (with_reducible (show wpQuiet _ _ _ _ (_ :: _) _)); go_big_quiet_step (fail); (with_reducible refine wpQuiet_nil ?_)))
      with_reducible refine wpTree_nil ?_
      refine NoPanic.normal ?_
      clear k1 k2 k3 hS
      go_wp2
      go_ret
      exact ⟨by first | (simp; done) | (simp; omega), (WdM.wdTo HD.out HM9.out).late HB5.out HF5.out.same HF5.out.full HF5.out.puts HF5.out.cnt⟩
  · have i1 : sc < 0 := by omega
    have g1 : decide (0 ≤ sc) = false := decide_eq_false i0
    have c4 := HD.out.row.cell 4
    simp only [List.getElem?_toArray, List.getElem?_cons_zero, List.getElem?_cons_succ] at c4
    rw [HW1.out] at c4
    go_enter Try.func19, Try.ntmps19
    go_wp2
    go_quiet (fail)
    go_wp2_with fail
    rw [← HW1.out]
    obtain ⟨u0, hu0⟩ : ∃ u0, u0 = w1.drewN nq := ⟨_, rfl⟩
    rw [← hu0]
    replace HD : Hid (WdIs u0 B Wb Mb Sb Hb T F S sh hs) := by unfold Hid; rw [hu0]; exact HD.out.below (below_drewN0 (Below.refl _ _) _)
    replace HX : Hid (Row u0 X 30 #[.int .i64 3, .int .i64 sc, .int .i64 pb, .int .i64 pp]) := by unfold Hid; rw [hu0]; exact HX.out
    replace HB1 : Hid (Below w.heap.size w u0) := by unfold Hid; rw [hu0]; exact below_drewN0 HB1.out _
    rw [← HX1.out]
    clear hu0 x0 x1 c0
    clear c4
    refine (flush_world HD.out HFl.out HLc.out).mono ?_
    rintro e w2 ⟨rfl, T2, F2, S2, sh2, hfl2⟩
    have HF2 := Lib.hid hfl2
    have k4 : w2.cell? ⟨Wb, 4, none⟩ = some (.pointer (some ⟨Mb, 0, none⟩)) := hfl2.is.row.cell 4
    clear hfl2
    go_wp2_with fail
    refine (dirty_world HF2.out.is HF2.out.clean).mono ?_
    rintro e w3 ⟨rfl, hb⟩
    have HF3 := Lib.hid (HF2.out.below hb)
    replace k4 : w3.cell? ⟨Wb, 4, none⟩ = some (.pointer (some ⟨Mb, 0, none⟩)) := HF3.out.is.row.cell 4
    clear hb
    go_wp2_with fail
    refine (Directory_any w3 Mb Sb T2 F2 S2 sh2 HF3.out.is.sm).mono ?_
    rintro e w4 ⟨rfl, hb, d, hdir, hrow⟩
    have HF4 := Lib.hid (HF3.out.below hb)
    have HDir := Lib.hid hdir
    have HRow4 := Lib.hid hrow
    replace k4 : w4.cell? ⟨Wb, 4, none⟩ = some (.pointer (some ⟨Mb, 0, none⟩)) := HF4.out.is.row.cell 4
    have hnp := HF4.out.is.sm.np_few
    have HPa := Lib.hid (Parts_any w4 Mb Sb T2 F2 S2 sh2 HF4.out.is.sm)
    obtain ⟨np, hnpe⟩ : ∃ np, np = S2.np := ⟨_, rfl⟩
    have HNp := Lib.hid hnpe
    rw [← hnpe] at HPa hnp ⊢
    clear hb hdir hrow hnpe
    go_wp2_with fail
    refine HPa.out.mono ?_
    rintro e w5 ⟨rfl, hb⟩
    have HF5 := Lib.hid (HF4.out.below hb)
    have HRow5 := Lib.hid (HRow4.out.below hb HRow4.out.lt)
    have HX5 : Hid (Row w5 X 30 #[.int .i64 3, .int .i64 sc, .int .i64 pb, .int .i64 pp]) := HF5.out.turns.row HX.out HXT.out
    have x50 := HX5.out.cell 0
    simp only [List.getElem?_toArray, List.getElem?_cons_zero] at x50
    have g9 : ¬ (4 * (np : Int) + 8 < 8 + 4 * (np : Int)) := by omega
    clear hb k4 HPa
    go_wp2
    have HB5 : Hid (Below B w w5) := (HB1.out.mono HBl.out).trans (HF5.out.turns.below (Below.refl _ _) (Nat.le_trans HBl.out HB1.out.size) HD.out.low.2.2)
    replace HXT : Hid (X ∉ T2) := fun hm => (HF5.out.grown.1 _ hm).elim HXT.out (fun h => by have := HX.out.lt; have : u0.heap.size ≤ X := h; omega)
    replace HD := Lib.hid HF5.out.is
    replace HX := HX5
    replace HFl : Hid (sh2.full = -1) := HF5.out.full.trans HFl.out
    replace HL : Hid (sh2.L.length ≤ 262143) := by have := HF5.out.puts; have := HLc.out; unfold Hid; omega
    replace HHl : Hid (hl0 = S2.held) := HHl.out.trans HF5.out.same.2.2.symm
    obtain ⟨cn, hcn⟩ : ∃ cn, cn = S2.cnt := ⟨_, rfl⟩
    replace HCn := Lib.hid hcn
    clear hcn HF2 HF3 HF4 HX5 HRow4
    have k1 : ∀ t : Kept w5 T2, t.u.cell? ⟨Wb, 4, none⟩ = some (.pointer (some ⟨Mb, 0, none⟩)) := fun t => (t.h.row HD.out.row HD.out.sepW.1).cell 4
    have k2 : ∀ t : Kept w5 T2, t.u.cell? ⟨Wb, 2, none⟩ = some (.int .i64 hl0) := fun t => by rw [HHl.out]; exact (t.h.row HD.out.row HD.out.sepW.1).cell 2
    have k3 : ∀ t : Kept w5 T2, t.u.cell? ⟨X, 1, none⟩ = some (.int .i64 sc) := fun t => (t.h.row HX.out HXT.out).cell 1
    have hS : ∃ t : Kept w5 T2, World.drew w5 = t.u := ⟨⟨_, (Turns.refl _ _).drew⟩, rfl⟩
    have hmx : Try.prog.follows .mixedOrders = true := by kernel_rfl
    have hcl : cn ≤ hl0 := by rw [HCn.out, HHl.out]; exact HD.out.pw.wl.held
    have HHe : Hid (∀ u, Below (World.heap w5).size w5 u → Calls Try.prog 13 #[.pointer (some ⟨Mb, 0, none⟩)] u fun e w' => e = .returned (.int .i64 cn) ∧ Below u.heap.size u w') := fun u hu => by rw [HCn.out]; exact (end_calls HD.out HFl.out HL.out sc u hu).1
    have HDi : Hid (∀ u, Below (World.heap w5).size w5 u → Calls Try.prog 34 #[.pointer (some ⟨Mb, 0, none⟩)] u fun e w' => (∃ k : Nat, e = .returned (.int .i64 k) ∧ k ≤ cn) ∧ Below u.heap.size u w') := fun u hu => by rw [HCn.out]; exact (end_calls HD.out HFl.out HL.out sc u hu).2.1
    have HGe : Hid (∀ u, Below (World.heap w5).size w5 u → Calls Try.prog 20 #[.pointer (some ⟨Wb, 0, none⟩), .int .i64 sc] u fun e w' => e = .returned (.bool true) ∧ WdM w5 w' B Wb Mb Sb Hb T2 F2 1 1 S2 sh2 hs ∧ Turns u w' T2) := fun u hu => (end_calls HD.out HFl.out HL.out sc u hu).2.2
    refine wp_region_noPanic ?_
    refine region_treeW (fun u => ∃ t : Kept w5 T2, u = t.u) (Tn.takes [0,1,2,3,5,6,7,8] (.one 4 (Tn.takes [9,10,11,12,13,14,16,17,18,19] (.one 15 (.one 20 (Tn.takes [21,22,23,24,25,26] (.one 27 (.take 28 (.take 29 .nil))))))))) hmx (by kernel_rfl) (fun _ _ _ _ _ h => h) hS ?_
    simp only [Tn.takes]
    (repeat ((with_reducible refine wpTree_take (by with_unfolding_all exact rfl) ?_); (with_reducible (show wpQuiet _ _ _ _ (_ :: _) _)); go_big_quiet_step (fail); (with_reducible refine wpQuiet_nil ?_)))
    (with_reducible refine wpTree_one (by with_unfolding_all exact rfl) ?_)
    gi_wp2_with fail
    refine ((callsIn_wide (n := 8)).2 (HHe.out _ ((Below.refl _ _).drew))).mono ?_
    rintro e w6 ⟨rfl, hb6⟩
    have HB6 : Hid (Below (World.heap w5).size w5 w6) := ((Below.refl _ _).drew).trans hb6
    clear hb6
    gi_wp2_with fail
    (with_reducible refine outQ_normal ?_ ?_); exact ⟨⟨w6, Turns.of_below HB6.out _⟩, rfl⟩
    (repeat ((with_reducible refine wpTree_take (by with_unfolding_all exact rfl) ?_); (with_reducible (show wpQuiet _ _ _ _ (_ :: _) _)); go_big_quiet_step (fail); (with_reducible refine wpQuiet_nil ?_)))
    (with_reducible refine wpTree_one (by with_unfolding_all exact rfl) ?_)
    gi_wp2_with fail
    refine ((callsIn_wide (n := 8)).2 (HDi.out _ HB6.out)).mono ?_
    rintro e w7 ⟨⟨dn, rfl, hdn⟩, hb7⟩
    have HB7 : Hid (Below (World.heap w5).size w5 w7) := HB6.out.trans (hb7.mono HB6.out.size)
    clear hb7
    gi_wp2_with fail
    (with_reducible refine outQ_normal ?_ ?_); exact ⟨⟨w7, Turns.of_below HB7.out _⟩, rfl⟩
    (with_reducible refine wpTree_one (by with_unfolding_all exact rfl) ?_)
    gi_wp2_with fail
    refine ((callsIn_wide (n := 8)).2 (HHe.out _ HB7.out)).mono ?_
    rintro e w8 ⟨rfl, hb8⟩
    have HB8 : Hid (Below (World.heap w5).size w5 w8) := HB7.out.trans (hb8.mono HB7.out.size)
    clear hb8
    gi_wp2_with fail
    (with_reducible refine outQ_normal ?_ ?_); exact ⟨⟨w8, Turns.of_below HB8.out _⟩, rfl⟩
    (repeat ((with_reducible refine wpTree_take (by with_unfolding_all exact rfl) ?_); (with_reducible (show wpQuiet _ _ _ _ (_ :: _) _)); go_big_quiet_step (fail); (with_reducible refine wpQuiet_nil ?_)))
    (with_reducible refine wpTree_one (by with_unfolding_all exact rfl) ?_)
    gi_wp2_with fail
    refine ((callsIn_wide (n := 8)).2 (HGe.out _ HB8.out)).mono ?_
    rintro e w9 ⟨rfl, hm9, ht9⟩
    have HM9 := Lib.hid hm9
    have HT9 : Hid (Turns w5 w9 T2) := (Turns.of_below HB8.out _).trans ht9 (fun q hq => .inl hq)
    clear hm9 ht9
    gi_wp2_with fail
    (with_reducible refine outQ_normal ?_ ?_); exact ⟨⟨w9, HT9.out⟩, rfl⟩
    (repeat ((with_reducible refine wpTree_take (by with_unfolding_all exact rfl) ?_); (with_reducible (show wpQuiet _ _ _ _ (_ :: _) _)); go_big_quiet_step (fail); (with_reducible refine wpQuiet_nil ?_)))
    with_reducible refine wpTree_nil ?_
    refine NoPanic.normal ?_
    clear k1 k2 k3 hS
    go_wp2
    go_ret
    exact ⟨by first | (simp; done) | (simp; omega), (WdM.wdTo HD.out HM9.out).late HB5.out HF5.out.same HF5.out.full HF5.out.puts HF5.out.cnt⟩
end Go.Proofs.Ytfipmpajdkgffaa
