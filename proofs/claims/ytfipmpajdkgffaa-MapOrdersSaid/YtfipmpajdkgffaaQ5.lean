/- What follows is laid together from several texts of mine, in their order. -/
import Derived.Test.YtfipmpajdkgffaaQ4

namespace Go.Proofs.Ytfipmpajdkgffaa
open Go.RowKit Go.MapKept Go.ChangeMaps
attribute [local go_sem] Oper.semAt_some
attribute [local simp, local go_sem] wide_fn
set_option linter.unusedVariables false
set_option linter.unusedSimpArgs false
/-- The law's Load: the map of what a Directory told. -/
theorem load_world {u0 w5 : World} {B Wb Mb Sb Hb g : Nat} {T F T2 F2 : List Nat} {S : Sm} {sh : Sh} {S2 : Sm} {sh2 : Sh} {hs : Nat → Nat} {d : List Nat} (h : Flushed u0 w5 B Wb Mb Sb Hb T F T2 F2 S sh S2 sh2 hs) (hsec : S2.sectors ≤ 16384) (hl : sh2.L.length ≤ 262143) (hd : DirIs d S2.np S2.dir) (hr : Row w5 g 5 (intsV .u8 d).toArray) (hg : g ∉ T2) (u : World) (hu : Below w5.heap.size w5 u) :
    Calls Try.prog 14 #[.int .i64 S2.sectors, .int .i64 S2.page, .int .i64 S2.held, .iface 33 (.pointer (some ⟨Sb, 0, none⟩)), .slice (some ⟨g, 0, none⟩) (8 + 4 * S2.np) (8 + 4 * S2.np)] u fun e w' => ∃ Mb' T3 S3, e = .returned (.tuple #[.pointer (some ⟨Mb', 0, none⟩), .int .i64 0]) ∧ Below w5.heap.size w5 w' ∧ (S3.sectors = S2.sectors ∧ S3.page = S2.page ∧ S3.held = S2.held) ∧ S3.cnt = 0 ∧
      ∃ v, w'.cell? ⟨Wb, 4, none⟩ = some v ∧ w'.frozen? ⟨Wb, 4, none⟩ = false ∧ WdIs (w'.setCell ⟨Wb, 4, none⟩ (.pointer (some ⟨Mb', 0, none⟩))) B Wb Mb' Sb Hb T3 F2 S3 sh2 hs ∧ ∀ q ∈ T3, q ∈ T2 ∨ w5.heap.size ≤ q := by
  have hi := h.is.below hu
  obtain ⟨Q, Db, P, pb, ha⟩ := hi.sm
  have hnp := ha.np_few
  have hsm : ∀ u ∈ d, u < 256 := hd.small
  have hlt : g < u.heap.size := Nat.lt_of_lt_of_le hr.lt hu.size
  have hc8 : Cells8 u (some ⟨g, 0, none⟩) d := fun i hi => ⟨g, 0, rfl, by
    rw [(hr.below hu hr.lt).cell]
    simp [intsV, hi, List.getD_eq_getElem?_getD]⟩
  rw [← hd.len]
  refine (Load_any u Sb T2 F2 sh2 ha.shelf ha.apart ha.lt S2.sectors S2.page S2.held ⟨ha.sh.1, hsec⟩ ha.sh.2.2.1 ha.sh.2.2.2 (some ⟨g, 0, none⟩) d d.length (by rw [hd.len]; omega) (Nat.le_refl _) hc8 (fun a e => by injection e with e; subst e; exact ⟨hg, hlt⟩) hsm).mono fun e w' hp => ?_
  rcases hp with ⟨Mb', he, _, hM, hb, T3, h3, h4⟩ | ⟨_, hno, _⟩
  · have hb5 : Below w5.heap.size w5 w' := hu.trans (hb.mono hu.size)
    have hrow := hi.row.below hb hi.row.lt
    have hWT : Wb ∉ T3 := fun hm => (h3 _ hm).elim hi.sepW.1 (fun h => by have := hi.row.lt; omega)
    have hHT : Hb ∉ T3 := fun hm => (h3 _ hm).elim hi.sepH.1 (fun h => by have := hi.has.lt; omega)
    have hput := hrow.put 4 (.pointer (some ⟨Mb', 0, none⟩))
    have ht : Turns w' (w'.setCell ⟨Wb, 4, none⟩ (.pointer (some ⟨Mb', 0, none⟩))) [Wb] := (Turns.refl _ _).setCell (by simp) _
    refine ⟨Mb', T3, (Sm.new S2.sectors S2.page S2.held).ldk d S2.np, he, hb5, ⟨rfl, rfl, rfl⟩, rfl, _, hrow.cell 4, hrow.frozen 4, ⟨by show Row _ Wb _ #[.int .i64 S2.sectors, .int .i64 S2.page, .int .i64 S2.held, .pointer (some ⟨Sb, 0, none⟩), .pointer (some ⟨Mb', 0, none⟩), .map (some Hb)]; simpa using hput, h4.keep ht (fun k hk => by rw [List.mem_singleton.1 hk]; exact ⟨hWT, hi.sepW.2⟩), (hi.has.turns (Turns.of_below hb []) (by simp)).turns ht (by simpa using hi.ne.symm), ⟨hWT, hi.sepW.2⟩, ⟨hHT, hi.sepH.2⟩, ⟨hi.low.1, hi.low.2.1, fun q hq => (h3 q hq).elim (hi.low.2.2 q) (fun h => Nat.le_trans hi.B_le h)⟩, hi.pw.load h.clean hd⟩, fun q hq => (h3 q hq).imp (fun h => h) (fun h => Nat.le_trans hu.size h)⟩
  · exact absurd (hd.ok hi.pw (by omega)) hno
set_option maxRecDepth 100000 in
set_option maxHeartbeats 4000000 in
theorem step_load (w : World) (B Wb Mb Sb Hb : Nat) (T F : List Nat) (S : Sm) (sh : Sh) (hs : Nat → Nat) (h : WdIs w B Wb Mb Sb Hb T F S sh hs) (hf : sh.full = -1) (hl : sh.L.length + S.cnt ≤ 262143) (x : Ac) (hop : x.op = 4) (hsx : S.sectors ≤ 16384) :
    Calls Try.prog 19 #[.pointer (some ⟨Wb, 0, none⟩), x.val] w fun e w' => e = .returned (.bool true) ∧ WdTo w w' B Wb Sb Hb (S.cnt + 1) 1 S sh := by
  have HLc := Lib.hid hl
  have HSx := Lib.hid hsx
  clear hsx
  obtain ⟨op, sc, pb, pp⟩ := x
  unfold Ac.val
  dsimp only at hop ⊢
  subst hop
  obtain ⟨w1, hw1⟩ : ∃ w1, w1 = w.alloc (.cells #[.int .i64 4, .int .i64 sc, .int .i64 pb, .int .i64 pp] 30) := ⟨_, rfl⟩
  have HB1 : Hid (Below w.heap.size w w1) := by unfold Hid; rw [hw1]; exact (Below.refl _ _).alloc (Nat.le_refl _) _
  obtain ⟨X, hX⟩ : ∃ X, X = w.heap.size := ⟨_, rfl⟩
  have HX : Hid (Row w1 X 30 #[.int .i64 4, .int .i64 sc, .int .i64 pb, .int .i64 pp]) := by unfold Hid; rw [hw1, hX]; exact Row.fresh _ _ _
  have HD := Lib.hid (h.below HB1.out)
  have HXT : Hid (X ∉ T) := fun hm => by
    obtain ⟨_, _, _, _, h1⟩ := h.sm
    have := h1.lt _ (.inl hm); omega
  have HXW : Hid (X ∉ F ∧ X ≠ Wb ∧ X ≠ Hb) := ⟨fun hm => by
    obtain ⟨_, _, _, _, h1⟩ := h.sm
    have := h1.lt _ (.inr hm); omega, by have := h.row.lt; omega, by have := h.has.lt; omega⟩
  have HBl := Lib.hid h.B_le
  have HFl := Lib.hid hf
  have HL := Lib.hid hl
  have x0 := HX.out.cell 0
  have x1 := HX.out.cell 1
  have c0 := HD.out.row.cell 0
  simp only [List.getElem?_toArray, List.getElem?_cons_zero, List.getElem?_cons_succ] at x0 x1 c0
  have hsec := h.sm.few
  obtain ⟨st, hst⟩ : ∃ st, st = S.sectors := ⟨_, rfl⟩
  obtain ⟨cn, hcn⟩ : ∃ cn, cn = S.cnt := ⟨_, rfl⟩
  have HCn := Lib.hid hcn
  clear hcn
  obtain ⟨hl0, hhl⟩ : ∃ hl0, hl0 = S.held := ⟨_, rfl⟩
  have HSt := Lib.hid hst
  have HHl := Lib.hid hhl
  rw [← hst] at c0 hsec
  have HX1 := Lib.hid hX
  rw [hX, hw1] at x0 x1
  rw [hw1] at c0
  have HW1 := Lib.hid hw1
  have HH := Lib.hid h
  clear h hf hl hst hhl hX hw1
  by_cases i0 : 0 ≤ sc
  · by_cases i1 : sc < st
    · skip
      have c4 := HD.out.row.cell 4
      simp only [List.getElem?_toArray, List.getElem?_cons_zero, List.getElem?_cons_succ] at c4
      rw [HW1.out] at c4
      go_enter Try.func19, Try.ntmps19
      go_wp2
      go_quiet (fail)
      go_wp2_with fail
      rw [← HW1.out]
      obtain ⟨u0, hu0⟩ : ∃ u0, u0 = w1.drewN nq := ⟨_, rfl⟩
      rw [← hu0]
      replace HD : Hid (WdIs u0 B Wb Mb Sb Hb T F S sh hs) := by unfold Hid; rw [hu0]; exact HD.out.below (below_drewN0 (Below.refl _ _) _)
      replace HX : Hid (Row u0 X 30 #[.int .i64 4, .int .i64 sc, .int .i64 pb, .int .i64 pp]) := by unfold Hid; rw [hu0]; exact HX.out
      replace HB1 : Hid (Below w.heap.size w u0) := by unfold Hid; rw [hu0]; exact below_drewN0 HB1.out _
      rw [← HX1.out]
      clear hu0 x0 x1 c0
      clear c4
      refine (flush_world HD.out HFl.out HLc.out).mono ?_
      rintro e w2 ⟨rfl, T2, F2, S2, sh2, hfl2⟩
      have HF2 := Lib.hid hfl2
      have k4 : w2.cell? ⟨Wb, 4, none⟩ = some (.pointer (some ⟨Mb, 0, none⟩)) := hfl2.is.row.cell 4
      clear hfl2
      go_wp2_with fail
      refine (dirty_world HF2.out.is HF2.out.clean).mono ?_
      rintro e w3 ⟨rfl, hb⟩
      have HF3 := Lib.hid (HF2.out.below hb)
      replace k4 : w3.cell? ⟨Wb, 4, none⟩ = some (.pointer (some ⟨Mb, 0, none⟩)) := HF3.out.is.row.cell 4
      clear hb
      go_wp2_with fail
      refine (Directory_any w3 Mb Sb T2 F2 S2 sh2 HF3.out.is.sm).mono ?_
      rintro e w4 ⟨rfl, hb, d, hdir, hrow⟩
      have HF4 := Lib.hid (HF3.out.below hb)
      have HDir := Lib.hid hdir
      have HRow4 := Lib.hid hrow
      replace k4 : w4.cell? ⟨Wb, 4, none⟩ = some (.pointer (some ⟨Mb, 0, none⟩)) := HF4.out.is.row.cell 4
      have hnp := HF4.out.is.sm.np_few
      have HPa := Lib.hid (Parts_any w4 Mb Sb T2 F2 S2 sh2 HF4.out.is.sm)
      obtain ⟨np, hnpe⟩ : ∃ np, np = S2.np := ⟨_, rfl⟩
      have HNp := Lib.hid hnpe
      rw [← hnpe] at HPa hnp ⊢
      clear hb hdir hrow hnpe
      go_wp2_with fail
      refine HPa.out.mono ?_
      rintro e w5 ⟨rfl, hb⟩
      have HF5 := Lib.hid (HF4.out.below hb)
      have HRow5 := Lib.hid (HRow4.out.below hb HRow4.out.lt)
      have HX5 : Hid (Row w5 X 30 #[.int .i64 4, .int .i64 sc, .int .i64 pb, .int .i64 pp]) := HF5.out.turns.row HX.out HXT.out
      have x50 := HX5.out.cell 0
      simp only [List.getElem?_toArray, List.getElem?_cons_zero] at x50
      have g9 : ¬ (4 * (np : Int) + 8 < 8 + 4 * (np : Int)) := by omega
      clear hb k4 HPa
      have HLo : Hid (∀ u, Below w5.heap.size w5 u → _) := fun u hu => load_world HF5.out (by have := HSx.out; have := HF5.out.same.1; omega) (by have := HF5.out.puts; have := HLc.out; omega) HDir.out HRow5.out (fun hm => by
        obtain ⟨_, _, _, _, h1⟩ := HF3.out.is.sm
        have := h1.lt _ (.inl hm); omega) u hu
      rw [← HNp.out] at HLo
      have k0 : ∀ t : Kept w5 [], t.u.cell? ⟨Wb, 0, none⟩ = some (.int .i64 S2.sectors) := fun t => (t.h.row HF5.out.is.row (by simp)).cell 0
      have k1 : ∀ t : Kept w5 [], t.u.cell? ⟨Wb, 1, none⟩ = some (.int .i64 S2.page) := fun t => (t.h.row HF5.out.is.row (by simp)).cell 1
      have k2 : ∀ t : Kept w5 [], t.u.cell? ⟨Wb, 2, none⟩ = some (.int .i64 S2.held) := fun t => (t.h.row HF5.out.is.row (by simp)).cell 2
      have k3 : ∀ t : Kept w5 [], t.u.cell? ⟨Wb, 3, none⟩ = some (.pointer (some ⟨Sb, 0, none⟩)) := fun t => (t.h.row HF5.out.is.row (by simp)).cell 3
      have hS : ∃ t : Kept w5 [], w5.drew = t.u := ⟨⟨_, (Turns.refl _ _).drew⟩, rfl⟩
      have hmx : Try.prog.follows .mixedOrders = true := by kernel_rfl
      go_wp2_with fail
      refine wp_region_noPanic ?_
      refine region_treeW (fun u => ∃ t : Kept w5 [], u = t.u) (Tn.takes [0,1,2,3,4,5,6,7,8,9,10,11,12,13,14,15,17] (.one 16 (.one 18 (Tn.takes [19,20,21,22,23] .nil)))) hmx (by kernel_rfl) (fun _ _ _ _ _ h => h) hS ?_
      simp only [Tn.takes]
      (repeat ((with_reducible refine wpTree_take (by with_unfolding_all exact rfl) ?_); (with_reducible (show wpQuiet _ _ _ _ (_ :: _) _)); go_big_quiet_step (fail); (with_reducible refine wpQuiet_nil ?_)))
      (with_reducible refine wpTree_one (by with_unfolding_all exact rfl) ?_)
      gi_wp2_with fail
      (with_reducible refine outQ_normal ?_ ?_); exact hS
      (with_reducible refine wpTree_one (by with_unfolding_all exact rfl) ?_)
      gi_wp2_with fail
      refine ((callsIn_wide (n := 8)).2 (HLo.out _ ((Below.refl _ _).drew))).mono ?_
      rintro e w6 ⟨Mb, T3, S3, rfl, hb6, hs3, hc3, hld⟩
      have HB6 := Lib.hid hb6
      have HS3 := Lib.hid hs3
      have HC3 := Lib.hid hc3
      have HLd := Lib.hid hld
      clear hb6 hs3 hc3 hld
      gi_wp2_with fail
      (with_reducible refine outQ_normal ?_ ?_); exact ⟨⟨w6, Turns.of_below HB6.out _⟩, rfl⟩
      (repeat ((with_reducible refine wpTree_take (by with_unfolding_all exact rfl) ?_); (with_reducible (show wpQuiet _ _ _ _ (_ :: _) _)); go_big_quiet_step (fail); (with_reducible refine wpQuiet_nil ?_)))
      with_reducible refine wpTree_nil ?_
      refine NoPanic.normal ?_
      clear k0 k1 k2 k3 hS
      obtain ⟨v4, q4, f4, hwd, hT3⟩ := HLd.out
      have HWd := Lib.hid hwd
      have HT3 := Lib.hid hT3
      clear hwd hT3 HLd HLo
      go_wp2
      have HBz : Hid (Below B w (w6.setCell ⟨Wb, 4, none⟩ (.pointer (some ⟨Mb, 0, none⟩)))) := by
        have hB5 : Below B w w5 := (HB1.out.mono HBl.out).trans (HF5.out.turns.below (Below.refl _ _) (Nat.le_trans HBl.out HB1.out.size) HD.out.low.2.2)
        exact (hB5.trans (HB6.out.mono (Nat.le_trans HBl.out hB5.size))).setCell HD.out.low.1 _
      replace HXT : Hid (X ∉ T3) := fun hm => (HT3.out _ hm).elim (fun hm => (HF5.out.grown.1 _ hm).elim HXT.out (fun h => by have := HX.out.lt; have : u0.heap.size ≤ X := h; omega)) (fun h => by have := HX5.out.lt; have : w5.heap.size ≤ X := h; omega)
      replace HX : Hid (Row (w6.setCell ⟨Wb, 4, none⟩ (.pointer (some ⟨Mb, 0, none⟩))) X 30 #[.int .i64 4, .int .i64 sc, .int .i64 pb, .int .i64 pp]) := (HX5.out.below HB6.out HX5.out.lt).far HXW.out.2.1 _
      replace HD := Lib.hid HWd.out
      replace HFl : Hid (sh2.full = -1) := HF5.out.full.trans HFl.out
      replace HL : Hid (sh2.L.length ≤ 262143) := by have := HF5.out.puts; have := HLc.out; unfold Hid; omega
      replace HHl : Hid (hl0 = S3.held) := HHl.out.trans (HF5.out.same.2.2.symm.trans HS3.out.2.2.symm)
      obtain ⟨cn, hcn⟩ : ∃ cn, cn = S3.cnt := ⟨_, rfl⟩
      replace HCn := Lib.hid hcn
      obtain ⟨wz, hwz⟩ : ∃ wz, wz = w6.setCell ⟨Wb, 4, none⟩ (.pointer (some ⟨Mb, 0, none⟩)) := ⟨_, rfl⟩
      rw [← hwz] at HX HD HBz ⊢
      have HS7 : Hid ((S3.sectors = S.sectors ∧ S3.page = S.page ∧ S3.held = S.held) ∧ sh2.full = sh.full ∧ sh2.L.length ≤ sh.L.length + S.cnt ∧ S3.cnt ≤ S.cnt + 0) := ⟨⟨HS3.out.1.trans HF5.out.same.1, HS3.out.2.1.trans HF5.out.same.2.1, HS3.out.2.2.trans HF5.out.same.2.2⟩, HF5.out.full, HF5.out.puts, by rw [HC3.out]; omega⟩
      clear hcn HF2 HF3 HF4 HX5 HRow4 hwz HWd q4 f4 HF5 HB6 HRow5 HDir
      have k1 : ∀ t : Kept wz T3, t.u.cell? ⟨Wb, 4, none⟩ = some (.pointer (some ⟨Mb, 0, none⟩)) := fun t => (t.h.row HD.out.row HD.out.sepW.1).cell 4
      have k2 : ∀ t : Kept wz T3, t.u.cell? ⟨Wb, 2, none⟩ = some (.int .i64 hl0) := fun t => by rw [HHl.out]; exact (t.h.row HD.out.row HD.out.sepW.1).cell 2
      have k3 : ∀ t : Kept wz T3, t.u.cell? ⟨X, 1, none⟩ = some (.int .i64 sc) := fun t => (t.h.row HX.out HXT.out).cell 1
      have hS : ∃ t : Kept wz T3, World.drew wz = t.u := ⟨⟨_, (Turns.refl _ _).drew⟩, rfl⟩
      have hmx : Try.prog.follows .mixedOrders = true := by kernel_rfl
      have hcl : cn ≤ hl0 := by rw [HCn.out, HHl.out]; exact HD.out.pw.wl.held
      have HHe : Hid (∀ u, Below (World.heap wz).size wz u → Calls Try.prog 13 #[.pointer (some ⟨Mb, 0, none⟩)] u fun e w' => e = .returned (.int .i64 cn) ∧ Below u.heap.size u w') := fun u hu => by rw [HCn.out]; exact (end_calls HD.out HFl.out HL.out sc u hu).1
      have HDi : Hid (∀ u, Below (World.heap wz).size wz u → Calls Try.prog 34 #[.pointer (some ⟨Mb, 0, none⟩)] u fun e w' => (∃ k : Nat, e = .returned (.int .i64 k) ∧ k ≤ cn) ∧ Below u.heap.size u w') := fun u hu => by rw [HCn.out]; exact (end_calls HD.out HFl.out HL.out sc u hu).2.1
      have HGe : Hid (∀ u, Below (World.heap wz).size wz u → Calls Try.prog 20 #[.pointer (some ⟨Wb, 0, none⟩), .int .i64 sc] u fun e w' => e = .returned (.bool true) ∧ WdM wz w' B Wb Mb Sb Hb T3 F2 1 1 S3 sh2 hs ∧ Turns u w' T3) := fun u hu => (end_calls HD.out HFl.out HL.out sc u hu).2.2
      refine wp_region_noPanic ?_
      refine region_treeW (fun u => ∃ t : Kept wz T3, u = t.u) (Tn.takes [0,1,2,3,5,6,7,8] (.one 4 (Tn.takes [9,10,11,12,13,14,16,17,18,19] (.one 15 (.one 20 (Tn.takes [21,22,23,24,25,26] (.one 27 (.take 28 (.take 29 .nil))))))))) hmx (by kernel_rfl) (fun _ _ _ _ _ h => h) hS ?_
      simp only [Tn.takes]
      (repeat ((with_reducible refine wpTree_take (by with_unfolding_all exact rfl) ?_); (with_reducible (show wpQuiet _ _ _ _ (_ :: _) _)); go_big_quiet_step (fail); (with_reducible refine wpQuiet_nil ?_)))
      (with_reducible refine wpTree_one (by with_unfolding_all exact rfl) ?_)
      gi_wp2_with fail
      refine ((callsIn_wide (n := 8)).2 (HHe.out _ ((Below.refl _ _).drew))).mono ?_
      rintro e w6 ⟨rfl, hb6⟩
      have HB6 : Hid (Below (World.heap wz).size wz w6) := ((Below.refl _ _).drew).trans hb6
      clear hb6
      gi_wp2_with fail
      (with_reducible refine outQ_normal ?_ ?_); exact ⟨⟨w6, Turns.of_below HB6.out _⟩, rfl⟩
      (repeat ((with_reducible refine wpTree_take (by with_unfolding_all exact rfl) ?_); (with_reducible (show wpQuiet _ _ _ _ (_ :: _) _)); go_big_quiet_step (fail); (with_reducible refine wpQuiet_nil ?_)))
      (with_reducible refine wpTree_one (by with_unfolding_all exact rfl) ?_)
      gi_wp2_with fail
      refine ((callsIn_wide (n := 8)).2 (HDi.out _ HB6.out)).mono ?_
      rintro e w7 ⟨⟨dn, rfl, hdn⟩, hb7⟩
      have HB7 : Hid (Below (World.heap wz).size wz w7) := HB6.out.trans (hb7.mono HB6.out.size)
      clear hb7
      gi_wp2_with fail
      (with_reducible refine outQ_normal ?_ ?_); exact ⟨⟨w7, Turns.of_below HB7.out _⟩, rfl⟩
      (with_reducible refine wpTree_one (by with_unfolding_all exact rfl) ?_)
      gi_wp2_with fail
      refine ((callsIn_wide (n := 8)).2 (HHe.out _ HB7.out)).mono ?_
      rintro e w8 ⟨rfl, hb8⟩
      have HB8 : Hid (Below (World.heap wz).size wz w8) := HB7.out.trans (hb8.mono HB7.out.size)
      clear hb8
      gi_wp2_with fail
      (with_reducible refine outQ_normal ?_ ?_); exact ⟨⟨w8, Turns.of_below HB8.out _⟩, rfl⟩
      (repeat ((with_reducible refine wpTree_take (by with_unfolding_all exact rfl) ?_); (with_reducible (show wpQuiet _ _ _ _ (_ :: _) _)); go_big_quiet_step (fail); (with_reducible refine wpQuiet_nil ?_)))
      (with_reducible refine wpTree_one (by with_unfolding_all exact rfl) ?_)
      gi_wp2_with fail
      refine ((callsIn_wide (n := 8)).2 (HGe.out _ HB8.out)).mono ?_
      rintro e w9 ⟨rfl, hm9, ht9⟩
      have HM9 := Lib.hid hm9
      have HT9 : Hid (Turns wz w9 T3) := (Turns.of_below HB8.out _).trans ht9 (fun q hq => .inl hq)
      clear hm9 ht9
      gi_wp2_with fail
      (with_reducible refine outQ_normal ?_ ?_); exact ⟨⟨w9, HT9.out⟩, rfl⟩
      (repeat ((with_reducible refine wpTree_take (by with_unfolding_all exact rfl) ?_); (with_reducible (show wpQuiet _ _ _ _ (_ :: _) _)); go_big_quiet_step (fail); (with_reducible refine wpQuiet_nil ?_)))
      with_reducible refine wpTree_nil ?_
      refine NoPanic.normal ?_
      clear k1 k2 k3 hS
      go_wp2
      go_ret
      exact ⟨by first | (simp; done) | (simp; omega), (WdM.wdTo HD.out HM9.out).late HBz.out HS7.out.1 HS7.out.2.1 HS7.out.2.2.1 HS7.out.2.2.2⟩
    · skip
      have c4 := HD.out.row.cell 4
      simp only [List.getElem?_toArray, List.getElem?_cons_zero, List.getElem?_cons_succ] at c4
      rw [HW1.out] at c4
      go_enter Try.func19, Try.ntmps19
      go_wp2
      go_quiet (fail)
      go_wp2_with fail
      rw [← HW1.out]
      obtain ⟨u0, hu0⟩ : ∃ u0, u0 = w1.drewN nq := ⟨_, rfl⟩
      rw [← hu0]
      replace HD : Hid (WdIs u0 B Wb Mb Sb Hb T F S sh hs) := by unfold Hid; rw [hu0]; exact HD.out.below (below_drewN0 (Below.refl _ _) _)
      replace HX : Hid (Row u0 X 30 #[.int .i64 4, .int .i64 sc, .int .i64 pb, .int .i64 pp]) := by unfold Hid; rw [hu0]; exact HX.out
      replace HB1 : Hid (Below w.heap.size w u0) := by unfold Hid; rw [hu0]; exact below_drewN0 HB1.out _
      rw [← HX1.out]
      clear hu0 x0 x1 c0
      clear c4
      refine (flush_world HD.out HFl.out HLc.out).mono ?_
      rintro e w2 ⟨rfl, T2, F2, S2, sh2, hfl2⟩
      have HF2 := Lib.hid hfl2
      have k4 : w2.cell? ⟨Wb, 4, none⟩ = some (.pointer (some ⟨Mb, 0, none⟩)) := hfl2.is.row.cell 4
      clear hfl2
      go_wp2_with fail
      refine (dirty_world HF2.out.is HF2.out.clean).mono ?_
      rintro e w3 ⟨rfl, hb⟩
      have HF3 := Lib.hid (HF2.out.below hb)
      replace k4 : w3.cell? ⟨Wb, 4, none⟩ = some (.pointer (some ⟨Mb, 0, none⟩)) := HF3.out.is.row.cell 4
      clear hb
      go_wp2_with fail
      refine (Directory_any w3 Mb Sb T2 F2 S2 sh2 HF3.out.is.sm).mono ?_
      rintro e w4 ⟨rfl, hb, d, hdir, hrow⟩
      have HF4 := Lib.hid (HF3.out.below hb)
      have HDir := Lib.hid hdir
      have HRow4 := Lib.hid hrow
      replace k4 : w4.cell? ⟨Wb, 4, none⟩ = some (.pointer (some ⟨Mb, 0, none⟩)) := HF4.out.is.row.cell 4
      have hnp := HF4.out.is.sm.np_few
      have HPa := Lib.hid (Parts_any w4 Mb Sb T2 F2 S2 sh2 HF4.out.is.sm)
      obtain ⟨np, hnpe⟩ : ∃ np, np = S2.np := ⟨_, rfl⟩
      have HNp := Lib.hid hnpe
      rw [← hnpe] at HPa hnp ⊢
      clear hb hdir hrow hnpe
      go_wp2_with fail
      refine HPa.out.mono ?_
      rintro e w5 ⟨rfl, hb⟩
      have HF5 := Lib.hid (HF4.out.below hb)
      have HRow5 := Lib.hid (HRow4.out.below hb HRow4.out.lt)
      have HX5 : Hid (Row w5 X 30 #[.int .i64 4, .int .i64 sc, .int .i64 pb, .int .i64 pp]) := HF5.out.turns.row HX.out HXT.out
      have x50 := HX5.out.cell 0
      simp only [List.getElem?_toArray, List.getElem?_cons_zero] at x50
      have g9 : ¬ (4 * (np : Int) + 8 < 8 + 4 * (np : Int)) := by omega
      clear hb k4 HPa
      have HLo : Hid (∀ u, Below w5.heap.size w5 u → _) := fun u hu => load_world HF5.out (by have := HSx.out; have := HF5.out.same.1; omega) (by have := HF5.out.puts; have := HLc.out; omega) HDir.out HRow5.out (fun hm => by
        obtain ⟨_, _, _, _, h1⟩ := HF3.out.is.sm
        have := h1.lt _ (.inl hm); omega) u hu
      rw [← HNp.out] at HLo
      have k0 : ∀ t : Kept w5 [], t.u.cell? ⟨Wb, 0, none⟩ = some (.int .i64 S2.sectors) := fun t => (t.h.row HF5.out.is.row (by simp)).cell 0
      have k1 : ∀ t : Kept w5 [], t.u.cell? ⟨Wb, 1, none⟩ = some (.int .i64 S2.page) := fun t => (t.h.row HF5.out.is.row (by simp)).cell 1
      have k2 : ∀ t : Kept w5 [], t.u.cell? ⟨Wb, 2, none⟩ = some (.int .i64 S2.held) := fun t => (t.h.row HF5.out.is.row (by simp)).cell 2
      have k3 : ∀ t : Kept w5 [], t.u.cell? ⟨Wb, 3, none⟩ = some (.pointer (some ⟨Sb, 0, none⟩)) := fun t => (t.h.row HF5.out.is.row (by simp)).cell 3
      have hS : ∃ t : Kept w5 [], w5.drew = t.u := ⟨⟨_, (Turns.refl _ _).drew⟩, rfl⟩
      have hmx : Try.prog.follows .mixedOrders = true := by kernel_rfl
      go_wp2_with fail
      refine wp_region_noPanic ?_
      refine region_treeW (fun u => ∃ t : Kept w5 [], u = t.u) (Tn.takes [0,1,2,3,4,5,6,7,8,9,10,11,12,13,14,15,17] (.one 16 (.one 18 (Tn.takes [19,20,21,22,23] .nil)))) hmx (by kernel_rfl) (fun _ _ _ _ _ h => h) hS ?_
      simp only [Tn.takes]
      (repeat ((with_reducible refine wpTree_take (by with_unfolding_all exact rfl) ?_); (with_reducible (show wpQuiet _ _ _ _ (_ :: _) _)); go_big_quiet_step (fail); (with_reducible refine wpQuiet_nil ?_)))
      (with_reducible refine wpTree_one (by with_unfolding_all exact rfl) ?_)
      gi_wp2_with fail
      (with_reducible refine outQ_normal ?_ ?_); exact hS
      (with_reducible refine wpTree_one (by with_unfolding_all exact rfl) ?_)
      gi_wp2_with fail
      refine ((callsIn_wide (n := 8)).2 (HLo.out _ ((Below.refl _ _).drew))).mono ?_
      rintro e w6 ⟨Mb, T3, S3, rfl, hb6, hs3, hc3, hld⟩
      have HB6 := Lib.hid hb6
      have HS3 := Lib.hid hs3
      have HC3 := Lib.hid hc3
      have HLd := Lib.hid hld
      clear hb6 hs3 hc3 hld
      gi_wp2_with fail
      (with_reducible refine outQ_normal ?_ ?_); exact ⟨⟨w6, Turns.of_below HB6.out _⟩, rfl⟩
      (repeat ((with_reducible refine wpTree_take (by with_unfolding_all exact rfl) ?_); (with_reducible (show wpQuiet _ _ _ _ (_ :: _) _)); go_big_quiet_step (fail); (with_reducible refine wpQuiet_nil ?_)))
      with_reducible refine wpTree_nil ?_
      refine NoPanic.normal ?_
      clear k0 k1 k2 k3 hS
      obtain ⟨v4, q4, f4, hwd, hT3⟩ := HLd.out
      have HWd := Lib.hid hwd
      have HT3 := Lib.hid hT3
      clear hwd hT3 HLd HLo
      go_wp2
      have HBz : Hid (Below B w (w6.setCell ⟨Wb, 4, none⟩ (.pointer (some ⟨Mb, 0, none⟩)))) := by
        have hB5 : Below B w w5 := (HB1.out.mono HBl.out).trans (HF5.out.turns.below (Below.refl _ _) (Nat.le_trans HBl.out HB1.out.size) HD.out.low.2.2)
        exact (hB5.trans (HB6.out.mono (Nat.le_trans HBl.out hB5.size))).setCell HD.out.low.1 _
      replace HXT : Hid (X ∉ T3) := fun hm => (HT3.out _ hm).elim (fun hm => (HF5.out.grown.1 _ hm).elim HXT.out (fun h => by have := HX.out.lt; have : u0.heap.size ≤ X := h; omega)) (fun h => by have := HX5.out.lt; have : w5.heap.size ≤ X := h; omega)
      replace HX : Hid (Row (w6.setCell ⟨Wb, 4, none⟩ (.pointer (some ⟨Mb, 0, none⟩))) X 30 #[.int .i64 4, .int .i64 sc, .int .i64 pb, .int .i64 pp]) := (HX5.out.below HB6.out HX5.out.lt).far HXW.out.2.1 _
      replace HD := Lib.hid HWd.out
      replace HFl : Hid (sh2.full = -1) := HF5.out.full.trans HFl.out
      replace HL : Hid (sh2.L.length ≤ 262143) := by have := HF5.out.puts; have := HLc.out; unfold Hid; omega
      replace HHl : Hid (hl0 = S3.held) := HHl.out.trans (HF5.out.same.2.2.symm.trans HS3.out.2.2.symm)
      obtain ⟨cn, hcn⟩ : ∃ cn, cn = S3.cnt := ⟨_, rfl⟩
      replace HCn := Lib.hid hcn
      obtain ⟨wz, hwz⟩ : ∃ wz, wz = w6.setCell ⟨Wb, 4, none⟩ (.pointer (some ⟨Mb, 0, none⟩)) := ⟨_, rfl⟩
      rw [← hwz] at HX HD HBz ⊢
      have HS7 : Hid ((S3.sectors = S.sectors ∧ S3.page = S.page ∧ S3.held = S.held) ∧ sh2.full = sh.full ∧ sh2.L.length ≤ sh.L.length + S.cnt ∧ S3.cnt ≤ S.cnt + 0) := ⟨⟨HS3.out.1.trans HF5.out.same.1, HS3.out.2.1.trans HF5.out.same.2.1, HS3.out.2.2.trans HF5.out.same.2.2⟩, HF5.out.full, HF5.out.puts, by rw [HC3.out]; omega⟩
      clear hcn HF2 HF3 HF4 HX5 HRow4 hwz HWd q4 f4 HF5 HB6 HRow5 HDir
      have k1 : ∀ t : Kept wz T3, t.u.cell? ⟨Wb, 4, none⟩ = some (.pointer (some ⟨Mb, 0, none⟩)) := fun t => (t.h.row HD.out.row HD.out.sepW.1).cell 4
      have k2 : ∀ t : Kept wz T3, t.u.cell? ⟨Wb, 2, none⟩ = some (.int .i64 hl0) := fun t => by rw [HHl.out]; exact (t.h.row HD.out.row HD.out.sepW.1).cell 2
      have k3 : ∀ t : Kept wz T3, t.u.cell? ⟨X, 1, none⟩ = some (.int .i64 sc) := fun t => (t.h.row HX.out HXT.out).cell 1
      have hS : ∃ t : Kept wz T3, World.drew wz = t.u := ⟨⟨_, (Turns.refl _ _).drew⟩, rfl⟩
      have hmx : Try.prog.follows .mixedOrders = true := by kernel_rfl
      have hcl : cn ≤ hl0 := by rw [HCn.out, HHl.out]; exact HD.out.pw.wl.held
      have HHe : Hid (∀ u, Below (World.heap wz).size wz u → Calls Try.prog 13 #[.pointer (some ⟨Mb, 0, none⟩)] u fun e w' => e = .returned (.int .i64 cn) ∧ Below u.heap.size u w') := fun u hu => by rw [HCn.out]; exact (end_calls HD.out HFl.out HL.out sc u hu).1
      have HDi : Hid (∀ u, Below (World.heap wz).size wz u → Calls Try.prog 34 #[.pointer (some ⟨Mb, 0, none⟩)] u fun e w' => (∃ k : Nat, e = .returned (.int .i64 k) ∧ k ≤ cn) ∧ Below u.heap.size u w') := fun u hu => by rw [HCn.out]; exact (end_calls HD.out HFl.out HL.out sc u hu).2.1
      have HGe : Hid (∀ u, Below (World.heap wz).size wz u → Calls Try.prog 20 #[.pointer (some ⟨Wb, 0, none⟩), .int .i64 sc] u fun e w' => e = .returned (.bool true) ∧ WdM wz w' B Wb Mb Sb Hb T3 F2 1 1 S3 sh2 hs ∧ Turns u w' T3) := fun u hu => (end_calls HD.out HFl.out HL.out sc u hu).2.2
      refine wp_region_noPanic ?_
      refine region_treeW (fun u => ∃ t : Kept wz T3, u = t.u) (Tn.takes [0,1,2,3,5,6,7,8] (.one 4 (Tn.takes [9,10,11,12,13,14,16,17,18,19] (.one 15 (.one 20 (Tn.takes [21,22,23,24,25,26] (.one 27 (.take 28 (.take 29 .nil))))))))) hmx (by kernel_rfl) (fun _ _ _ _ _ h => h) hS ?_
      simp only [Tn.takes]
      (repeat ((with_reducible refine wpTree_take (by with_unfolding_all exact rfl) ?_); (with_reducible (show wpQuiet _ _ _ _ (_ :: _) _)); go_big_quiet_step (fail); (with_reducible refine wpQuiet_nil ?_)))
      (with_reducible refine wpTree_one (by with_unfolding_all exact rfl) ?_)
      gi_wp2_with fail
      refine ((callsIn_wide (n := 8)).2 (HHe.out _ ((Below.refl _ _).drew))).mono ?_
      rintro e w6 ⟨rfl, hb6⟩
      have HB6 : Hid (Below (World.heap wz).size wz w6) := ((Below.refl _ _).drew).trans hb6
      clear hb6
      gi_wp2_with fail
      (with_reducible refine outQ_normal ?_ ?_); exact ⟨⟨w6, Turns.of_below HB6.out _⟩, rfl⟩
      (repeat ((with_reducible refine wpTree_take (by with_unfolding_all exact rfl) ?_); (with_reducible (show wpQuiet _ _ _ _ (_ :: _) _)); go_big_quiet_step (fail); (with_reducible refine wpQuiet_nil ?_)))
      (with_reducible refine wpTree_one (by with_unfolding_all exact rfl) ?_)
      gi_wp2_with fail
      refine ((callsIn_wide (n := 8)).2 (HDi.out _ HB6.out)).mono ?_
      rintro e w7 ⟨⟨dn, rfl, hdn⟩, hb7⟩
      have HB7 : Hid (Below (World.heap wz).size wz w7) := HB6.out.trans (hb7.mono HB6.out.size)
      clear hb7
      gi_wp2_with fail
      (with_reducible refine outQ_normal ?_ ?_); exact ⟨⟨w7, Turns.of_below HB7.out _⟩, rfl⟩
      (with_reducible refine wpTree_one (by with_unfolding_all exact rfl) ?_)
      gi_wp2_with fail
      refine ((callsIn_wide (n := 8)).2 (HHe.out _ HB7.out)).mono ?_
      rintro e w8 ⟨rfl, hb8⟩
      have HB8 : Hid (Below (World.heap wz).size wz w8) := HB7.out.trans (hb8.mono HB7.out.size)
      clear hb8
      gi_wp2_with fail
      (with_reducible refine outQ_normal ?_ ?_); exact ⟨⟨w8, Turns.of_below HB8.out _⟩, rfl⟩
      (repeat ((with_reducible refine wpTree_take (by with_unfolding_all exact rfl) ?_); (with_reducible (show wpQuiet _ _ _ _ (_ :: _) _)); go_big_quiet_step (fail); (with_reducible refine wpQuiet_nil ?_)))
      (with_reducible refine wpTree_one (by with_unfolding_all exact rfl) ?_)
      gi_wp2_with fail
      refine ((callsIn_wide (n := 8)).2 (HGe.out _ HB8.out)).mono ?_
      rintro e w9 ⟨rfl, hm9, ht9⟩
      have HM9 := Lib.hid hm9
      have HT9 : Hid (Turns wz w9 T3) := (Turns.of_below HB8.out _).trans ht9 (fun q hq => .inl hq)
      clear hm9 ht9
      gi_wp2_with fail
      (with_reducible refine outQ_normal ?_ ?_); exact ⟨⟨w9, HT9.out⟩, rfl⟩
      (repeat ((with_reducible refine wpTree_take (by with_unfolding_all exact rfl) ?_); (with_reducible (show wpQuiet _ _ _ _ (_ :: _) _)); go_big_quiet_step (fail); (with_reducible refine wpQuiet_nil ?_)))
      with_reducible refine wpTree_nil ?_
      refine NoPanic.normal ?_
      clear k1 k2 k3 hS
      go_wp2
      go_ret
      exact ⟨by first | (simp; done) | (simp; omega), (WdM.wdTo HD.out HM9.out).late HBz.out HS7.out.1 HS7.out.2.1 HS7.out.2.2.1 HS7.out.2.2.2⟩
  · have i1 : sc < 0 := by omega
    have g1 : decide (0 ≤ sc) = false := decide_eq_false i0
    have c4 := HD.out.row.cell 4
    simp only [List.getElem?_toArray, List.getElem?_cons_zero, List.getElem?_cons_succ] at c4
    rw [HW1.out] at c4
    go_enter Try.func19, Try.ntmps19
    go_wp2
    go_quiet (fail)
    go_wp2_with fail
    rw [← HW1.out]
    obtain ⟨u0, hu0⟩ : ∃ u0, u0 = w1.drewN nq := ⟨_, rfl⟩
    rw [← hu0]
    replace HD : Hid (WdIs u0 B Wb Mb Sb Hb T F S sh hs) := by unfold Hid; rw [hu0]; exact HD.out.below (below_drewN0 (Below.refl _ _) _)
    replace HX : Hid (Row u0 X 30 #[.int .i64 4, .int .i64 sc, .int .i64 pb, .int .i64 pp]) := by unfold Hid; rw [hu0]; exact HX.out
    replace HB1 : Hid (Below w.heap.size w u0) := by unfold Hid; rw [hu0]; exact below_drewN0 HB1.out _
    rw [← HX1.out]
    clear hu0 x0 x1 c0
    clear c4
    refine (flush_world HD.out HFl.out HLc.out).mono ?_
    rintro e w2 ⟨rfl, T2, F2, S2, sh2, hfl2⟩
    have HF2 := Lib.hid hfl2
    have k4 : w2.cell? ⟨Wb, 4, none⟩ = some (.pointer (some ⟨Mb, 0, none⟩)) := hfl2.is.row.cell 4
    clear hfl2
    go_wp2_with fail
    refine (dirty_world HF2.out.is HF2.out.clean).mono ?_
    rintro e w3 ⟨rfl, hb⟩
    have HF3 := Lib.hid (HF2.out.below hb)
    replace k4 : w3.cell? ⟨Wb, 4, none⟩ = some (.pointer (some ⟨Mb, 0, none⟩)) := HF3.out.is.row.cell 4
    clear hb
    go_wp2_with fail
    refine (Directory_any w3 Mb Sb T2 F2 S2 sh2 HF3.out.is.sm).mono ?_
    rintro e w4 ⟨rfl, hb, d, hdir, hrow⟩
    have HF4 := Lib.hid (HF3.out.below hb)
    have HDir := Lib.hid hdir
    have HRow4 := Lib.hid hrow
    replace k4 : w4.cell? ⟨Wb, 4, none⟩ = some (.pointer (some ⟨Mb, 0, none⟩)) := HF4.out.is.row.cell 4
    have hnp := HF4.out.is.sm.np_few
    have HPa := Lib.hid (Parts_any w4 Mb Sb T2 F2 S2 sh2 HF4.out.is.sm)
    obtain ⟨np, hnpe⟩ : ∃ np, np = S2.np := ⟨_, rfl⟩
    have HNp := Lib.hid hnpe
    rw [← hnpe] at HPa hnp ⊢
    clear hb hdir hrow hnpe
    go_wp2_with fail
    refine HPa.out.mono ?_
    rintro e w5 ⟨rfl, hb⟩
    have HF5 := Lib.hid (HF4.out.below hb)
    have HRow5 := Lib.hid (HRow4.out.below hb HRow4.out.lt)
    have HX5 : Hid (Row w5 X 30 #[.int .i64 4, .int .i64 sc, .int .i64 pb, .int .i64 pp]) := HF5.out.turns.row HX.out HXT.out
    have x50 := HX5.out.cell 0
    simp only [List.getElem?_toArray, List.getElem?_cons_zero] at x50
    have g9 : ¬ (4 * (np : Int) + 8 < 8 + 4 * (np : Int)) := by omega
    clear hb k4 HPa
    have HLo : Hid (∀ u, Below w5.heap.size w5 u → _) := fun u hu => load_world HF5.out (by have := HSx.out; have := HF5.out.same.1; omega) (by have := HF5.out.puts; have := HLc.out; omega) HDir.out HRow5.out (fun hm => by
      obtain ⟨_, _, _, _, h1⟩ := HF3.out.is.sm
      have := h1.lt _ (.inl hm); omega) u hu
    rw [← HNp.out] at HLo
    have k0 : ∀ t : Kept w5 [], t.u.cell? ⟨Wb, 0, none⟩ = some (.int .i64 S2.sectors) := fun t => (t.h.row HF5.out.is.row (by simp)).cell 0
    have k1 : ∀ t : Kept w5 [], t.u.cell? ⟨Wb, 1, none⟩ = some (.int .i64 S2.page) := fun t => (t.h.row HF5.out.is.row (by simp)).cell 1
    have k2 : ∀ t : Kept w5 [], t.u.cell? ⟨Wb, 2, none⟩ = some (.int .i64 S2.held) := fun t => (t.h.row HF5.out.is.row (by simp)).cell 2
    have k3 : ∀ t : Kept w5 [], t.u.cell? ⟨Wb, 3, none⟩ = some (.pointer (some ⟨Sb, 0, none⟩)) := fun t => (t.h.row HF5.out.is.row (by simp)).cell 3
    have hS : ∃ t : Kept w5 [], w5.drew = t.u := ⟨⟨_, (Turns.refl _ _).drew⟩, rfl⟩
    have hmx : Try.prog.follows .mixedOrders = true := by kernel_rfl
    go_wp2_with fail
    refine wp_region_noPanic ?_
    refine region_treeW (fun u => ∃ t : Kept w5 [], u = t.u) (Tn.takes [0,1,2,3,4,5,6,7,8,9,10,11,12,13,14,15,17] (.one 16 (.one 18 (Tn.takes [19,20,21,22,23] .nil)))) hmx (by kernel_rfl) (fun _ _ _ _ _ h => h) hS ?_
    simp only [Tn.takes]
    (repeat ((with_reducible refine wpTree_take (by with_unfolding_all exact rfl) ?_); (with_reducible (show wpQuiet _ _ _ _ (_ :: _) _)); go_big_quiet_step (fail); (with_reducible refine wpQuiet_nil ?_)))
    (with_reducible refine wpTree_one (by with_unfolding_all exact rfl) ?_)
    gi_wp2_with fail
    (with_reducible refine outQ_normal ?_ ?_); exact hS
    (with_reducible refine wpTree_one (by with_unfolding_all exact rfl) ?_)
    gi_wp2_with fail
    refine ((callsIn_wide (n := 8)).2 (HLo.out _ ((Below.refl _ _).drew))).mono ?_
    rintro e w6 ⟨Mb, T3, S3, rfl, hb6, hs3, hc3, hld⟩
    have HB6 := Lib.hid hb6
    have HS3 := Lib.hid hs3
    have HC3 := Lib.hid hc3
    have HLd := Lib.hid hld
    clear hb6 hs3 hc3 hld
    gi_wp2_with fail
    (with_reducible refine outQ_normal ?_ ?_); exact ⟨⟨w6, Turns.of_below HB6.out _⟩, rfl⟩
    (repeat ((with_reducible refine wpTree_take (by with_unfolding_all exact rfl) ?_); (with_reducible (show wpQuiet _ _ _ _ (_ :: _) _)); go_big_quiet_step (fail); (with_reducible refine wpQuiet_nil ?_)))
    with_reducible refine wpTree_nil ?_
    refine NoPanic.normal ?_
    clear k0 k1 k2 k3 hS
    obtain ⟨v4, q4, f4, hwd, hT3⟩ := HLd.out
    have HWd := Lib.hid hwd
    have HT3 := Lib.hid hT3
    clear hwd hT3 HLd HLo
    go_wp2
    have HBz : Hid (Below B w (w6.setCell ⟨Wb, 4, none⟩ (.pointer (some ⟨Mb, 0, none⟩)))) := by
      have hB5 : Below B w w5 := (HB1.out.mono HBl.out).trans (HF5.out.turns.below (Below.refl _ _) (Nat.le_trans HBl.out HB1.out.size) HD.out.low.2.2)
      exact (hB5.trans (HB6.out.mono (Nat.le_trans HBl.out hB5.size))).setCell HD.out.low.1 _
    replace HXT : Hid (X ∉ T3) := fun hm => (HT3.out _ hm).elim (fun hm => (HF5.out.grown.1 _ hm).elim HXT.out (fun h => by have := HX.out.lt; have : u0.heap.size ≤ X := h; omega)) (fun h => by have := HX5.out.lt; have : w5.heap.size ≤ X := h; omega)
    replace HX : Hid (Row (w6.setCell ⟨Wb, 4, none⟩ (.pointer (some ⟨Mb, 0, none⟩))) X 30 #[.int .i64 4, .int .i64 sc, .int .i64 pb, .int .i64 pp]) := (HX5.out.below HB6.out HX5.out.lt).far HXW.out.2.1 _
    replace HD := Lib.hid HWd.out
    replace HFl : Hid (sh2.full = -1) := HF5.out.full.trans HFl.out
    replace HL : Hid (sh2.L.length ≤ 262143) := by have := HF5.out.puts; have := HLc.out; unfold Hid; omega
    replace HHl : Hid (hl0 = S3.held) := HHl.out.trans (HF5.out.same.2.2.symm.trans HS3.out.2.2.symm)
    obtain ⟨cn, hcn⟩ : ∃ cn, cn = S3.cnt := ⟨_, rfl⟩
    replace HCn := Lib.hid hcn
    obtain ⟨wz, hwz⟩ : ∃ wz, wz = w6.setCell ⟨Wb, 4, none⟩ (.pointer (some ⟨Mb, 0, none⟩)) := ⟨_, rfl⟩
    rw [← hwz] at HX HD HBz ⊢
    have HS7 : Hid ((S3.sectors = S.sectors ∧ S3.page = S.page ∧ S3.held = S.held) ∧ sh2.full = sh.full ∧ sh2.L.length ≤ sh.L.length + S.cnt ∧ S3.cnt ≤ S.cnt + 0) := ⟨⟨HS3.out.1.trans HF5.out.same.1, HS3.out.2.1.trans HF5.out.same.2.1, HS3.out.2.2.trans HF5.out.same.2.2⟩, HF5.out.full, HF5.out.puts, by rw [HC3.out]; omega⟩
    clear hcn HF2 HF3 HF4 HX5 HRow4 hwz HWd q4 f4 HF5 HB6 HRow5 HDir
    have k1 : ∀ t : Kept wz T3, t.u.cell? ⟨Wb, 4, none⟩ = some (.pointer (some ⟨Mb, 0, none⟩)) := fun t => (t.h.row HD.out.row HD.out.sepW.1).cell 4
    have k2 : ∀ t : Kept wz T3, t.u.cell? ⟨Wb, 2, none⟩ = some (.int .i64 hl0) := fun t => by rw [HHl.out]; exact (t.h.row HD.out.row HD.out.sepW.1).cell 2
    have k3 : ∀ t : Kept wz T3, t.u.cell? ⟨X, 1, none⟩ = some (.int .i64 sc) := fun t => (t.h.row HX.out HXT.out).cell 1
    have hS : ∃ t : Kept wz T3, World.drew wz = t.u := ⟨⟨_, (Turns.refl _ _).drew⟩, rfl⟩
    have hmx : Try.prog.follows .mixedOrders = true := by kernel_rfl
    have hcl : cn ≤ hl0 := by rw [HCn.out, HHl.out]; exact HD.out.pw.wl.held
    have HHe : Hid (∀ u, Below (World.heap wz).size wz u → Calls Try.prog 13 #[.pointer (some ⟨Mb, 0, none⟩)] u fun e w' => e = .returned (.int .i64 cn) ∧ Below u.heap.size u w') := fun u hu => by rw [HCn.out]; exact (end_calls HD.out HFl.out HL.out sc u hu).1
    have HDi : Hid (∀ u, Below (World.heap wz).size wz u → Calls Try.prog 34 #[.pointer (some ⟨Mb, 0, none⟩)] u fun e w' => (∃ k : Nat, e = .returned (.int .i64 k) ∧ k ≤ cn) ∧ Below u.heap.size u w') := fun u hu => by rw [HCn.out]; exact (end_calls HD.out HFl.out HL.out sc u hu).2.1
    have HGe : Hid (∀ u, Below (World.heap wz).size wz u → Calls Try.prog 20 #[.pointer (some ⟨Wb, 0, none⟩), .int .i64 sc] u fun e w' => e = .returned (.bool true) ∧ WdM wz w' B Wb Mb Sb Hb T3 F2 1 1 S3 sh2 hs ∧ Turns u w' T3) := fun u hu => (end_calls HD.out HFl.out HL.out sc u hu).2.2
    refine wp_region_noPanic ?_
    refine region_treeW (fun u => ∃ t : Kept wz T3, u = t.u) (Tn.takes [0,1,2,3,5,6,7,8] (.one 4 (Tn.takes [9,10,11,12,13,14,16,17,18,19] (.one 15 (.one 20 (Tn.takes [21,22,23,24,25,26] (.one 27 (.take 28 (.take 29 .nil))))))))) hmx (by kernel_rfl) (fun _ _ _ _ _ h => h) hS ?_
    simp only [Tn.takes]
    (repeat ((with_reducible refine wpTree_take (by with_unfolding_all exact rfl) ?_); (with_reducible (show wpQuiet _ _ _ _ (_ :: _) _)); go_big_quiet_step (fail); (with_reducible refine wpQuiet_nil ?_)))
    (with_reducible refine wpTree_one (by with_unfolding_all exact rfl) ?_)
    gi_wp2_with fail
    refine ((callsIn_wide (n := 8)).2 (HHe.out _ ((Below.refl _ _).drew))).mono ?_
    rintro e w6 ⟨rfl, hb6⟩
    have HB6 : Hid (Below (World.heap wz).size wz w6) := ((Below.refl _ _).drew).trans hb6
    clear hb6
    gi_wp2_with fail
    (with_reducible refine outQ_normal ?_ ?_); exact ⟨⟨w6, Turns.of_below HB6.out _⟩, rfl⟩
    (repeat ((with_reducible refine wpTree_take (by with_unfolding_all exact rfl) ?_); (with_reducible (show wpQuiet _ _ _ _ (_ :: _) _)); go_big_quiet_step (fail); (with_reducible refine wpQuiet_nil ?_)))
    (with_reducible refine wpTree_one (by with_unfolding_all exact rfl) ?_)
    gi_wp2_with fail
    refine ((callsIn_wide (n := 8)).2 (HDi.out _ HB6.out)).mono ?_
    rintro e w7 ⟨⟨dn, rfl, hdn⟩, hb7⟩
    have HB7 : Hid (Below (World.heap wz).size wz w7) := HB6.out.trans (hb7.mono HB6.out.size)
    clear hb7
    gi_wp2_with fail
    (with_reducible refine outQ_normal ?_ ?_); exact ⟨⟨w7, Turns.of_below HB7.out _⟩, rfl⟩
    (with_reducible refine wpTree_one (by with_unfolding_all exact rfl) ?_)
    gi_wp2_with fail
    refine ((callsIn_wide (n := 8)).2 (HHe.out _ HB7.out)).mono ?_
    rintro e w8 ⟨rfl, hb8⟩
    have HB8 : Hid (Below (World.heap wz).size wz w8) := HB7.out.trans (hb8.mono HB7.out.size)
    clear hb8
    gi_wp2_with fail
    (with_reducible refine outQ_normal ?_ ?_); exact ⟨⟨w8, Turns.of_below HB8.out _⟩, rfl⟩
    (repeat ((with_reducible refine wpTree_take (by with_unfolding_all exact rfl) ?_); (with_reducible (show wpQuiet _ _ _ _ (_ :: _) _)); go_big_quiet_step (fail); (with_reducible refine wpQuiet_nil ?_)))
    (with_reducible refine wpTree_one (by with_unfolding_all exact rfl) ?_)
    gi_wp2_with fail
    refine ((callsIn_wide (n := 8)).2 (HGe.out _ HB8.out)).mono ?_
    rintro e w9 ⟨rfl, hm9, ht9⟩
    have HM9 := Lib.hid hm9
    have HT9 : Hid (Turns wz w9 T3) := (Turns.of_below HB8.out _).trans ht9 (fun q hq => .inl hq)
    clear hm9 ht9
    gi_wp2_with fail
    (with_reducible refine outQ_normal ?_ ?_); exact ⟨⟨w9, HT9.out⟩, rfl⟩
    (repeat ((with_reducible refine wpTree_take (by with_unfolding_all exact rfl) ?_); (with_reducible (show wpQuiet _ _ _ _ (_ :: _) _)); go_big_quiet_step (fail); (with_reducible refine wpQuiet_nil ?_)))
    with_reducible refine wpTree_nil ?_
    refine NoPanic.normal ?_
    clear k1 k2 k3 hS
    go_wp2
    go_ret
    exact ⟨by first | (simp; done) | (simp; omega), (WdM.wdTo HD.out HM9.out).late HBz.out HS7.out.1 HS7.out.2.1 HS7.out.2.2.1 HS7.out.2.2.2⟩
end Go.Proofs.Ytfipmpajdkgffaa

namespace Go.Proofs.Ytfipmpajdkgffaa
open Go.RowKit Go.MapKept Go.ChangeMaps
set_option linter.unusedVariables false
set_option linter.unusedSimpArgs false

theorem own_lay {w : World} {B : Nat} {t : TypeId} {L n c : Nat} {xs : List Value} (h : w.ownsRow B t 1 (.slice (some ⟨L, 0, none⟩) n c) n xs) (i : Nat) (x : Value) : (w.setCell ⟨L, i, none⟩ x).ownsRow B t 1 (.slice (some ⟨L, 0, none⟩) n c) n (xs.set i x) := by
  obtain ⟨hB, cur, hr, hs, hn, hm, ht⟩ := own_row h
  refine ⟨by rw [List.length_set]; exact h.1, .inr ⟨L, c, cur.setIfInBounds i x, rfl, hB, hr.put i _, hn, hm, by simpa using hs, ?_⟩⟩
  rw [← ht, Array.toList_setIfInBounds, List.take_set]
theorem own_at' {w : World} {B : Nat} {t : TypeId} {L n c : Nat} {xs : List Value} (h : w.ownsRow B t 1 (.slice (some ⟨L, 0, none⟩) n c) n xs) (i : Nat) (x : Value) (hx : xs[i]? = some x) : w.cell? ⟨L, i, none⟩ = some x := by
  have := h.cells (g := L) rfl i _ hx
  rw [addr_add, Nat.zero_add] at this
  exact this
/-- A shelf with something on it: its rows. -/
structure ShRows (w : World) (Sb g1 c1 g2 c2 : Nat) (T F : List Nat) (sh : Sh) : Prop where
  row : Row w Sb 56 #[.slice (some ⟨g1, 0, none⟩) sh.L.length c1, .slice (some ⟨g2, 0, none⟩) sh.N.length c2, .int .i64 sh.full]
  at1 : ∀ (k : Nat) (d : List Nat), sh.L[k]? = some d → ∃ A c, w.cell? ⟨g1, k, none⟩ = some (.slice A d.length c) ∧ Cells8 w A d ∧ ∀ a, A = some a → 0 < d.length → a.block ∈ F
  at2 : ∀ (k : Nat) (v : Int), sh.N[k]? = some v → w.cell? ⟨g2, k, none⟩ = some (.int .i64 v)
  mem : Sb ∈ T ∧ g1 ∈ T ∧ g2 ∈ T
  thaw : ∀ k, w.frozen? ⟨g1, k, none⟩ = false
  ty : ∃ cs, Row w g1 43 cs
  caps : sh.L.length ≤ c1 ∧ sh.N.length ≤ c2
theorem ShIs.rows {w : World} {Sb : Nat} {T F : List Nat} {sh : Sh} (h : ShIs w Sb T F sh) (hpos : 0 < sh.L.length) : ∃ g1 c1 g2 c2, ShRows w Sb g1 c1 g2 c2 T F sh := by
  obtain ⟨v1, v2, xs, h1, h2, h3, h4, h5, h6⟩ := h.at'
  obtain ⟨g1, c1, rfl, _, _, e1, _⟩ := own_at h2 hpos
  obtain ⟨g2, c2, rfl, _, _, e2, _⟩ := own_at h3 (by rw [h.same]; exact hpos)
  obtain ⟨_, cur, hr, _⟩ := own_row h2
  refine ⟨g1, c1, g2, c2, h1, fun k d hd => ?_, fun k v hv => own_at' h3 k _ (by rw [List.getElem?_map, hv]; rfl), ⟨h.mem, h4 g1 (by simp [blkOf, Value.ownBlock]), h5 g2 (by simp [blkOf, Value.ownBlock])⟩, fun k => hr.frozen k, ⟨_, hr⟩, e1, e2⟩
  obtain ⟨A, c, h7, h8, h9⟩ := h6 k d hd
  exact ⟨A, c, own_at' h2 k _ h7, h8, h9⟩
theorem ShRows.keep {w w' : World} {Sb g1 c1 g2 c2 : Nat} {T F : List Nat} {sh : Sh} (h : ShRows w Sb g1 c1 g2 c2 T F sh) (ht : Turns w w' []) : ShRows w' Sb g1 c1 g2 c2 T F sh := by
  obtain ⟨cs, hr⟩ := h.ty
  refine ⟨ht.row h.row (by simp), fun k d hd => ?_, fun k v hv => ht.cell (h.at2 k v hv) (by simp), h.mem, fun k => (ht.row hr (by simp)).frozen k, ⟨cs, ht.row hr (by simp)⟩, h.caps⟩
  obtain ⟨A, c, h1, h2, h3⟩ := h.at1 k d hd
  exact ⟨A, c, ht.cell h1 (by simp), cells8_turns h2 ht (by simp), h3⟩
def Sh.lay (sh : Sh) (k : Nat) (d : List Nat) : Sh := { sh with L := sh.L.set k d }
/-- Bytes are laid at an index. -/
theorem ShIs.lay {w : World} {Sb : Nat} {T F : List Nat} {sh : Sh} (h : ShIs w Sb T F sh) (hTF : ∀ q ∈ F, q ∉ T) {g1 c1 g2 c2 : Nat} (hr : ShRows w Sb g1 c1 g2 c2 T F sh) (k : Nat) (A : Option Addr) (d : List Nat) (c : Nat) (hc : Cells8 w A d) (hA : ∀ a, A = some a → 0 < d.length → a.block ∈ F) (hd : ∀ u ∈ d, u < 256) :
    ShIs (w.setCell ⟨g1, k, none⟩ (.slice A d.length c)) Sb T F (sh.lay k d) := by
  obtain ⟨v1, v2, xs, h1, h2, h3, h4, h5, h6⟩ := h.at'
  have e1 := h1.cell 0
  rw [hr.row.cell 0] at e1
  simp only [List.getElem?_toArray, List.getElem?_cons_zero, Option.some.injEq] at e1
  subst e1
  have ht : Turns w (w.setCell ⟨g1, k, none⟩ (.slice A d.length c)) [g1] := (Turns.refl _ _).setCell (by simp) _
  obtain ⟨_, cur, hr1, _⟩ := own_row h2
  have hne : Sb ≠ g1 := Row.ne_type h1 hr1 (by decide)
  have hFn : ∀ q ∈ F, q ≠ g1 := fun q hq e => hTF q hq (e ▸ hr.mem.2.1)
  refine ⟨⟨.slice (some ⟨g1, 0, none⟩) sh.L.length c1, v2, xs.set k (.slice A d.length c), ?_, ?_, ht.own h3 (fun g hg hm => ?_), h4, h5, fun i e he => ?_⟩, h.mem, fun e he => ?_, ?_⟩
  · exact ht.row h1 (by simpa using hne)
  · show World.ownsRow _ _ _ _ _ ((sh.L.set k d).length) _
    rw [List.length_set]
    exact own_lay h2 k _
  · rw [List.mem_singleton.1 hm] at hg
    rcases h3.2 with ⟨e, _⟩ | ⟨g', cap, cu, e, _, hr', _⟩
    · rw [e] at hg; cases hg
    · rw [e] at hg
      injection hg with hg
      exact Row.ne_type (show Row w g' _ cu from hr') hr1 (by decide) hg
  · have he' : (sh.L.set k d)[i]? = some e := he
    by_cases hik : k = i
    · subst hik
      have hkl : k < sh.L.length := by
        have := (List.getElem?_eq_some_iff.1 he').1
        simpa using this
      rw [List.getElem?_set_self hkl] at he'
      injection he' with he'
      subst he'
      have hxl : xs.length = sh.L.length := by have := h2.1; simpa using this
      exact ⟨A, c, by rw [List.getElem?_set_self (by rw [hxl]; exact hkl)], cells8_turns hc ht (fun a ha h0 => by simpa using hFn _ (hA a ha h0)), hA⟩
    · rw [List.getElem?_set_ne hik] at he'
      obtain ⟨A', c', h7, h8, h9⟩ := h6 i e he'
      exact ⟨A', c', by rw [List.getElem?_set_ne hik]; exact h7, cells8_turns h8 ht (fun a ha h0 => by simpa using hFn _ (h9 a ha h0)), h9⟩
  · rcases List.mem_or_eq_of_mem_set (show e ∈ sh.L.set k d from he) with h | h
    · exact ‹ShIs w Sb T F sh›.small e h
    · rw [h]; exact hd
  · show sh.N.length = (sh.L.set k d).length
    rw [List.length_set]; exact h.same
/-- Bytes are laid at an index of a map's shelf. -/
theorem SmAt.lay {w : World} {Mb Sb Q Db : Nat} {P pb : Nat → Nat} {T F : List Nat} {S : Sm} {sh : Sh} (h : SmAt w Mb Sb Q Db P pb T F S sh) {g1 c1 g2 c2 : Nat} (hr : ShRows w Sb g1 c1 g2 c2 T F sh) (k : Nat) (A : Option Addr) (d : List Nat) (c : Nat) (hc : Cells8 w A d) (hA : ∀ a, A = some a → 0 < d.length → a.block ∈ F) (hd : ∀ u ∈ d, u < 256) :
    SmAt (w.setCell ⟨g1, k, none⟩ (.slice A d.length c)) Mb Sb Q Db P pb T F S (sh.lay k d) := by
  have ht : Turns w (w.setCell ⟨g1, k, none⟩ (.slice A d.length c)) [g1] := (Turns.refl _ _).setCell (by simp) _
  obtain ⟨cs1, hg1⟩ := hr.ty
  obtain ⟨cs, d1, d2, d3⟩ := h.dir
  obtain ⟨f, m1, m2⟩ := h.map
  have hq : Q ≠ g1 := fun e => by
    obtain ⟨es, clock, hb, _⟩ := m1
    subst e
    unfold Row at hg1; rw [hg1] at hb; cases hb
  refine ⟨ht.row h.row (by simpa using Row.ne_type h.row hg1 (by decide)), ⟨cs, ht.row d1 (by simpa using Row.ne_type d1 hg1 (by decide)), d2, d3⟩, ⟨f, m1.turns ht (by simpa using hq), m2⟩, fun n x hx => ?_, h.inj, h.shelf.lay h.apart hr k A d c hc hA hd, h.mem, h.apart, fun q hq => by simpa using h.lt q hq, h.sh⟩
  obtain ⟨a, b, c', d'⟩ := h.part n x hx
  obtain ⟨⟨cap, pr, _⟩, ⟨bs, br, _⟩, _, _⟩ := id b
  exact ⟨a, b.keep ht (by simpa using Row.ne_type pr hg1 (by decide)) (by simpa using Row.ne_type br hg1 (by decide)), c', d'⟩
/-- A put by the law: what it calls for at u, and what it leaves. -/
theorem law_put {w : World} {Mb Sb Q Db : Nat} {P pb : Nat → Nat} {T F : List Nat} {S : Sm} {sh : Sh} (h : SmAt w Mb Sb Q Db P pb T F S sh) (hf : sh.full = -1) (hl : sh.L.length ≤ 262143) (n : Int) (b : List Nat) (A : Option Addr) (c : Nat) (hb : ∀ u ∈ b, u < 256) (hbl : b.length ≤ 65536) (hc : Cells8 w A b) (hA : ∀ a, A = some a → 0 < b.length → a.block ∈ F) (u : World) (hu : Below w.heap.size w u) :
    Calls Try.prog 36 #[.pointer (some ⟨Sb, 0, none⟩), .int .i64 n, .slice A b.length c] u fun e w' => e = .returned (.tuple #[.agg #[.int .i64 (sh.L.length / 256 : Nat), .int .i64 (sh.L.length % 256 : Nat)], .int .i64 0]) ∧
      ∃ T' F', SmAt w' Mb Sb Q Db P pb T' F' S (sh.put n b) ∧ Turns u w' T ∧ (∀ q ∈ T', q ∈ T ∨ u.heap.size ≤ q) ∧ (∀ q ∈ F', q ∈ F ∨ u.heap.size ≤ q) := by
  have hi := h.below hu
  obtain ⟨Ts, t1, t2, t3⟩ := hi.shelf.trim
  refine (ShPut_room u Sb Ts F sh t2 (fun q hq hm => hi.apart q hq (t1 q hm)) n A c b hb (hc.keep (keep_below hu)) hbl (by omega) (by omega) (fun q hq => hq.elim (fun h => hi.lt q (.inl (t1 q h))) (fun h => hi.lt q (.inr h))) (fun a e h0 hm => hi.apart _ (hA a e h0) (t1 _ hm))).mono ?_
  rintro e w' ⟨rfl, T', F', h1, h2, h3, h4, h5, h6, h7, h9⟩
  exact ⟨rfl, T ++ T', F', hi.shelved t3 h2 h1 (fun q hq => (h3 q hq).imp (t1 q) (fun h => h)) h4 h7 h9, h2.mono t1, fun q hq => by
    rcases List.mem_append.1 hq with hq | hq
    · exact .inl hq
    · exact (h3 q hq).imp (t1 q) (fun h => h), h4⟩
end Go.Proofs.Ytfipmpajdkgffaa

namespace Go.Proofs.Ytfipmpajdkgffaa
open Go.RowKit Go.MapKept Go.ChangeMaps
attribute [local go_sem] Oper.semAt_some
attribute [local simp, local go_sem] wide_fn
set_option linter.unusedVariables false
set_option linter.unusedSimpArgs false
set_option maxRecDepth 100000 in
set_option maxHeartbeats 4000000 in
theorem step_move_out (w : World) (B Wb Mb Sb Hb : Nat) (T F : List Nat) (S : Sm) (sh : Sh) (hs : Nat → Nat) (h : WdIs w B Wb Mb Sb Hb T F S sh hs) (hf : sh.full = -1) (hl : sh.L.length ≤ 262143) (x : Ac) (hop : x.op = 5) (hbad : x.s < 0 ∨ (S.np : Int) ≤ x.s) :
    Calls Try.prog 19 #[.pointer (some ⟨Wb, 0, none⟩), x.val] w fun e w' => e = .returned (.bool true) ∧ WdTo w w' B Wb Sb Hb 1 1 S sh := by
  have HMo : Hid (∀ u, Below w.heap.size w u → Calls Try.prog 35 #[.pointer (some ⟨Mb, 0, none⟩), .int .i64 x.s, .agg #[.int .i64 0, .int .i64 0]] u fun e w' => e = .returned (.int .i64 1) ∧ Below u.heap.size u w') := fun u hu => Moved_out u Mb Sb T F S sh (h.below hu).sm x.s 0 0 hbad
  have HPa : Hid (∀ u, Below w.heap.size w u → Calls Try.prog 18 #[.pointer (some ⟨Mb, 0, none⟩)] u fun e w' => e = .returned (.int .i64 S.np) ∧ Below u.heap.size u w') := fun u hu => Parts_any u Mb Sb T F S sh (h.below hu).sm
  have hnp := h.sm.np_few
  obtain ⟨np, hnpe⟩ : ∃ np, np = S.np := ⟨_, rfl⟩
  rw [← hnpe] at HPa hbad hnp
  clear hnpe
  obtain ⟨op, sc, pb, pp⟩ := x
  unfold Ac.val
  dsimp only at hop ⊢
  subst hop
  obtain ⟨w1, hw1⟩ : ∃ w1, w1 = w.alloc (.cells #[.int .i64 5, .int .i64 sc, .int .i64 pb, .int .i64 pp] 30) := ⟨_, rfl⟩
  have HB1 : Hid (Below w.heap.size w w1) := by unfold Hid; rw [hw1]; exact (Below.refl _ _).alloc (Nat.le_refl _) _
  obtain ⟨X, hX⟩ : ∃ X, X = w.heap.size := ⟨_, rfl⟩
  have HX : Hid (Row w1 X 30 #[.int .i64 5, .int .i64 sc, .int .i64 pb, .int .i64 pp]) := by unfold Hid; rw [hw1, hX]; exact Row.fresh _ _ _
  have HD := Lib.hid (h.below HB1.out)
  have HXT : Hid (X ∉ T) := fun hm => by
    obtain ⟨_, _, _, _, h1⟩ := h.sm
    have := h1.lt _ (.inl hm); omega
  have HXW : Hid (X ∉ F ∧ X ≠ Wb ∧ X ≠ Hb) := ⟨fun hm => by
    obtain ⟨_, _, _, _, h1⟩ := h.sm
    have := h1.lt _ (.inr hm); omega, by have := h.row.lt; omega, by have := h.has.lt; omega⟩
  have HBl := Lib.hid h.B_le
  have HFl := Lib.hid hf
  have HL := Lib.hid hl
  have x0 := HX.out.cell 0
  have x1 := HX.out.cell 1
  have c0 := HD.out.row.cell 0
  simp only [List.getElem?_toArray, List.getElem?_cons_zero, List.getElem?_cons_succ] at x0 x1 c0
  have hsec := h.sm.few
  obtain ⟨st, hst⟩ : ∃ st, st = S.sectors := ⟨_, rfl⟩
  obtain ⟨cn, hcn⟩ : ∃ cn, cn = S.cnt := ⟨_, rfl⟩
  have HCn := Lib.hid hcn
  clear hcn
  obtain ⟨hl0, hhl⟩ : ∃ hl0, hl0 = S.held := ⟨_, rfl⟩
  have HSt := Lib.hid hst
  have HHl := Lib.hid hhl
  rw [← hst] at c0 hsec
  have HX1 := Lib.hid hX
  rw [hX, hw1] at x0 x1
  rw [hw1] at c0
  have HW1 := Lib.hid hw1
  have HH := Lib.hid h
  clear h hf hl hst hhl hX hw1
  dsimp only at hbad HMo
  have c4 := HD.out.row.cell 4
  simp only [List.getElem?_toArray, List.getElem?_cons_zero, List.getElem?_cons_succ] at c4
  rw [HW1.out] at c4
  by_cases i0 : 0 ≤ sc
  · have hge : (np : Int) ≤ sc := by omega
    have g3 : ¬ sc < np := by omega
    by_cases i1 : sc < st
    · clear hbad
      go_enter Try.func19, Try.ntmps19
      go_wp2
      go_quiet (fail)
      go_wp2_with fail
      rw [← HW1.out]
      obtain ⟨u0, hu0⟩ : ∃ u0, u0 = w1.drewN nq := ⟨_, rfl⟩
      rw [← hu0]
      replace HD : Hid (WdIs u0 B Wb Mb Sb Hb T F S sh hs) := by unfold Hid; rw [hu0]; exact HD.out.below (below_drewN0 (Below.refl _ _) _)
      replace HX : Hid (Row u0 X 30 #[.int .i64 5, .int .i64 sc, .int .i64 pb, .int .i64 pp]) := by unfold Hid; rw [hu0]; exact HX.out
      replace HB1 : Hid (Below w.heap.size w u0) := by unfold Hid; rw [hu0]; exact below_drewN0 HB1.out _
      rw [← HX1.out]
      clear hu0 x0 x1 c0
      refine (HPa.out _ HB1.out).mono ?_
      rintro e w2 ⟨rfl, hb⟩
      have HB2 : Hid (Below w.heap.size w w2) := HB1.out.trans (hb.mono HB1.out.size)
      have k4 : w2.cell? ⟨Wb, 4, none⟩ = some (.pointer (some ⟨Mb, 0, none⟩)) := (HD.out.row.below hb HD.out.row.lt).cell 4
      clear hb c4
      go_wp2_with fail
      refine (HMo.out _ HB2.out).mono ?_
      rintro e w3 ⟨rfl, hb⟩
      have HB3 : Hid (Below w.heap.size w w3) := HB2.out.trans (hb.mono HB2.out.size)
      clear hb k4
      go_wp2
      go_ret
      exact ⟨by first | (simp; done) | rfl, HH.out.stay HB3.out⟩
    · clear hbad
      go_enter Try.func19, Try.ntmps19
      go_wp2
      go_quiet (fail)
      go_wp2_with fail
      rw [← HW1.out]
      obtain ⟨u0, hu0⟩ : ∃ u0, u0 = w1.drewN nq := ⟨_, rfl⟩
      rw [← hu0]
      replace HD : Hid (WdIs u0 B Wb Mb Sb Hb T F S sh hs) := by unfold Hid; rw [hu0]; exact HD.out.below (below_drewN0 (Below.refl _ _) _)
      replace HX : Hid (Row u0 X 30 #[.int .i64 5, .int .i64 sc, .int .i64 pb, .int .i64 pp]) := by unfold Hid; rw [hu0]; exact HX.out
      replace HB1 : Hid (Below w.heap.size w u0) := by unfold Hid; rw [hu0]; exact below_drewN0 HB1.out _
      rw [← HX1.out]
      clear hu0 x0 x1 c0
      refine (HPa.out _ HB1.out).mono ?_
      rintro e w2 ⟨rfl, hb⟩
      have HB2 : Hid (Below w.heap.size w w2) := HB1.out.trans (hb.mono HB1.out.size)
      have k4 : w2.cell? ⟨Wb, 4, none⟩ = some (.pointer (some ⟨Mb, 0, none⟩)) := (HD.out.row.below hb HD.out.row.lt).cell 4
      clear hb c4
      go_wp2_with fail
      refine (HMo.out _ HB2.out).mono ?_
      rintro e w3 ⟨rfl, hb⟩
      have HB3 : Hid (Below w.heap.size w w3) := HB2.out.trans (hb.mono HB2.out.size)
      clear hb k4
      go_wp2
      go_ret
      exact ⟨by first | (simp; done) | rfl, HH.out.stay HB3.out⟩
  · have i1 : sc < 0 := by omega
    have g1 : decide (0 ≤ sc) = false := decide_eq_false i0
    clear hbad
    go_enter Try.func19, Try.ntmps19
    go_wp2
    go_quiet (fail)
    go_wp2_with fail
    rw [← HW1.out]
    obtain ⟨u0, hu0⟩ : ∃ u0, u0 = w1.drewN nq := ⟨_, rfl⟩
    rw [← hu0]
    replace HD : Hid (WdIs u0 B Wb Mb Sb Hb T F S sh hs) := by unfold Hid; rw [hu0]; exact HD.out.below (below_drewN0 (Below.refl _ _) _)
    replace HX : Hid (Row u0 X 30 #[.int .i64 5, .int .i64 sc, .int .i64 pb, .int .i64 pp]) := by unfold Hid; rw [hu0]; exact HX.out
    replace HB1 : Hid (Below w.heap.size w u0) := by unfold Hid; rw [hu0]; exact below_drewN0 HB1.out _
    rw [← HX1.out]
    clear hu0 x0 x1 c0
    clear c4
    refine (HMo.out _ HB1.out).mono ?_
    rintro e w3 ⟨rfl, hb⟩
    have HB3 : Hid (Below w.heap.size w w3) := HB1.out.trans (hb.mono HB1.out.size)
    clear hb
    go_wp2
    go_ret
    exact ⟨by first | (simp; done) | rfl, HH.out.stay HB3.out⟩
end Go.Proofs.Ytfipmpajdkgffaa
