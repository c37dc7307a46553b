/- What follows is laid together from several texts of mine, in their order. -/
import Derived.Test.YtomigaldomiefaaQ10
import Derived.Deep.CutRange
import Derived.Laws.Strings
import Derived.Test.YtomigaldomiefaaQ2
import Derived.Maps.RangeWalk

namespace Go.Proofs.Ytomigaldomiefaa
open Go.RowKit Go.Shelf
attribute [local go_sem] Oper.semAt_some
attribute [local simp, local go_sem] wide_fn
set_option linter.unusedVariables false
set_option linter.unusedSimpArgs false

set_option maxRecDepth 100000 in
set_option maxHeartbeats 8000000 in
theorem level1_own (n : Nat) (hn : 6 ≤ n) (B C H L Zs Zp Zk : Nat) (v4 v5 : Value) (vs : List Value) (S : Cr) (k p : Nat) (hk : k ≤ S.groups.length) (hp : p < S.n) (T : List Nat) (w : World) (hT : ∀ t ∈ T, t < w.heap.size) (hc : ∀ W, KpC T w W → LvAt W B C H L Zs Zp Zk v4 v5 vs S k p) :
    SeqOwn Fence.wide n Try.prog 56 #[.pointer (some ⟨Zs, 0, none⟩), .pointer (some ⟨Zp, 0, none⟩), .pointer (some ⟨Zk, 0, none⟩)] encT (KpC T) (fun x _ => x ∈ S.level k p) (fun xs => xs = S.level k p) (fun pre => ∃ j, j ≤ (S.level k p).length ∧ pre = (S.level k p).take j) (S.level k p).length w := by
  intro lb J Jx W hW hJ hJx hY h0
  have hL0 : LvAt W B C H L Zs Zp Zk v4 v5 vs S k p := hc W (KpC.of_below hW)
  have HC : Hid (∀ X, KpC T W X → LvAt X B C H L Zs Zp Zk v4 v5 vs S k p) := fun X h => hc X ((KpC.of_below hW).trans h)
  have HY := Lib.hid hY
  have HJ := Lib.hid hJ
  have HJx := Lib.hid hJx
  have HJ0 := Lib.hid h0
  have HTl : Hid (∀ t ∈ T, t < W.heap.size) := fun t ht => by have := hT t ht; have := hW.size; omega
  obtain ⟨V1, hV1⟩ : ∃ V1, V1 = W.alloc (.cells #[.func (.yield lb) #[] #[]] 97) := ⟨_, rfl⟩
  obtain ⟨Y, hYy⟩ : ∃ Y, Y = W.heap.size := ⟨_, rfl⟩
  have HB1 : Hid (Below W.heap.size W V1) := by unfold Hid; rw [hV1]; (repeat (first | (with_reducible refine Below.drew ?_) | (with_reducible refine below_drewN0 ?_ _) | ((with_reducible refine Below.setCell ?_ ?_ _); rotate_left; focus (first | omega | (simp; done) | (simp; omega) | (simp at *; omega))) | ((with_reducible refine Below.alloc ?_ ?_ _); rotate_left; focus (first | omega | (simp; done) | (simp; omega) | (simp at *; omega))) | (with_reducible exact Below.refl _ _)))
  have HRy : Hid (Row V1 Y 97 #[.func (.yield lb) #[] #[]]) := by unfold Hid; rw [hV1, hYy]; exact Row.fresh _ _ _
  have HL1 := Lib.hid (hL0.below HB1.out)
  have HS := Lib.hid (show S.n < 4294967296 from hL0.st.n.2)
  clear hc hY hJ hJx h0 hW hT hL0
  refine callsIn_of_wp_marks Try.func56 rfl trivial ?_ rfl
  simp only [Try.ntmps56, List.size_toArray, List.length_cons, List.length_nil, Nat.reduceAdd, Nat.reduceSub, Array.replicate_succ, Array.replicate_zero, List.push_toArray, List.append_toArray, List.nil_append, List.cons_append]
  refine wpIn_wide.2 ?_
  have hBo : ∀ o : Obj, Below V1.heap.size V1 (V1.alloc o).drew := fun o => by (repeat (first | (with_reducible refine Below.drew ?_) | (with_reducible refine below_drewN0 ?_ _) | ((with_reducible refine Below.setCell ?_ ?_ _); rotate_left; focus (first | omega | (simp; done) | (simp; omega) | (simp at *; omega))) | ((with_reducible refine Below.alloc ?_ ?_ _); rotate_left; focus (first | omega | (simp; done) | (simp; omega) | (simp at *; omega))) | (with_reducible exact Below.refl _ _)))
  have HLo : Hid (∀ o : Obj, LvAt (V1.alloc o).drew B C H L Zs Zp Zk v4 v5 vs S k p) := fun o => HL1.out.below (hBo o)
  have cells : ∀ X, LvAt X B C H L Zs Zp Zk v4 v5 vs S k p → (X.cell? ⟨Zs, 0, none⟩ = some (.pointer (some ⟨C, 0, none⟩)) ∧ X.cell? ⟨Zp, 0, none⟩ = some (.int .i64 p) ∧ X.cell? ⟨C, 2, none⟩ = some (.map (some H))) := fun X h => ⟨h.s.cell 0, h.p.cell 0, h.st.row.cell 2⟩
  have HLd : Hid (LvAt V1.drew B C H L Zs Zp Zk v4 v5 vs S k p) := HL1.out.keep ((Turns.refl V1 []).drew)
  have hq0 := cells _ HLd.out
  have HQ1 : Hid (∀ o : Obj, (V1.alloc o).drew.cell? ⟨Zs, 0, none⟩ = some (.pointer (some ⟨C, 0, none⟩)) ∧ (V1.alloc o).drew.cell? ⟨Zp, 0, none⟩ = some (.int .i64 p) ∧ (V1.alloc o).drew.cell? ⟨C, 2, none⟩ = some (.map (some H))) := fun o => cells _ (HLo.out o)
  have hk0 : (Instr.lookup 64 (.map (some H)) (.agg #[.int .i64 p]) true).run Try.prog V1.drew = .ok (.tuple #[.string (textOf ((S.has p).getD [])), .bool (S.has p).isSome]) V1.drew := HLd.out.st.has.look (by have := HS.out; omega)
  have hk1 : ∀ o : Obj, (Instr.lookup 64 (.map (some H)) (.agg #[.int .i64 p]) true).run Try.prog (V1.alloc o).drew = .ok (.tuple #[.string (textOf ((S.has p).getD [])), .bool (S.has p).isSome]) (V1.alloc o).drew := fun o => (HLo.out o).st.has.look (by have := HS.out; omega)
  clear cells hBo
  go_wp2
  rw [← hYy, ← hV1]
  have HYy := Lib.hid hYy
  clear hV1 hYy
  apply wp_cutN (X := (V1.alloc (.cells #[.string (textOf ((S.has p).getD []))] 9)).drew)
  case h =>
    refine wp_region_noPanic ?_
    go_region_held_law (fun w' => w'.cell? ⟨Zs, 0, none⟩ = some (.pointer (some ⟨C, 0, none⟩)) ∧ w'.cell? ⟨Zp, 0, none⟩ = some (.int .i64 p) ∧ w'.cell? ⟨C, 2, none⟩ = some (.map (some H))) (first | exact hq0 | exact HQ1.out _) (fail)
    all_goals exact ⟨rfl, rfl, rfl⟩
  clear hk0 hk1 hq0 HQ1 HLd
  obtain ⟨V2, hV2⟩ : ∃ V2, V2 = (V1.alloc (.cells #[.string (textOf ((S.has p).getD []))] 9)).drew := ⟨_, rfl⟩
  obtain ⟨X, hX⟩ : ∃ X, X = V1.heap.size := ⟨_, rfl⟩
  have HB2 : Hid (Below V1.heap.size V1 V2) := by unfold Hid; rw [hV2]; (repeat (first | (with_reducible refine Below.drew ?_) | (with_reducible refine below_drewN0 ?_ _) | ((with_reducible refine Below.setCell ?_ ?_ _); rotate_left; focus (first | omega | (simp; done) | (simp; omega) | (simp at *; omega))) | ((with_reducible refine Below.alloc ?_ ?_ _); rotate_left; focus (first | omega | (simp; done) | (simp; omega) | (simp at *; omega))) | (with_reducible exact Below.refl _ _)))
  have HRb : Hid (Row V2 X 9 #[.string (textOf ((S.has p).getD []))]) := by unfold Hid; rw [hV2, hX]; exact Row.fresh _ _ _
  have HL2 : Hid (LvAt V2 B C H L Zs Zp Zk v4 v5 vs S k p) := by unfold Hid; rw [hV2]; exact HLo.out _
  rw [← hV2, ← hX]
  have HRy2 : Hid (Row V2 Y 97 #[.func (.yield lb) #[] #[]]) := HRy.out.below HB2.out HRy.out.lt
  have HYX : Hid (Y = W.heap.size ∧ Y < X) := ⟨HYy.out, by rw [hX]; exact HRy.out.lt⟩
  have HBW : Hid (Below W.heap.size W V2) := HB1.out.trans (HB2.out.mono HB1.out.size)
  clear hV2 HLo hX HB1 HB2 HRy HL1 HYy
  have HNo := Lib.hid (nought_any C S.sz HL2.out.st.sz.2 V2 (HL2.out.st.row.cell 1))
  go_upto_if 26 with fail
  go_cut [5, 6] from 15 (fun bx ix wx => bx = .pointer (some ⟨X, 0, none⟩) ∧ Row wx X 9 #[.string (textOf (S.base0 p))] ∧ LvAt wx B C H L Zs Zp Zk v4 v5 vs S k p ∧ Row wx Y 97 #[.func (.yield lb) #[] #[]] ∧ Below W.heap.size W wx)
  case first =>
    cases hh : S.has p with
    | some d =>
      have HB0 : Hid (S.base0 p = d) := by unfold Hid Cr.base0; rw [hh]; rfl
      rw [hh] at HRb
      simp only [Option.isSome_some]
      clear HNo
      go_wp2_with fail
      go_meet
      case rel => exact ⟨rfl, by rw [HB0.out]; exact HRb.out, HL2.out, HRy2.out, HBW.out⟩
    | none =>
      have HB0 : Hid (S.base0 p = zs S.sz) := by unfold Hid Cr.base0; rw [hh]; rfl
      rw [hh] at HRb
      simp only [Option.getD_none, Option.isSome_none] at HRb ⊢
      have cs := HL2.out.s.cell 0
      simp only [List.getElem?_toArray, List.getElem?_cons_zero, List.getElem?_cons_succ] at cs
      go_wp2_with fail
      refine HNo.out.mono ?_
      rintro e V3 ⟨rfl, hV3⟩
      have HB3 : Hid (Below V2.heap.size V2 V3) := by unfold Hid; rw [hV3]; (repeat (first | (with_reducible refine Below.drew ?_) | (with_reducible refine below_drewN0 ?_ _) | ((with_reducible refine Below.setCell ?_ ?_ _); rotate_left; focus (first | omega | (simp; done) | (simp; omega) | (simp at *; omega))) | ((with_reducible refine Below.alloc ?_ ?_ _); rotate_left; focus (first | omega | (simp; done) | (simp; omega) | (simp at *; omega))) | (with_reducible exact Below.refl _ _)))
      have HR3 := Lib.hid (HRb.out.below HB3.out HRb.out.lt)
      have fb := HR3.out.frozen 0
      have cb := HR3.out.cell 0
      simp only [List.getElem?_toArray, List.getElem?_cons_zero, List.getElem?_cons_succ] at cb
      have HT3 : Hid (Turns V2 (V3.setCell ⟨X, 0, none⟩ (.string (textOf (zs S.sz)))) [X]) := (Turns.of_below HB3.out _).setCell (by simp) _
      have HF : Hid (Row (V3.setCell ⟨X, 0, none⟩ (.string (textOf (zs S.sz)))) X 9 #[.string (textOf (zs S.sz))]) := by unfold Hid; simpa using HR3.out.put 0 (.string (textOf (zs S.sz)))
      have HBf : Hid (Below W.heap.size W (V3.setCell ⟨X, 0, none⟩ (.string (textOf (zs S.sz))))) := (HBW.out.trans (HB3.out.mono HBW.out.size)).setCell (p := ⟨X, 0, none⟩) (by have := HYX.out; show W.heap.size ≤ X; omega) _
      clear HNo hV3
      go_wp2_with fail
      go_meet
      case rel => exact ⟨rfl, by rw [HB0.out]; exact HF.out, HC.out _ (KpC.of_below HBf.out), HT3.out.row HRy2.out (by have := HYX.out; simp; omega), HBf.out⟩
  case rest =>
    obtain ⟨rfl, hRb, hLv, hRy, hBw⟩ := hcut
    have HLv := Lib.hid hLv
    have HBw := Lib.hid hBw
    have HRb := Lib.hid hRb
    have HRy := Lib.hid hRy
    clear HL2 HRy2 HBW HNo hRb hLv hRy hBw
    obtain ⟨Z, hZ⟩ : ∃ Z, Z = wc.heap.size := ⟨_, rfl⟩
    obtain ⟨V4, hV4⟩ : ∃ V4, V4 = wc.alloc (.cells #[.bool false] 4) := ⟨_, rfl⟩
    have HB4 : Hid (Below wc.heap.size wc V4) := by unfold Hid; rw [hV4]; (repeat (first | (with_reducible refine Below.drew ?_) | (with_reducible refine below_drewN0 ?_ _) | ((with_reducible refine Below.setCell ?_ ?_ _); rotate_left; focus (first | omega | (simp; done) | (simp; omega) | (simp at *; omega))) | ((with_reducible refine Below.alloc ?_ ?_ _); rotate_left; focus (first | omega | (simp; done) | (simp; omega) | (simp at *; omega))) | (with_reducible exact Below.refl _ _)))
    have HRa4 : Hid (Row V4 Z 4 #[.bool false]) := by unfold Hid; rw [hV4, hZ]; exact Row.fresh _ _ _
    have HRb4 := Lib.hid (HRb.out.below HB4.out HRb.out.lt)
    have HRy4 := Lib.hid (HRy.out.below HB4.out HRy.out.lt)
    have HBw4 : Hid (Below W.heap.size W V4) := HBw.out.trans (HB4.out.mono HBw.out.size)
    have HXZ : Hid (X < Z) := by rw [hZ]; exact HRb.out.lt
    have HLv4 : Hid (LvAt V4 B C H L Zs Zp Zk v4 v5 vs S k p) := HC.out _ (KpC.of_below HBw4.out)
    obtain ⟨vs0, hgo, hge⟩ := HLv4.out.st.grs
    obtain ⟨A4, c4, rfl, hc4, _⟩ := own_shape hgo
    have e1 := HLv4.out.s.cell 0
    have e2 := HLv4.out.k.cell 0
    have e3 := HLv4.out.st.row.cell 4
    have hgl := HLv4.out.st.few.1
    simp only [List.getElem?_toArray, List.getElem?_cons_zero, List.getElem?_cons_succ] at e1 e2 e3
    obtain ⟨gn, hgn⟩ : ∃ gn, gn = S.groups.length := ⟨_, rfl⟩
    have HGn := Lib.hid hgn
    rw [← hgn] at e3 hk hc4 hgl
    clear HRb HRy HBw HB4 hgo hge hgn HLv
    go_wp2
    rw [← hZ, ← hV4]
    clear hZ hV4
    have HRb4' := HRb4
    clear HRb
    refine wp_region_noPanic ?_
    go_quiet (fail)
    clear e1 e2 e3
    have HBq : Hid (Below W.heap.size W (V4.drewN nq)) := below_drewN0 HBw4.out nq
    have HRaq : Hid (Row (V4.drewN nq) Z 4 #[.bool false]) := HRa4.out
    have HRbq : Hid (Row (V4.drewN nq) X 9 #[.string (textOf (S.base0 p))]) := HRb4.out
    have HRyq : Hid (Row (V4.drewN nq) Y 97 #[.func (.yield lb) #[] #[]]) := HRy4.out
    generalize V4.drewN nq = Vq at *
    clear HLv4 HRa4 HRb4 HRb4' HRy4 HBw4
    refine NoPanic.normal ?_
    go_wp2
    refine wp_loop (fun a wr => ∃ (j : Nat) (v9 v10 v37 v38 v39 v40 v41 v42 v43 v44 v45 : Value) (ds : List Deferred), a = { tmps := #[.func (.yield lb) #[] #[], .pointer (some ⟨Zs, 0, none⟩), .pointer (some ⟨Zp, 0, none⟩), .pointer (some ⟨Zk, 0, none⟩), .pointer (some ⟨Y, 0, none⟩), .pointer (some ⟨X, 0, none⟩), u6, .pointer (some ⟨Z, 0, none⟩), undef, v9, v10, undef, undef, undef, undef, u15, u16, u17, u18, u19, u20, u21, u22, u23, u24, u25, u26, u27, u28, .pointer (some ⟨C, 0, none⟩), .pointer (some ⟨C, 0, none⟩), .pointer (some ⟨C, 4, none⟩), .slice A4 gn c4, .int .i64 k, .slice A4 k c4, .int .i64 k, .int .i64 (j : Int), v37, v38, v39, v40, v41, v42, v43, v44, v45, u46, u47, u48, u49, u50, u51, u52, u53, u54, u55, u56, u57, u58, u59, u60, u61, u62, u63, u64, u65, u66, u67, u68, u69, u70, u71, u72, u73, u74, u75, u76, u77, u78, u79, u80, u81, u82, u83, u84, u85, u86, u87, u88, u89, u90, u91, u92, u93, u94, u95, u96, u97, u98, u99, u100, u101, u102, u103, u104, u105, u106], defers := ds } ∧ j ≤ k ∧ MarksIn W.heap.size wr ds ∧ Row wr X 9 #[.string (textOf (S.base j p))] ∧ Row wr Z 4 #[.bool (!(S.ahead j p).isEmpty)] ∧ Row wr Y 97 #[.func (.yield lb) #[] #[]] ∧ Below W.heap.size W wr) (fun a _ => k - (intOf (a.tmps.getD 36 undef)).toNat) ?start ?round
    case start => exact ⟨0, _, _, _, _, _, _, _, _, _, _, _, [], rfl, by omega, trivial, HRbq.out, HRaq.out, HRyq.out, HBq.out⟩
    case round =>
      clear HRbq HRaq HRyq HBq
      rintro a wr ⟨j, v9, v10, v37, v38, v39, v40, v41, v42, v43, v44, v45, ds, rfl, hj, hM, hRb, hRa, hRy, hB⟩
      have HM := Lib.hid hM
      have HRb := Lib.hid hRb
      have HRa := Lib.hid hRa
      have HRy := Lib.hid hRy
      have HB := Lib.hid hB
      clear hM hRb hRa hRy hB
      by_cases hjk : j < k
      · obtain ⟨g, hg⟩ : ∃ g, S.groups[j]? = some g := ⟨_, List.getElem?_eq_getElem (by rw [← HGn.out]; omega)⟩
        have HLv := Lib.hid (HC.out wr (KpC.of_below HB.out))
        obtain ⟨vs0, hgo, hge⟩ := HLv.out.st.grs
        obtain ⟨u, hu, hwu⟩ := hge j g hg
        obtain ⟨nu, Au, cu, rfl⟩ := hwu.shape
        obtain ⟨gA, rfl, hcell⟩ : ∃ gA, A4 = some ⟨gA, 0, none⟩ ∧ wr.cell? ⟨gA, j, none⟩ = some (.slice Au nu cu) := by
          have hjg : j < S.groups.length := by rw [← HGn.out]; omega
          rcases hgo.2 with ⟨_, h0⟩ | ⟨g', cap, cur, e1, _, hr, h1, h2, h3, h4⟩
          · omega
          · injection e1 with e1 _ _
            refine ⟨g', e1, ?_⟩
            have h5 : (cur.toList.take (S.groups.length * 1))[j]? = some (.slice Au nu cu) := by rw [h4]; exact hu
            rw [List.getElem?_take, if_pos (by omega)] at h5
            rw [(show Row wr g' _ cur from hr).cell]
            simpa using h5
        have HWu := Lib.hid hwu
        have e2 := HLv.out.p.cell 0
        simp only [List.getElem?_toArray, List.getElem?_cons_zero, List.getElem?_cons_succ] at e2
        have HOf := Lib.hid (of_any Au nu cu p wr)
        clear hgo hge hu hwu
        go_wp2_with fail
        refine HOf.out.mono ?_
        rintro e w2 ⟨rfl, hw2⟩
        clear HOf
        go_wp2_with fail
        rw [← hw2]
        have HB2 : Hid (Below wr.heap.size wr w2) := by unfold Hid; rw [hw2]; (repeat (first | (with_reducible refine Below.drew ?_) | (with_reducible refine below_drewN0 ?_ _) | ((with_reducible refine Below.setCell ?_ ?_ _); rotate_left; focus (first | omega | (simp; done) | (simp; omega) | (simp at *; omega))) | ((with_reducible refine Below.alloc ?_ ?_ _); rotate_left; focus (first | omega | (simp; done) | (simp; omega) | (simp at *; omega))) | (with_reducible exact Below.refl _ _)))
        have HBW2 : Hid (Below W.heap.size W w2) := HB.out.trans (HB2.out.mono HB.out.size)
        have HR1 : Hid (Row w2 wr.heap.size 23 #[.slice Au nu cu]) := by unfold Hid; rw [hw2]; exact (Row.fresh wr _ _).alloc _
        have HR2 : Hid (Row w2 (wr.heap.size + 1) 3 #[.int .i64 p]) := by
          unfold Hid; rw [hw2]
          have := Row.fresh (wr.alloc (.cells #[.slice Au nu cu] 23)) 3 #[.int .i64 p]
          rw [World.size_alloc] at this
          exact this
        have HRb2 := Lib.hid (HRb.out.below HB2.out HRb.out.lt)
        have HRa2 := Lib.hid (HRa.out.below HB2.out HRa.out.lt)
        have HRy2 := Lib.hid (HRy.out.below HB2.out HRy.out.lt)
        have hnu : nu = g.length := HWu.out.at0.1
        have HGg : Hid (g.length ≤ 3518437208883) := HLv.out.st.few.2.1 g (List.mem_of_getElem? hg)
        have hXs := HRb.out.lt
        have hZs := HRa.out.lt
        have HOfA : Hid (∀ V, KpC [X, Z] w2 V → OfAt V wr.heap.size (wr.heap.size + 1) cu p Au g) := fun V hV => by
          have hwu : WrsIs V B (.slice Au nu cu) g := by
            refine (HWu.out.lone (Turns.of_below HB2.out []) (lone_nil _)).kpc hV (fun y hy cs => ?_)
            simp only [List.mem_cons, List.not_mem_nil, or_false] at hy
            rcases hy with rfl | rfl
            · exact ⟨fun hr => Row.ne_type hr HRb2.out (by decide) rfl, fun hr => Row.ne_type hr HRb2.out (by decide) rfl⟩
            · exact ⟨fun hr => Row.ne_type hr HRa2.out (by decide) rfl, fun hr => Row.ne_type hr HRa2.out (by decide) rfl⟩
          refine ⟨?_, ?_, hwu.at0.2⟩
          · rw [← hnu]; exact (hV.row HR1.out (by simp; omega)).cell 0
          · exact (hV.row HR2.out (by simp; omega)).cell 0
        have HM2 : Hid (MarksIn W.heap.size w2 ds) := HM.out.mono fun D _ _ hD => (HB2.out.block D (Array.getElem?_eq_some_iff.1 hD).1).trans hD
        have HMl : Hid (∀ (d : Deferred), d ∈ ds → ∃ D, d = { target := .collected D, args := #[] } ∧ D < w2.heap.size) := marks_lt HM2.out
        have hWw : W.heap.size ≤ w2.heap.size := HBW2.out.size
        clear hw2
        refine (wpIn_wide (n := n)).1 ?_
        apply wpIn_range_ownA rfl (by omega) (gf := 70) (lb := #[.pointer (some ⟨wr.heap.size, 0, none⟩), .pointer (some ⟨wr.heap.size + 1, 0, none⟩)]) rfl trivial (enters_of Try.func70 (by kernel_rfl) rfl)
          (hseq := of1_own (n - 1) (by omega) wr.heap.size (wr.heap.size + 1) cu p Au g HGg.out w2 (Kp := KpC [X, Z]) (fun _ _ h => KpC.of_below h) (fun h h' => KpC.trans h h') HOfA.out)
          (hKr := fun V => KpC.of_below (Below.refl _ _)) (hKt := fun h h' => KpC.trans h h') (hKb := fun V l r o' _ hl => KpC.put hl) (hb0 := Below.refl _ _) (hps := fun _ => rfl)
          (I := fun pre V => (Row V X 9 #[.string (textOf (pre.getLast?.getD (S.base j p)))] ∧ Row V Z 4 #[.bool (!(S.ahead j p).isEmpty || !pre.isEmpty)]) ∧ (Row V Y 97 #[.func (.yield lb) #[] #[]] ∧ Below W.heap.size W V ∧ MarksIn W.heap.size V ds)) (Ix := fun _ _ _ => False)
        case hI =>
          intro s V V' row hs hg hr
          obtain ⟨⟨h1, h2⟩, h3, h4, h5⟩ := hs
          refine ⟨⟨Row.kept h1 hg (fun r e => (hr r e).2), Row.kept h2 hg (fun r e => (hr r e).2)⟩, Row.kept h3 hg (fun r e => (hr r e).2), h4.grown hg h4.size (fun r e => by have := (hr r e).1; omega), h5.mono fun D _ hm hD => ?_⟩
          obtain ⟨D', e, hlt⟩ := HMl.out _ hm
          obtain rfl : D = D' := by injection e with e _; injection e
          exact (hg.block D (Array.getElem?_eq_some_iff.1 hD).1 (fun e => by have := (hr D e.symm).1; omega)).trans hD
        case hIx => exact fun _ _ _ _ _ hs _ _ => hs
        case h0 => exact ⟨⟨HRb2.out, by have := HRa2.out; simpa using this⟩, HRy2.out, HBW2.out, HM2.out⟩
        case hassign =>
          intro l pre x V hi _ _
          gi_wp2
          exact ⟨rfl, trivial⟩
        case hbody =>
          rintro l pre x V ⟨⟨hRx, hRz⟩, hRw, hBv, hMv⟩ _ _
          have HMv := Lib.hid hMv
          have HRx := Lib.hid hRx
          have HRz := Lib.hid hRz
          have HRw := Lib.hid hRw
          have HBv := Lib.hid hBv
          have c1 := hRx.cell 0
          have f1 := hRx.frozen 0
          have c2 := hRz.cell 0
          have f2 := hRz.frozen 0
          simp only [List.getElem?_toArray, List.getElem?_cons_zero, List.getElem?_cons_succ] at c1 c2
          have hZX : Z ≠ X := by have := HXZ.out; omega
          have HRz1 : Hid (Row (V.setCell ⟨X, 0, none⟩ (.string (textOf x))) Z 4 #[.bool (!(S.ahead j p).isEmpty || !pre.isEmpty)]) := hRz.far (by exact hZX) _
          have c3 := HRz1.out.cell 0
          have f3 := HRz1.out.frozen 0
          simp only [List.getElem?_toArray, List.getElem?_cons_zero, List.getElem?_cons_succ] at c3
          have HT : Hid (Turns V ((V.setCell ⟨X, 0, none⟩ (.string (textOf x))).setCell ⟨Z, 0, none⟩ (.bool true)) [X, Z]) := ((Turns.refl V [X, Z]).setCell (by simp) _).setCell (by simp) _
          have HX : Hid (((Row ((V.setCell ⟨X, 0, none⟩ (.string (textOf x))).setCell ⟨Z, 0, none⟩ (.bool true)) X 9 #[.string (textOf ((pre ++ [x]).getLast?.getD (S.base j p)))] ∧ Row ((V.setCell ⟨X, 0, none⟩ (.string (textOf x))).setCell ⟨Z, 0, none⟩ (.bool true)) Z 4 #[.bool (!(S.ahead j p).isEmpty || !(pre ++ [x]).isEmpty)]))) := by
            refine ⟨?_, ?_⟩
            · have h1 : Row (V.setCell ⟨X, 0, none⟩ (.string (textOf x))) X 9 #[.string (textOf x)] := by simpa using hRx.put 0 (.string (textOf x))
              have := h1.far (p := ⟨Z, 0, none⟩) (Ne.symm hZX) (.bool true)
              simpa using this
            · have := HRz1.out.put 0 (.bool true)
              rw [show (!(S.ahead j p).isEmpty || !(pre ++ [x]).isEmpty) = true by simp]
              simpa using this
          have HYn : Hid (Y ∉ [X, Z]) := by have := HYX.out; have := HXZ.out; unfold Hid; simp; omega
          have HMx : Hid (MarksIn W.heap.size ((V.setCell ⟨X, 0, none⟩ (.string (textOf x))).setCell ⟨Z, 0, none⟩ (.bool true)) ds) := HMv.out.mono fun D _ _ hD => (HT.out.block D (Array.getElem?_eq_some_iff.1 hD).1 (fun hm => by
            simp only [List.mem_cons, List.not_mem_nil, or_false] at hm
            rcases hm with rfl | rfl
            · unfold Row at hRx; rw [hRx] at hD; cases hD
            · unfold Row at hRz; rw [hRz] at hD; cases hD)).trans hD
          have HBx : Hid (Below W.heap.size W ((V.setCell ⟨X, 0, none⟩ (.string (textOf x))).setCell ⟨Z, 0, none⟩ (.bool true))) := HT.out.below hBv hBv.size (fun y hy => by
            have := HYX.out; have := HXZ.out
            simp only [List.mem_cons, List.not_mem_nil, or_false] at hy
            rcases hy with rfl | rfl <;> omega)
          clear hRx hRz hRw hBv hMv
          gi_wp2
          exact ⟨((KeepsOthers.setCell _ _ _).trans (KeepsOthers.setCell _ _ _)).from _, KpC.of_turns HT.out (fun y hy => hy), ⟨HX.out.1, HX.out.2⟩, HT.out.row HRw.out HYn.out, HBx.out, HMx.out⟩
        case hdone =>
          rintro D ys V hD rfl ⟨⟨hRx, hRz⟩, hRw, hBv, hMv⟩ hDf
          obtain ⟨hs1, hs2⟩ := base_step S j p g hg
          rw [← hs2] at hRx
          have hRz2 : Row V Z 4 #[.bool (!(S.ahead (j + 1) p).isEmpty)] := by
            rw [hs1]
            have e : (!(S.ahead j p ++ ofP g p).isEmpty) = (!(S.ahead j p).isEmpty || !(ofP g p).isEmpty) := by cases S.ahead j p <;> simp
            rw [e]; exact hRz
          have HF : Hid (MarksIn W.heap.size V ({ target := .collected D, args := #[] } :: ds) ∧ Row V X 9 #[.string (textOf (S.base (j + 1) p))] ∧ Row V Z 4 #[.bool (!(S.ahead (j + 1) p).isEmpty)] ∧ Row V Y 97 #[.func (.yield lb) #[] #[]] ∧ Below W.heap.size W V) :=
            ⟨hMv.push (by omega) hDf (fun hm => by obtain ⟨D', e, hlt⟩ := HMl.out _ hm; injection e with e _; injection e with e; omega), hRx, hRz2, hRw, hBv⟩
          clear hRx hRz hRz2 hRw hBv hMv hs1 hs2
          go_wp2
          exact ⟨⟨j + 1, _, _, _, _, _, _, _, _, _, _, _, _, rfl, by omega, HF.out⟩, by simp [intOf]; omega⟩
        case hstop =>
          rintro D c pre V _ _ h _
          exact h.elim
      · obtain rfl : j = k := by omega
        have HJw : Hid (J [] wr.drew) := ownFrom_later_world HJ.out HJ0.out HB.out.drew
        have hlen0 : ([] : List (List Nat)).length < (S.level j p).length := by unfold Cr.level; simp
        have HLw := Lib.hid (HC.out wr (KpC.of_below HB.out))
        go_wp2
        refine (wpIn_wide (n := n)).1 ?_
        rename_i K1 a1 K2 a2
        obtain ⟨S0, hS0⟩ : ∃ S0 : World → Prop, S0 = fun u => KpC T W u ∧ Row u X 9 #[.string (textOf (S.base j p))] ∧ Row u Z 4 #[.bool (!(S.ahead j p).isEmpty)] ∧ Row u Y 97 #[.func (.yield lb) #[] #[]] ∧ MarksIn W.heap.size u ds := ⟨_, rfl⟩
        have HSd : Hid (∀ u, S0 u ↔ (KpC T W u ∧ Row u X 9 #[.string (textOf (S.base j p))] ∧ Row u Z 4 #[.bool (!(S.ahead j p).isEmpty)] ∧ Row u Y 97 #[.func (.yield lb) #[] #[]] ∧ MarksIn W.heap.size u ds)) := fun u => by rw [hS0]
        have n1 : ∀ y, W.heap.size ≤ y → y ∉ T := fun y hy hm => by have := HTl.out y hm; omega
        have hKx : ∀ u u', S0 u → KpC T u u' → S0 u' := fun u u' hu hk => by
          obtain ⟨h1, h2, h3, h4, h5⟩ := (HSd.out _).1 hu
          have := HYX.out; have := HXZ.out
          exact (HSd.out _).2 ⟨h1.trans hk, hk.row h2 (n1 _ (by omega)), hk.row h3 (n1 _ (by omega)), hk.row h4 (n1 _ (by omega)), h5.mono fun D hD _ h0 => hk.same D _ (n1 D hD) h0 rfl⟩
        have hS00 : S0 wr.drew := (HSd.out _).2 ⟨KpC.of_below HB.out.drew, HRb.out, HRa.out, HRy.out, HM.out.mono fun _ _ _ h => h⟩
        have hlast : ∀ {a : Act} {V : World} {Rb : World → Prop}, MarksIn W.heap.size V a.defers → Rb V → OwnFrom W.heap.size (fun (_ : Unit) => Rb) → (∀ V, Rb V → (∃ xs, xs = S.level j p ∧ J xs V) ∨ ∃ pre, (∃ i, i ≤ (S.level j p).length ∧ pre = (S.level j p).take i) ∧ Jx pre V) →
            LeavesInM Fence.wide n Try.prog Try.f56 a.tmps (fun e W' => (∃ v, e = .returned v) ∧ ((∃ xs, xs = S.level j p ∧ J xs W') ∨ ∃ pre, (∃ i, i ≤ (S.level j p).length ∧ pre = (S.level j p).take i) ∧ Jx pre W')) a.defers .returning V := fun hm hb ho hr =>
          leaves_marks (Rb := _) (fun V hV => ⟨_, results_none rfl _ _ _, ⟨_, rfl⟩, hr V hV⟩) (fun V D hD hV h0 => ho.putObj (s := ()) _ hV hD h0 rfl) _ _ hm hb
        have hlo : 1 ≤ (S.level j p).length := by unfold Cr.level; simp
        have hlv : S.level j p = (S.base j p :: (if S.loose p && (S.ahead j p).isEmpty then [zs S.sz] else [])) ++ (ofP S.fly p ++ ofP (S.groups.getD j []) p) := by unfold Cr.level; simp
        refine reg12 n (by omega) _ (by kernel_rfl) S0 (fun V => J [S.base j p] V ∧ S0 V) (fun V => J [S.base j p, zs S.sz] V ∧ S0 V) (fun V => (∃ i, i ≤ (S.level j p).length ∧ Jx ((S.level j p).take i) V) ∧ S0 V) Y X Z Zs Zp C L S.sz HLw.out.st.sz.2 p lb (textOf (S.base j p)) (S.loose p) (!(S.ahead j p).isEmpty) wr hS00
          (fun u hu => ?_) (fun u h => h.2) (fun u h => h.2) (fun u h => h.2) (fun u u' hu hb => hKx u u' hu (KpC.of_below hb)) ?_ ?_ _ _ _ _ _ _ _ _ _ _ _ _ _ _ _ _ _ _ _ _ _ _ _ _ _ _ _ _ _ _ _ _ _ _ _ _ _ _ _ _ _ _ _ _ _ _ _ _ _ _ _ _ _ _ _ _ _ _ _ _ _ _ _ _ _ _ _ _ _ _ _ _ _ _ _ _ _ _ _ _ _ _ _ _ _ _ _ _ _ _ _ _ _ _ _ _ _ _ _ _ _ _ ds _ ?_
        · obtain ⟨h1, h2, h3, h4, h5⟩ := (HSd.out _).1 hu
          have hl := HC.out u h1
          exact ⟨h4.cell 0, h2.cell 0, hl.s.cell 0, hl.st.row.cell 3, hl.p.cell 0, hl.st.loose.look (by have := HS.out; omega), h3.cell 0, hl.st.row.cell 1⟩
        · refine (HY.out [] (S.base j p) wr.drew (by rw [hlv]; simp) HJw.out hlen0).mono ?_
          rintro e V (⟨rfl, h1, h2, _⟩ | ⟨rfl, h1, h2, _⟩)
          · exact .inl ⟨rfl, h1, hKx _ _ hS00 h2⟩
          · exact .inr ⟨rfl, ⟨1, hlo, by rw [hlv]; simpa using h1⟩, hKx _ _ hS00 h2⟩
        · intro h1 h2 u u' ⟨hj1, hs1⟩ hb
          have h2' : (S.ahead j p).isEmpty = true := by simpa using h2
          have hlv2 := hlv
          rw [h1, h2'] at hlv2
          simp only [Bool.and_self, if_true] at hlv2
          refine (HY.out [S.base j p] (zs S.sz) u' (by rw [hlv2]; simp) (ownFrom_later_world HJ.out hj1 hb) (by rw [hlv2]; simp)).mono ?_
          rintro e V (⟨rfl, h1, h2, _⟩ | ⟨rfl, h1, h2, _⟩)
          · exact .inl ⟨rfl, h1, hKx _ _ (hKx _ _ hs1 (KpC.of_below hb)) h2⟩
          · exact .inr ⟨rfl, ⟨2, by rw [hlv2]; simp, by rw [hlv2]; simpa using h1⟩, hKx _ _ (hKx _ _ hs1 (KpC.of_below hb)) h2⟩
        · intro x46 x47 x48 x49 x50 x51 x52 x53 x54 x55 x56 x57 x58 x59 x60 x61 x62 x63 x64 x65 x66 x67 x68 b w' hb1 hb2
          refine a2 _ _ ?_
          cases b with
          | true =>
            obtain ⟨⟨i, hi, hx⟩, hs⟩ := hb1 rfl
            refine wp_cond_true rfl (wp_ret ?_)
            exact hlast (a := _) (V := w') (Rb := fun V => Jx ((S.level j p).take i) V) ((HSd.out _).1 hs).2.2.2.2 hx (fun _ => HJx.out _) (fun V h => .inr ⟨_, ⟨i, hi, rfl⟩, h⟩)
          | false =>
            refine wp_cond_false rfl (wp_skip ?_)
            refine a1 _ _ ?_
            have hf : J (S.base j p :: (if S.loose p && (S.ahead j p).isEmpty then [zs S.sz] else [])) w' ∧ S0 w' := by
              have := hb2 rfl
              cases hlo2 : S.loose p <;> cases hah : (S.ahead j p).isEmpty <;> simpa [hlo2, hah] using this
            obtain ⟨h1, h2, h3, h4, h5⟩ := (HSd.out _).1 hf.2
            exact tail13 n hn _ (by kernel_rfl) B C H L Zs Zp Zk Y lb _ _ vs S j p T W HTl.out HC.out J Jx HJ.out HJx.out _ (S.level j p) hlv HY.out w' h1 (n1 _ (by have := HYX.out; omega)) h4 hf.1 ds h5 _ _ _ _ _ _ _ _ _ _ _ _ _ _ _ _ _ _ _ _ _ _ _ _ _ _ _ _ _ _ _ _ _ _ _ _ _ _ _ _ _ _ _ _ _ _ _ _ _ _ _ _ _ _ _ _ _ _ _ _ _ _ _ _ _ _ _ _ _ _ _ _ _ _ _ _ _ _ _ _ _ _ _ _ _ _ _ _ _ _ _ _ _ _ _ _ _ _ _ _ _ _ _ _
              (fun a V hm hj => hlast (Rb := fun V => J (S.level j p) V) hm hj (fun _ => HJ.out _) (fun V h => .inl ⟨_, rfl, h⟩))
              (fun a V hm ⟨i, hi, hj⟩ => hlast (Rb := fun V => Jx ((S.level j p).take i) V) hm hj (fun _ => HJx.out _) (fun V h => .inr ⟨_, ⟨i, hi, rfl⟩, h⟩))
end Go.Proofs.Ytomigaldomiefaa

namespace Go.Proofs.Ytomigaldomiefaa
open Go.RowKit Go.Shelf Go.MapKept Go.ChangeMaps
attribute [local go_sem] Oper.semAt_some
attribute [local simp, local go_sem] wide_fn
set_option linter.unusedVariables false
set_option linter.unusedSimpArgs false

theorem text_ne {a b : ByteArray} (h : ¬ a = b) : (a.toList == b.toList) = false := by
  rw [beq_eq_false_iff_ne]
  intro e
  rw [ByteArray.toList_eq, ByteArray.toList_eq] at e
  exact h (ByteArray.ext (Array.toList_inj.1 e))
section
variable {w V : World} {T : List Nat}
theorem own_kpcB {B : Nat} {e : TypeId} {sz : Nat} {v : Value} {n : Nat} {xs : List Value} (h : w.ownsRow B e sz v n xs) (hk : KpC T w V) (hT : ∀ g ∈ T, w.heap.size ≤ g) : V.ownsRow B e sz v n xs := own_kpc h hk (fun g hg cs hr => by have := hT g hg; have := Row.lt hr; omega)
theorem DatIs.kpc {B : Nat} {v : Value} {l : List Nat} (h : DatIs w B v l) (hk : KpC T w V) (hT : ∀ g ∈ T, w.heap.size ≤ g) : DatIs V B v l := ⟨h.small, h.short, own_kpcB h.own hk hT⟩
theorem WrsIs.kpcB {B : Nat} {v : Value} {l : List Wr} (h : WrsIs w B v l) (hk : KpC T w V) (hT : ∀ g ∈ T, w.heap.size ≤ g) : WrsIs V B v l := by
  obtain ⟨its, h1, h2, h3⟩ := h
  exact ⟨its, h1, own_kpcB h2 hk hT, fun x hx => ⟨(h3 x hx).1, (h3 x hx).2.1, (h3 x hx).2.2.kpc hk hT⟩⟩
theorem GrsIs.kpc {B : Nat} {v : Value} {l : List (List Wr)} (h : GrsIs w B v l) (hk : KpC T w V) (hT : ∀ g ∈ T, w.heap.size ≤ g) : GrsIs V B v l := by
  obtain ⟨vs, h1, h2⟩ := h
  exact ⟨vs, own_kpcB h1 hk hT, fun i g hg => by obtain ⟨u, h3, h4⟩ := h2 i g hg; exact ⟨u, h3, h4.kpcB hk hT⟩⟩
theorem mapIs_kpc {k : TypeId} {H m : Nat} {f : Value → Option Value} (h : MapIs Try.prog k w H m f) (hk : KpC T w V) (hT : ∀ g ∈ T, w.heap.size ≤ g) : MapIs Try.prog k V H m f := by
  obtain ⟨es, clock, h1, h2⟩ := h
  exact ⟨es, clock, hk.same H _ (fun hm => by have := hT H hm; have := (Array.getElem?_eq_some_iff.1 h1).1; omega) h1 rfl, h2⟩
theorem CrIs.kpc {B C H L : Nat} {v4 v5 : Value} {S : Cr} (h : CrIs w B C H L v4 v5 S) (hk : KpC T w V) (hT : ∀ g ∈ T, w.heap.size ≤ g) : CrIs V B C H L v4 v5 S := by
  refine ⟨hk.row h.row (fun hm => by have := hT C hm; have := h.row.lt; omega), ?_, ?_, h.grs.kpc hk hT, h.fly.kpcB hk hT, h.low, h.ne, h.n, h.sz, h.okG, h.okF, h.few⟩
  · obtain ⟨⟨m, f, h1, h2⟩, h3⟩ := h.has
    exact ⟨⟨m, f, mapIs_kpc h1 hk hT, h2⟩, h3⟩
  · obtain ⟨⟨m, f, h1, h2⟩, h3⟩ := h.loose
    exact ⟨⟨m, f, mapIs_kpc h1 hk hT, h2⟩, h3⟩
end
/-- What level hands on lies in its bounds. -/
theorem Cr.level_ok {w : World} {B C H L : Nat} {v4 v5 : Value} {S : Cr} (h : CrIs w B C H L v4 v5 S) (k p : Nat) : ∀ x ∈ S.level k p, x.length = S.sz ∧ ∀ u ∈ x, u < 256 := by
  have hz : (zs S.sz).length = S.sz ∧ ∀ u ∈ zs S.sz, u < 256 := ⟨by simp [zs], fun u hu => by simp [zs] at hu; omega⟩
  have ho : ∀ l : List Wr, OkL S.n S.sz l → ∀ x ∈ ofP l p, x.length = S.sz ∧ ∀ u ∈ x, u < 256 := fun l hl x hx => by
    have := hl _ (mem_ofP.1 hx); exact ⟨this.2.1, this.2.2⟩
  have ha : ∀ x ∈ S.ahead k p, x.length = S.sz ∧ ∀ u ∈ x, u < 256 := fun x hx => by
    unfold Cr.ahead at hx
    obtain ⟨g, hg, hx⟩ := List.mem_flatMap.1 hx
    exact ho g (h.okG g (List.mem_of_mem_take hg)) x hx
  intro x hx
  unfold Cr.level at hx
  rcases List.mem_cons.1 hx with rfl | hx
  · unfold Cr.base
    cases hl : (S.ahead k p).getLast? with
    | some y => exact ha y (List.mem_of_getLast? hl)
    | none =>
      unfold Cr.base0
      cases hh : S.has p with
      | none => exact hz
      | some d => exact (h.has.2 p d hh).2
  rcases List.mem_append.1 hx with hx | hx
  · split at hx
    · rw [List.mem_singleton.1 hx]; exact hz
    · cases hx
  rcases List.mem_append.1 hx with hx | hx
  · exact ho _ h.okF x hx
  · rw [List.getD_eq_getElem?_getD] at hx
    cases hg : S.groups[k]? with
    | none => rw [hg] at hx; cases hx
    | some g => rw [hg] at hx; exact ho g (h.okG g (List.mem_of_getElem? hg)) x hx
theorem lvAt_of {w V : World} {T : List Nat} {B C H L Zs Zp Zk : Nat} {v4 v5 : Value} {vs : List Value} {S : Cr} {k p : Nat} (h : CrIs w B C H L v4 v5 S) (hv : w.ownsRow B 23 1 v4 S.groups.length vs ∧ ∀ (i : Nat) (g : List Wr), S.groups[i]? = some g → ∃ u, vs[i]? = some u ∧ WrsIs w B u g)
    (hk : KpC T w V) (hT : ∀ g ∈ T, w.heap.size ≤ g) (h1 : Row V Zs 25 #[.pointer (some ⟨C, 0, none⟩)]) (h2 : Row V Zp 3 #[.int .i64 p]) (h3 : Row V Zk 3 #[.int .i64 k]) : LvAt V B C H L Zs Zp Zk v4 v5 vs S k p :=
  ⟨h1, h2, h3, h.kpc hk hT, own_kpcB hv.1 hk hT, fun i g hg => by obtain ⟨u, hu, hw⟩ := hv.2 i g hg; exact ⟨u, hu, hw.kpcB hk hT⟩⟩
theorem at_results (tmps : Array Value) (W : World) (R : Nat) (u : Value) (h8 : tmps.getD 8 undef = .pointer (some ⟨R, 0, none⟩)) (r0 : W.cell? ⟨R, 0, none⟩ = some u) :
    (results Try.f37 tmps).run Try.prog W = .ok u W := by
  simp at h8
  simp [results, Try.results37, go_sem, h8, r0]
set_option maxRecDepth 100000 in
set_option maxHeartbeats 4000000 in
theorem at_any (B C H L : Nat) (v4 v5 : Value) (S : Cr) (k p : Nat) (hk : k ≤ S.groups.length) (hp : p < S.n) (A : Option Addr) (c : Nat) (l : List Nat) (hl : ∀ u ∈ l, u < 256) (w : World) (h : CrIs w B C H L v4 v5 S) (hd : Cells8 w A l) :
    Calls Try.prog 37 #[.pointer (some ⟨C, 0, none⟩), .int .i64 k, .int .i64 p, .slice A l.length c] w fun e w' => e = .returned (.bool (S.at k p l)) ∧ Below w.heap.size w w' := by
  obtain ⟨R, hR⟩ : ∃ R, R = w.heap.size + 1 := ⟨_, rfl⟩
  obtain ⟨X, hX⟩ : ∃ X, X = w.heap.size := ⟨_, rfl⟩
  obtain ⟨w1, hw1⟩ : ∃ w1, w1 = (w.alloc (.cells #[.slice A l.length c] 22)).alloc (.cells #[.bool false] 4) := ⟨_, rfl⟩
  have HB1 : Hid (Below w.heap.size w w1) := by unfold Hid; rw [hw1]; (repeat (first | (with_reducible refine Below.drew ?_) | (with_reducible refine below_drewN0 ?_ _) | ((with_reducible refine Below.setCell ?_ ?_ _); rotate_left; focus (first | omega | (simp; done) | (simp; omega) | (simp at *; omega))) | ((with_reducible refine Below.alloc ?_ ?_ _); rotate_left; focus (first | omega | (simp; done) | (simp; omega) | (simp at *; omega))) | (with_reducible exact Below.refl _ _)))
  have HR1 : Hid (Row w1 R 4 #[.bool false]) := by
    unfold Hid; rw [hw1, hR]
    have := Row.fresh (w.alloc (.cells #[.slice A l.length c] 22)) 4 #[.bool false]
    rw [World.size_alloc] at this; exact this
  have HX1 : Hid (Row w1 X 22 #[.slice A l.length c]) := by unfold Hid; rw [hw1, hX]; exact (Row.fresh _ _ _).alloc _
  have HLev := Lib.hid (level_any C k p w1)
  have HC0 := Lib.hid h
  have HD := Lib.hid hd
  have HS : Hid (∀ a : List Nat, (∀ x ∈ a, x < 256) → textOf a = textOf l → a = l) := fun a ha e => textOf_inj ha hl e
  have HL := Lib.hid hl
  have HW1 := Lib.hid hw1
  have HXe := Lib.hid hX
  have HRe := Lib.hid hR
  obtain ⟨vs, hv1, hv2⟩ := h.grs
  have HV : Hid (w.ownsRow B 23 1 v4 S.groups.length vs ∧ ∀ (i : Nat) (g : List Wr), S.groups[i]? = some g → ∃ u, vs[i]? = some u ∧ WrsIs w B u g) := ⟨hv1, hv2⟩
  have HOk := Lib.hid (Cr.level_ok h k p)
  clear h hd hw1 hR hX hl hv1 hv2
  refine (callsIn_wide (n := 9)).1 (callsIn_of_wp_marks Try.func37 rfl trivial ?_ rfl)
  simp only [Try.ntmps37, List.size_toArray, List.length_cons, List.length_nil, Nat.reduceAdd, Nat.reduceSub, Array.replicate_succ, Array.replicate_zero, List.push_toArray, List.append_toArray, List.nil_append, List.cons_append]
  refine wpIn_wide.2 ?_
  go_wp2_with fail
  rw [← HW1.out, ← HRe.out, ← HXe.out]
  refine HLev.out.mono ?_
  rintro e w2 ⟨Z, rfl, hZ, z1, z2, z3, hb⟩
  have HB2 := Lib.hid hb
  have HZ1 := Lib.hid z1
  have HZ2 := Lib.hid z2
  have HZ3 := Lib.hid z3
  have HZ := Lib.hid hZ
  clear HLev hb z1 z2 z3 hZ
  go_wp2_with fail
  have HBw2 : Hid (Below w.heap.size w w2) := HB1.out.trans (HB2.out.mono HB1.out.size)
  have hXR : w.heap.size ≤ X ∧ X < R ∧ R < w1.heap.size ∧ w1.heap.size ≤ w2.heap.size := by have := HXe.out; have := HRe.out; have := HR1.out.lt; have := HB2.out.size; omega
  have HXR := Lib.hid hXR
  have HR2 := Lib.hid (HR1.out.below HB2.out HR1.out.lt)
  have HX2 := Lib.hid (HX1.out.below HB2.out HX1.out.lt)
  have HTw : Hid (∀ g ∈ [R], w.heap.size ≤ g) := fun g hg => by rw [List.mem_singleton.1 hg]; omega
  have hLv : ∀ V, KpC [R] w2 V → LvAt V B C H L Z (Z + 2) (Z + 1) v4 v5 vs S k p := fun V hV => by
    have hZ := HZ.out
    have hn : ∀ i, Z + i ∉ [R] := fun i hm => by have := List.mem_singleton.1 hm; omega
    exact lvAt_of HC0.out HV.out ((KpC.of_below HBw2.out).trans hV) HTw.out (hV.row HZ1.out (hn 0)) (hV.row HZ3.out (hn 2)) (hV.row HZ2.out (hn 1))
  have HLv := Lib.hid hLv
  have HSeq := Lib.hid (level1_own 8 (by omega) B C H L Z (Z + 2) (Z + 1) v4 v5 vs S k p hk hp [R] w2 (fun t ht => by rw [List.mem_singleton.1 ht]; omega) hLv)
  clear hXR hLv
  refine (wpIn_wide (n := 9)).1 ?_
  apply wpIn_range_ownA rfl (by omega) (gf := 56) (lb := #[.pointer (some ⟨Z, 0, none⟩), .pointer (some ⟨Z + 2, 0, none⟩), .pointer (some ⟨Z + 1, 0, none⟩)]) rfl trivial (enters_of Try.func56 (by kernel_rfl) rfl)
    (hseq := HSeq.out)
    (hKr := fun V => KpC.of_below (Below.refl _ _)) (hKt := fun h h' => KpC.trans h h') (hKb := fun V l r o' _ hl => KpC.put hl) (hb0 := Below.refl _ _) (hps := fun _ => rfl)
    (I := fun pre V => ((∀ y ∈ pre, textOf y ≠ textOf l) ∧ Row V R 4 #[.bool false] ∧ Row V X 22 #[.slice A l.length c]) ∧ Below w.heap.size w V) (Ix := fun c pre V => c = .ret ∧ ((∃ y ∈ pre, textOf y = textOf l) ∧ Row V R 4 #[.bool true]) ∧ Below w.heap.size w V)
  case hI =>
    rintro s V V' row ⟨⟨h0, h1, h2⟩, h3⟩ hg hr
    exact ⟨⟨h0, Row.kept h1 hg (fun r e => (hr r e).2), Row.kept h2 hg (fun r e => (hr r e).2)⟩, h3.grown hg h3.size (fun r e => by have := (hr r e).1; have := HBw2.out.size; omega)⟩
  case hIx =>
    rintro c s V V' row ⟨hc, ⟨h0, h1⟩, h3⟩ hg hr
    exact ⟨hc, ⟨h0, Row.kept h1 hg (fun r e => (hr r e).2)⟩, h3.grown hg h3.size (fun r e => by have := (hr r e).1; have := HBw2.out.size; omega)⟩
  case h0 => exact ⟨⟨by simp, HR2.out, HX2.out⟩, HBw2.out⟩
  case hassign =>
    intro i pre x V hi _ _
    gi_wp2
    exact ⟨rfl, trivial⟩
  case hbody =>
    rintro i pre x V ⟨⟨h0, h1, h2⟩, hB⟩ _ _
    have hcx := h2.cell 0
    have hfr := h1.frozen 0
    have hc1 := h1.cell 0
    simp only [List.getElem?_toArray, List.getElem?_cons_zero, List.getElem?_cons_succ] at hcx hc1
    have kc : (convert 22 9 (.slice A l.length c)).run Try.prog V = .ok (.string (textOf l)) V := conv_text (HD.out.keep (keep_below hB))
    have HH := Lib.hid (And.intro h0 (And.intro h1 (And.intro h2 hB)))
    clear h0 h1 h2 hB
    generalize l.length = ln at *
    by_cases he : textOf x = textOf l
    · have HE := Lib.hid he
      have HT : Hid (Turns V (V.setCell ⟨R, 0, none⟩ (.bool true)) [R]) := (Turns.refl V [R]).setCell (by simp) _
      have HF : Hid (Row (V.setCell ⟨R, 0, none⟩ (.bool true)) R 4 #[.bool true]) := by unfold Hid; simpa using HH.out.2.1.put 0 (.bool true)
      have HBf : Hid (Below w.heap.size w (V.setCell ⟨R, 0, none⟩ (.bool true))) := HH.out.2.2.2.setCell (p := ⟨R, 0, none⟩) (by have := HXR.out; show w.heap.size ≤ R; omega) _
      rw [← he] at kc
      clear he
      gi_wp2
      exact ⟨(KeepsOthers.setCell _ _ _).from _, KpC.of_turns HT.out (fun y hy => hy), rfl, ⟨⟨x, by simp, HE.out⟩, HF.out⟩, HBf.out⟩
    · have he2 := text_ne he
      gi_wp2
      exact ⟨KeepsFrom.refl _ _, KpC.of_below (Below.refl _ _), ⟨fun y hy => by
        rcases List.mem_append.1 hy with hy | hy
        · exact HH.out.1 y hy
        · rw [List.mem_singleton.1 hy]; exact he, HH.out.2.1, HH.out.2.2.1⟩, HH.out.2.2.2⟩
  case hdone =>
    rintro D ys V hD rfl ⟨⟨h0, h1, h2⟩, hB⟩ hDf
    have hcx := h2.cell 0
    have hfr := h1.frozen 0
    have hc1 := h1.cell 0
    simp only [List.getElem?_toArray, List.getElem?_cons_zero, List.getElem?_cons_succ] at hcx hc1
    have HH := Lib.hid (And.intro h1 (And.intro hB hDf))
    have HA : Hid (S.at k p l = (((l.length : Nat) : Int) == 0)) := by
      unfold Hid Cr.at
      have h3 : (S.level k p).contains l = false := by
        rw [← Bool.not_eq_true, List.contains_iff_mem]
        exact fun hm => h0 l hm rfl
      rw [h3]
      cases l with
      | nil => rfl
      | cons a l => simp; omega
    clear h0 h1 h2 hB hDf
    generalize l.length = ln at *
    have HF : Hid (Row (V.setCell ⟨R, 0, none⟩ (.bool ((ln : Int) == 0))) R 4 #[.bool ((ln : Int) == 0)]) := by unfold Hid; simpa using HH.out.1.put 0 (.bool ((ln : Int) == 0))
    have HBf : Hid (Below w.heap.size w (V.setCell ⟨R, 0, none⟩ (.bool ((ln : Int) == 0)))) := HH.out.2.1.setCell (p := ⟨R, 0, none⟩) (by have := HXR.out; show w.heap.size ≤ R; omega) _
    have HK : Hid ((V.setCell ⟨R, 0, none⟩ (.bool ((ln : Int) == 0))).heap[D]? = some (.deferred (some []))) := (KeepsOthers.setCell _ _ _).same _ _ HH.out.2.2 rfl
    obtain ⟨b, hb⟩ : ∃ b, b = ((ln : Int) == 0) := ⟨_, rfl⟩
    have HBe := Lib.hid hb
    rw [← hb] at HF HBf HK HA
    clear hb
    go_wp2
    rw [← HBe.out]
    refine ⟨by simp, .inl ⟨_, _, rfl, run_takeDeferred HK.out, ?_⟩⟩
    refine ⟨_, at_results _ _ R (.bool b) rfl ?_, by rw [HA.out], HBf.out.trans (belowK_b (w := w) (Nat.le_refl _) _ D _ _ (by have := HBw2.out.size; omega) HK.out rfl rfl)⟩
    exact Row.cell (show Row _ R 4 #[.bool b] from (World.putObj_heap_other (by have := HXR.out; omega)).trans HF.out) 0
  case hstop =>
    rintro D cd pre V hD ⟨j, hj, rfl⟩ ⟨rfl, ⟨⟨y, hy, he⟩, h1⟩, hB⟩ hDf
    have hyl := List.mem_of_mem_take hy
    have hya := HS.out y (HOk.out y hyl).2 he
    have HA : Hid (S.at k p l = true) := by
      unfold Hid Cr.at
      rw [← hya]
      simp [List.contains_iff_mem, hyl]
    refine wpIn_wide.2 ?_
    go_wp2
    refine ⟨by simp, .inl ⟨_, _, rfl, run_takeDeferred hDf, ?_⟩⟩
    refine ⟨_, at_results _ _ R (.bool true) rfl ?_, by rw [HA.out], hB.trans (belowK_b (w := w) (Nat.le_refl _) V D _ _ (by have := HBw2.out.size; omega) hDf rfl rfl)⟩
    exact Row.cell (show Row _ R 4 #[.bool true] from (World.putObj_heap_other (by have := HXR.out; omega)).trans h1) 0
end Go.Proofs.Ytomigaldomiefaa

namespace Go.Proofs.Ytomigaldomiefaa
open Go.RowKit Go.MapKept Go.ChangeMaps
open Go.Maps (Keyed)
set_option linter.unusedVariables false
set_option linter.unusedSimpArgs false

/-- Block r of w goes over the map at b, which f tells; cnt entries are still to come. -/
def IterIs (P : Program) (k : TypeId) (w : World) (b r n : Nat) (f : Value → Option Value) (cnt : Nat) : Prop :=
  ∃ es clock since seen c0, w.heap[b]? = some (.map es clock) ∧ Stamped es clock ∧ es.size = n ∧ (∀ x ∈ es.toList, ∃ l, keyOf P k x.key = some l) ∧ (∀ key v, f key = some v ↔ ∃ x ∈ es.toList, x.key = key ∧ x.val = v) ∧
    w.heap[r]? = some (.mapIter (some b) since seen c0) ∧ (∀ x ∈ es.toList, x.born < since) ∧ (leftOf es seen).size = cnt ∧ since ≤ c0 ∧ since ≤ clock
section
variable {P : Program} {k : TypeId} {w : World} {b r n cnt : Nat} {f : Value → Option Value}
theorem IterIs.isMap (h : IterIs P k w b r n f cnt) : MapIs P k w b n f := by
  obtain ⟨es, clock, since, seen, c0, hb, hs, hn, hk, hf, _⟩ := h
  exact ⟨es, clock, hb, hs, hn, hk, hf⟩
theorem IterIs.lt (h : IterIs P k w b r n f cnt) : r < w.heap.size := by
  obtain ⟨es, clock, since, seen, c0, hb, hs, hn, hk, hf, hr, _⟩ := h
  exact (Array.getElem?_eq_some_iff.1 hr).1
theorem IterIs.keep {w' : World} (h : IterIs P k w b r n f cnt) (hb : w'.heap[b]? = w.heap[b]?) (hr : w'.heap[r]? = w.heap[r]?) : IterIs P k w' b r n f cnt := by
  obtain ⟨es, clock, since, seen, c0, h1, hs, hn, hk, hf, h2, rest⟩ := h
  exact ⟨es, clock, since, seen, c0, hb.trans h1, hs, hn, hk, hf, hr.trans h2, rest⟩
theorem IterIs.below {w' : World} (h : IterIs P k w b r n f cnt) (hb : Below w.heap.size w w') : IterIs P k w' b r n f cnt :=
  h.keep (hb.block b h.isMap.lt) (hb.block r h.lt)
theorem MapIs.range {t e : TypeId} (h : MapIs P k w b n f) (ht : P.underlying t = some (.map k e)) :
    ∃ w', (Instr.range t (.map (some b))).run P w = .ok (.pointer (some ⟨w.heap.size, 0, none⟩)) w' ∧ IterIs P k w' b w.heap.size n f n ∧ Below w.heap.size w w' := by
  obtain ⟨es, clock, hb, hs, hn, hk, hf⟩ := h
  refine ⟨w.alloc (.mapIter (some b) clock #[] clock), ?_, ⟨es, clock, clock, #[], clock, ?_, hs, hn, hk, hf, heap_alloc_new w _, ?_, ?_, Nat.le_refl _, Nat.le_refl _⟩, (Below.refl _ _).alloc (Nat.le_refl _) _⟩
  · simp [Instr.range, run_underlying ht, MapKept.run_getObj_map hb, Result.andThen]
  · exact (Below.heap_alloc w _ b (Array.getElem?_eq_some_iff.1 hb).1).trans hb
  · exact fun x hx => ((stamped_iff es clock).1 hs).1 x hx
  · rw [← hn]; simp [leftOf]
theorem IterIs.next (h : IterIs P k w b r n f cnt) (ty : TypeId) :
    (cnt = 0 ∧ (Instr.next (.pointer (some ⟨r, 0, none⟩)) false ty).run P w = .ok (.tuple #[.bool false]) w) ∨
    ∃ key v w' cnt', f key = some v ∧ (Instr.next (.pointer (some ⟨r, 0, none⟩)) false ty).run P w = .ok (.tuple #[.bool true, key, v]) w' ∧ IterIs P k w' b r n f cnt' ∧ cnt' < cnt ∧ w.grownBy w' (some r) ∧
      (Instr.entry (.pointer (some ⟨r, 0, none⟩))).run P w' = .ok (.tuple #[key, v]) w' := by
  obtain ⟨es, clock, since, seen, c0, hb, hs, hn, hk, hf, hr, hold, hcnt, hsc, hsk⟩ := h
  have hne : r ≠ b := fun e => by rw [e, hb] at hr; cases hr
  rcases run_next_at (P := P) w ty r b since c0 seen es clock hr hb hold hsc with ⟨h0, hrun⟩ | ⟨e, he, w1, hal, hrun⟩
  · exact .inl ⟨by rw [← hcnt]; exact h0, hrun⟩
  · obtain ⟨hem, hes⟩ := mem_left he
    have hr1 : w1.heap[r]? = some (.mapIter (some b) since seen c0) := by rcases hal with rfl | rfl <;> exact hr
    have hb1 : w1.heap[b]? = some (.map es clock) := by rcases hal with rfl | rfl <;> exact hb
    have hset := heap_set (o' := .mapIter (some b) since (seen.push e.born) clock) hr1
    have hb' : (setBlock w1 r (.mapIter (some b) since (seen.push e.born) clock)).heap[b]? = some (.map es clock) := (hset.2 b (fun e1 => hne e1.symm)).trans hb1
    refine .inr ⟨e.key, e.val, _, _, (hf e.key e.val).2 ⟨e, hem, rfl, rfl⟩, hrun, ⟨es, clock, since, seen.push e.born, clock, hb', hs, hn, hk, hf, hset.1, hold, rfl, hsk, hsk⟩, by rw [← hcnt]; exact left_shrinks es seen e he, ?_,
      run_entry_at _ r b since seen es clock e hset.1 hb' hem ((stamped_iff es clock).1 hs).2.1⟩
    rcases hal with rfl | rfl <;> exact ⟨rfl, rfl, rfl, by simp [setBlock], fun i _ hi => hset.2 i (fun e1 => hi (by rw [e1]))⟩
theorem IterIs.left_eq (h : IterIs P k w b r n f cnt) : w.rangeLeft b r = cnt := by
  obtain ⟨es, clock, since, seen, c0, h1, hs, hn, hk, hf, h2, hold, hcnt, _⟩ := h
  unfold World.rangeLeft
  rw [h1, h2]; exact hcnt
variable {ops : Array Oper} {rest : List Oper} {o : Oper} {a : Act} {Q : Exit → Act → World → Prop}
/-- 'range m'. -/
theorem wpList_range_map (hg : o.guard = none) (m : Operand) (t : TypeId) (hop : o.op = Op.range t m) (k e : TypeId) (ht : P.underlying t = some (.map k e)) (b n : Nat) (f : Value → Option Value)
    (hm : a.eval m = .map (some b)) (h : MapIs P k w b n f)
    (hK : ∀ w', IterIs P k w' b w.heap.size n f n → Below w.heap.size w w' → wpList P ops Q rest (a.put o.dst (.pointer (some ⟨w.heap.size, 0, none⟩))) w') :
    wpList P ops Q (o :: rest) a w := by
  refine wpList_plain hg fun K' hK' => ?_
  obtain ⟨w', hrun, r1, r2⟩ := h.range ht
  unfold Oper.wp
  simp [execOp, hop, hm, hrun, Result.andThen]
  exact hK' _ _ (hK w' r1 r2)
/-- The step. -/
theorem wpList_next_map (hg : o.guard = none) (it : Operand) (hop : o.op = Op.next it false) (k : TypeId) (b r n : Nat) (f : Value → Option Value) (cnt : Nat) (hit : a.eval it = .pointer (some ⟨r, 0, none⟩)) (h : IterIs P k w b r n f cnt)
    (hDone : cnt = 0 → wpList P ops Q rest (a.put o.dst (.tuple #[.bool false])) w)
    (hMore : ∀ (key v : Value) (w' : World) (cnt' : Nat), f key = some v → IterIs P k w' b r n f cnt' → cnt' < cnt → w.grownBy w' (some r) →
      (Instr.entry (.pointer (some ⟨r, 0, none⟩))).run P w' = .ok (.tuple #[key, v]) w' → wpList P ops Q rest (a.put o.dst (.tuple #[.bool true, key, v])) w') :
    wpList P ops Q (o :: rest) a w := by
  refine wpList_plain hg fun K' hK' => ?_
  unfold Oper.wp
  rcases h.next o.type with ⟨h0, hrun⟩ | ⟨key, v, w', cnt', hfk, hrun, hit', hlt, hgr, hen⟩
  · simp [execOp, hop, hit, hrun, Result.andThen]
    exact hK' _ _ (hDone h0)
  · simp [execOp, hop, hit, hrun, Result.andThen]
    exact hK' _ _ (hMore key v w' cnt' hfk hit' hlt hgr hen)
end
/-- Two maps that have the same keys have as many entries. -/
theorem nodup_le {α : Type} : ∀ {l m : List α}, l.Pairwise (· ≠ ·) → (∀ x ∈ l, x ∈ m) → l.length ≤ m.length
  | [], _, _, _ => by simp
  | x :: l, m, hp, hm => by
    obtain ⟨h1, h2⟩ := List.pairwise_cons.1 hp
    obtain ⟨m1, m2, rfl⟩ := List.append_of_mem (hm x (by simp))
    have := nodup_le (l := l) (m := m1 ++ m2) h2 (fun y hy => by
      have := hm y (by simp [hy])
      simp only [List.mem_append, List.mem_cons] at this ⊢
      rcases this with h | rfl | h
      · exact .inl h
      · exact absurd rfl (h1 _ hy)
      · exact .inr h)
    simp only [List.length_append, List.length_cons] at this ⊢
    omega
theorem MapIs.keys_le {P : Program} {k : TypeId} {w w' : World} {b b' n n' : Nat} {f f' : Value → Option Value} (h : MapIs P k w b n f) (h' : MapIs P k w' b' n' f') (hk : ∀ key v, f key = some v → ∃ v', f' key = some v') : n ≤ n' := by
  obtain ⟨es, clock, hb, hs, rfl, _, hf⟩ := h
  obtain ⟨es', clock', hb', hs', rfl, _, hf'⟩ := h'
  have := nodup_le (l := es.toList.map (·.key)) (m := es'.toList.map (·.key)) (List.pairwise_map.2 ((stamped_iff es clock).1 hs).2.2) (fun key hkey => by
    obtain ⟨x, hx, rfl⟩ := List.mem_map.1 hkey
    obtain ⟨v', hv'⟩ := hk x.key x.val ((hf _ _).2 ⟨x, hx, rfl, rfl⟩)
    obtain ⟨y, hy, e, _⟩ := (hf' _ _).1 hv'
    exact List.mem_map.2 ⟨y, hy, e⟩)
  simpa using this
end Go.Proofs.Ytomigaldomiefaa
