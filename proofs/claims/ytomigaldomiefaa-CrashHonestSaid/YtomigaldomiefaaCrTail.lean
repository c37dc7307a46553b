/- crash: level's closure: the loops over what is in flight and the group at hand. -/
import Derived.Test.YtomigaldomiefaaCrLevH
namespace Go.Proofs.Ytomigaldomiefaa
open Go.RowKit Go.Shelf
attribute [local go_sem] Oper.semAt_some
attribute [local simp, local go_sem] wide_fn
set_option linter.unusedVariables false
set_option linter.unusedSimpArgs false

theorem take_of_prefix {l a : List (List Nat)} (h : a <+: l) : l.take a.length = a := (List.prefix_iff_eq_take.1 h).symm
theorem ofP_take_prefix (l : List Wr) (p k : Nat) : ofP (l.take k) p <+: ofP l p := by
  unfold ofP
  exact (List.take_prefix k l).filterMap _
set_option maxRecDepth 100000 in
set_option maxHeartbeats 4000000 in
theorem tail16 (n : Nat) (hn : 6 ≤ n) (c : Code) (hc : fromOf 16 Try.f56 = some c) (B Zs Zp Y M m mc p lb : Nat) (T : List Nat) (W : World) (hT : ∀ t ∈ T, t < W.heap.size)
    (gs : List (List Wr)) (hm : m = gs.length) (hmx : m ≤ 2) (J Jx : List (List Nat) → World → Prop) (hJ : OwnFrom W.heap.size J) (hJx : OwnFrom W.heap.size Jx) (pre0 lev : List (List Nat)) (hlev : lev = pre0 ++ gs.flatMap fun g => ofP g p)
    (hY : ∀ pre x W1, x ∈ lev → J pre W1 → pre.length < lev.length → YieldAt Fence.wide (n - 1) Try.prog lb (encT x) W1 fun e W' =>
      (e = .returned (.bool true) ∧ J (pre ++ [x]) W' ∧ KpC T W1 W' ∧ KeepsFrom W.heap.size W1 W') ∨ (e = .returned (.bool false) ∧ Jx (pre ++ [x]) W' ∧ KpC T W1 W' ∧ KeepsFrom W.heap.size W1 W'))
    (u : World) (hu : KpC T W u) (hYT : Y ∉ T) (hRy : Row u Y 97 #[.func (.yield lb) #[] #[]]) (hRp : ∀ V, KpC T u V → V.cell? ⟨Zp, 0, none⟩ = some (.int .i64 p))
    (hMT : M ∉ T) (hMo : ∀ i g, gs[i]? = some g → g.length ≤ 3518437208883 ∧ ∃ A nn cc, u.cell? ⟨M, i, none⟩ = some (.slice A nn cc) ∧ ∀ V, KpC T u V → WrsIs V B (.slice A nn cc) g)
    (hJ0 : J pre0 u) (ds : List Deferred) (hM : MarksIn W.heap.size u ds)
    (u0 u3 u5 u6 u7 u8 u9 u10 u12 u13 u14 u15 u16 u17 u18 u19 u20 u21 u22 u23 u24 u25 u26 u27 u28 u29 u30 u31 u32 u33 u34 u35 u36 u37 u38 u39 u40 u41 u42 u43 u44 u45 u46 u47 u48 u49 u50 u51 u52 u53 u54 u55 u56 u57 u58 u59 u60 u61 u62 u63 u64 u65 u66 u67 u68 u69 u70 u71 u72 u73 u74 u75 u76 u77 u78 u79 u80 u81 u82 u83 u84 u85 u86 u87 u88 u89 u90 u91 u92 u93 u94 u95 u96 u97 u98 u99 u100 u101 u102 u103 u104 u105 u106 : Value) (Q : Exit → Act → World → Prop) (hQn : ∀ a w', MarksIn W.heap.size w' a.defers → J lev w' → Q .normal a w') (hQr : ∀ a w', MarksIn W.heap.size w' a.defers → (∃ i, i ≤ lev.length ∧ Jx (lev.take i) w') → Q .ret a w') :
    c.wp Try.prog Q { tmps := #[u0, .pointer (some ⟨Zs, 0, none⟩), .pointer (some ⟨Zp, 0, none⟩), u3, .pointer (some ⟨Y, 0, none⟩), u5, u6, u7, u8, u9, u10, .slice (some ⟨M, 0, none⟩) m mc, u12, u13, u14, u15, u16, u17, u18, u19, u20, u21, u22, u23, u24, u25, u26, u27, u28, u29, u30, u31, u32, u33, u34, u35, u36, u37, u38, u39, u40, u41, u42, u43, u44, u45, u46, u47, u48, u49, u50, u51, u52, u53, u54, u55, u56, u57, u58, u59, u60, u61, u62, u63, u64, u65, u66, u67, u68, u69, u70, u71, u72, u73, u74, u75, u76, u77, u78, u79, u80, u81, u82, u83, u84, u85, u86, u87, u88, u89, u90, u91, u92, u93, u94, u95, u96, u97, u98, u99, u100, u101, u102, u103, u104, u105, u106], defers := ds } u := by
  unfold fromOf Try.f56 at hc
  simp only [Option.bind, codeFrom, Nat.reduceEqDiff, if_true, if_false, ite_false, ite_true, Option.or, Option.some.injEq] at hc
  subst hc
  dsimp only
  have HT := Lib.hid hT
  have HJ := Lib.hid hJ
  have HJx := Lib.hid hJx
  have HLv := Lib.hid hlev
  have HY := Lib.hid hY
  have HU := Lib.hid hu
  have HRy := Lib.hid hRy
  have HRp := Lib.hid hRp
  have HMo := Lib.hid hMo
  have HMn := Lib.hid (And.intro hMT hYT)
  have HJ0 := Lib.hid hJ0
  have HM := Lib.hid hM
  have HQn := Lib.hid hQn
  have HQr := Lib.hid hQr
  have HMl := Lib.hid hm
  clear hT hJ hJx hlev hY hu hRy hRp hMo hMT hYT hJ0 hM hQn hQr hm
  go_wp2
  refine wp_loop (fun a wr => ∃ (j : Nat) (x13 x14 x95 x96 x97 x98 x99 x100 x101 x102 x103 x104 x105 x106 : Value) (ds1 : List Deferred), a = { tmps := #[u0, .pointer (some ⟨Zs, 0, none⟩), .pointer (some ⟨Zp, 0, none⟩), u3, .pointer (some ⟨Y, 0, none⟩), u5, u6, u7, u8, u9, u10, .slice (some ⟨M, 0, none⟩) m mc, u12, x13, x14, u15, u16, u17, u18, u19, u20, u21, u22, u23, u24, u25, u26, u27, u28, u29, u30, u31, u32, u33, u34, u35, u36, u37, u38, u39, u40, u41, u42, u43, u44, u45, u46, u47, u48, u49, u50, u51, u52, u53, u54, u55, u56, u57, u58, u59, u60, u61, u62, u63, u64, u65, u66, u67, u68, u69, u70, u71, u72, u73, u74, u75, u76, u77, u78, u79, u80, u81, u82, u83, u84, u85, u86, u87, u88, u89, u90, u91, .slice (some ⟨M, 0, none⟩) m mc, .int .i64 m, .int .i64 (j : Int), x95, x96, x97, x98, x99, x100, x101, x102, x103, x104, x105, x106], defers := ds1 } ∧ j ≤ m ∧ KpC T u wr ∧ J (pre0 ++ (gs.take j).flatMap fun g => ofP g p) wr ∧ MarksIn W.heap.size wr ds1) (fun a _ => m - (intOf (a.tmps.getD 94 undef)).toNat) ?start ?round
  case start => exact ⟨0, _, _, _, _, _, _, _, _, _, _, _, _, _, _, ds, rfl, by omega, KpC.of_below (Below.refl _ _), by simpa using HJ0.out, HM.out⟩
  case round =>
    rintro a wr ⟨j, x13, x14, x95, x96, x97, x98, x99, x100, x101, x102, x103, x104, x105, x106, ds1, rfl, hj, hK, hJj, hMj⟩
    have HK := Lib.hid hK
    have HJj := Lib.hid hJj
    have HMj := Lib.hid hMj
    clear hK hJj hMj
    by_cases hjm : j < m
    · obtain ⟨g, hg⟩ : ∃ g, gs[j]? = some g := ⟨_, List.getElem?_eq_getElem (by rw [← HMl.out]; omega)⟩
      obtain ⟨hgl, A, nn, cc, hcell, hwu⟩ := HMo.out j g hg
      have HGl := Lib.hid hgl
      have HWu := Lib.hid hwu
      have hcell := HK.out.cell hcell HMn.out.1
      have e2 := HRp.out wr HK.out
      have HOf := Lib.hid (of_any A nn cc p wr)
      have HTk : Hid ((gs.take (j + 1)).flatMap (fun g => ofP g p) = (gs.take j).flatMap (fun g => ofP g p) ++ ofP g p) := by
        unfold Hid
        rw [List.take_add_one, hg, List.flatMap_append]; simp
      have HPx : Hid (∃ rest, lev = (pre0 ++ (gs.take j).flatMap fun g => ofP g p) ++ ofP g p ++ rest) := by
        refine ⟨(gs.drop (j + 1)).flatMap fun g => ofP g p, ?_⟩
        have h1 := HTk.out
        rw [HLv.out, List.append_assoc pre0, ← h1, List.append_assoc, ← List.flatMap_append, List.take_append_drop]
      have HXm : Hid (∀ x, x ∈ ofP g p → x ∈ lev) := fun x hx => by
        obtain ⟨rest, e⟩ := HPx.out
        rw [e]
        exact List.mem_append_left _ (List.mem_append_right _ hx)
      clear hgl hwu hg
      go_wp2_with fail
      refine HOf.out.mono ?_
      rintro e w2 ⟨rfl, hw2⟩
      clear HOf
      go_wp2_with fail
      rw [← hw2]
      have HB2 : Hid (Below wr.heap.size wr w2) := by unfold Hid; rw [hw2]; (repeat (first | (with_reducible refine Below.drew ?_) | (with_reducible refine below_drewN0 ?_ _) | ((with_reducible refine Below.setCell ?_ ?_ _); rotate_left; focus (first | omega | (simp; done) | (simp; omega) | (simp at *; omega))) | ((with_reducible refine Below.alloc ?_ ?_ _); rotate_left; focus (first | omega | (simp; done) | (simp; omega) | (simp at *; omega))) | (with_reducible exact Below.refl _ _)))
      have HK2 : Hid (KpC T u w2) := HK.out.trans (KpC.of_below HB2.out)
      have HJ2 : Hid (J (pre0 ++ (gs.take j).flatMap fun g => ofP g p) w2) := ownFrom_later_world HJ.out HJj.out HB2.out
      have HM2 : Hid (MarksIn W.heap.size w2 ds1) := HMj.out.mono fun D _ _ hD => (HB2.out.block D (Array.getElem?_eq_some_iff.1 hD).1).trans hD
      have HMl2 : Hid (∀ (d : Deferred), d ∈ ds1 → ∃ D, d = { target := .collected D, args := #[] } ∧ D < w2.heap.size) := marks_lt HM2.out
      have HR1 : Hid (Row w2 wr.heap.size 23 #[.slice A nn cc]) := by unfold Hid; rw [hw2]; exact (Row.fresh wr _ _).alloc _
      have HR2 : Hid (Row w2 (wr.heap.size + 1) 3 #[.int .i64 p]) := by
        unfold Hid; rw [hw2]
        have := Row.fresh (wr.alloc (.cells #[.slice A nn cc] 23)) 3 #[.int .i64 p]
        rw [World.size_alloc] at this
        exact this
      have hWw : W.heap.size ≤ wr.heap.size := Nat.le_trans HU.out.size HK.out.size
      have HWs : Hid (W.heap.size ≤ w2.heap.size) := Nat.le_trans hWw HB2.out.size
      have HTn : Hid (∀ y, W.heap.size ≤ y → y ∉ T) := fun y hy hm => by have := HT.out y hm; omega
      have hnn : nn = g.length := (HWu.out u (KpC.of_below (Below.refl _ _))).at0.1
      have HOfA : Hid (∀ V, KpC T w2 V → OfAt V wr.heap.size (wr.heap.size + 1) cc p A g) := fun V hV => by
        refine ⟨?_, ?_, (HWu.out V (HK2.out.trans hV)).at0.2⟩
        · rw [← hnn]; exact (hV.row HR1.out (HTn.out _ hWw)).cell 0
        · exact (hV.row HR2.out (HTn.out _ (by omega))).cell 0
      clear hw2 hcell e2 HB2
      refine (wpIn_wide (n := n)).1 ?_
      apply wpIn_range_ownA rfl (by omega) (gf := 70) (lb := #[.pointer (some ⟨wr.heap.size, 0, none⟩), .pointer (some ⟨wr.heap.size + 1, 0, none⟩)]) rfl trivial (enters_of Try.func70 (by kernel_rfl) rfl)
        (hseq := of1_own (n - 1) (by omega) wr.heap.size (wr.heap.size + 1) cc p A g HGl.out w2 (Kp := KpC T) (fun _ _ h => KpC.of_below h) (fun h h' => KpC.trans h h') HOfA.out)
        (hKr := fun V => KpC.of_below (Below.refl _ _)) (hKt := fun h h' => KpC.trans h h') (hKb := fun V l r o' _ hl => KpC.put hl) (hb0 := Below.refl _ _) (hps := fun _ => rfl)
        (I := fun pre V => (J (pre0 ++ ((gs.take j).flatMap fun g => ofP g p) ++ pre) V ∧ KpC T u V) ∧ MarksIn W.heap.size V ds1) (Ix := fun c pre V => c = .ret ∧ Jx (pre0 ++ ((gs.take j).flatMap fun g => ofP g p) ++ pre) V ∧ MarksIn W.heap.size V ds1)
      case hI =>
        rintro s V V' row ⟨⟨h1, h2⟩, h3⟩ hg hr
        refine ⟨⟨HJ.out _ V V' row h1 hg (fun r e => ⟨by have := (hr r e).1; have := HWs.out; omega, (hr r e).2⟩), ⟨Nat.le_trans h2.size hg.size, fun k o hn hk ho => ?_⟩⟩, h3.mono fun D _ hm hD => ?_⟩
        · have h4 := h2.same k o hn hk ho
          exact (hg.block k (Array.getElem?_eq_some_iff.1 h4).1 (fun e => by have := (hr k e.symm).1; have := HK2.out.size; have := (Array.getElem?_eq_some_iff.1 hk).1; omega)).trans h4
        · obtain ⟨D', e, hlt⟩ := HMl2.out _ hm
          obtain rfl : D = D' := by injection e with e _; injection e
          exact (hg.block D (Array.getElem?_eq_some_iff.1 hD).1 (fun e => by have := (hr D e.symm).1; omega)).trans hD
      case hIx =>
        rintro c s V V' row ⟨h0, h1, h3⟩ hg hr
        refine ⟨h0, HJx.out _ V V' row h1 hg (fun r e => ⟨by have := (hr r e).1; have := HWs.out; omega, (hr r e).2⟩), h3.mono fun D _ hm hD => ?_⟩
        obtain ⟨D', e, hlt⟩ := HMl2.out _ hm
        obtain rfl : D = D' := by injection e with e _; injection e
        exact (hg.block D (Array.getElem?_eq_some_iff.1 hD).1 (fun e => by have := (hr D e.symm).1; omega)).trans hD
      case h0 => exact ⟨⟨by rw [List.append_nil]; exact HJ2.out, HK2.out⟩, HM2.out⟩
      case hassign =>
        intro l pre x V hi _ _
        gi_wp2
        exact ⟨rfl, trivial⟩
      case hbody =>
        rintro l pre x V ⟨⟨hJv, hKv⟩, hMv⟩ hxm hlt
        have HKv := Lib.hid hKv
        have HMv := Lib.hid hMv
        have cy := (hKv.row HRy.out HMn.out.2).cell 0
        simp only [List.getElem?_toArray, List.getElem?_cons_zero, List.getElem?_cons_succ] at cy
        have hlen : (pre0 ++ ((gs.take j).flatMap fun g => ofP g p) ++ pre).length < lev.length := by
          obtain ⟨rest, e⟩ := HPx.out
          rw [e]; simp only [List.length_append] at hlt ⊢; omega
        obtain ⟨fn, tmps, assign, body, hy, hR⟩ := yieldAt_wide (l' := l) (m := n - 1 - 1 - 1) (HY.out _ x V (HXm.out x hxm) hJv hlen)
        have HR := Lib.hid hR
        try dsimp only [encT] at hy
        clear hJv hKv hMv hlen hR
        have hKt : ∀ V', KpC T V V' → KpC T u V' := fun V' h => HKv.out.trans h
        have hMt : ∀ V', KpC T V V' → MarksIn W.heap.size V' ds1 := fun V' h => HMv.out.mono fun D hD _ h0 => h.same D _ (HTn.out D hD) h0 rfl
        gi_wp2
        refine ⟨fun _ => by omega, HR.out.mono ?_⟩
        rintro e W3 (⟨rfl, hJ3, hk3, hf3⟩ | ⟨rfl, hJ3, hk3, hf3⟩)
        · have HF : Hid (KeepsFrom w2.heap.size V W3 ∧ KpC T V W3 ∧ (J (pre0 ++ ((gs.take j).flatMap fun g => ofP g p) ++ (pre ++ [x])) W3 ∧ KpC T u W3) ∧ MarksIn W.heap.size W3 ds1) := ⟨keepsFrom_mono hf3 HWs.out, hk3, ⟨by rw [← List.append_assoc]; exact hJ3, hKt _ hk3⟩, hMt _ hk3⟩
          clear hJ3 hk3 hf3 hy hKt hMt cy
          gi_wp2
          exact HF.out
        · have HF : Hid (KeepsFrom w2.heap.size V W3 ∧ KpC T V W3 ∧ Jx (pre0 ++ ((gs.take j).flatMap fun g => ofP g p) ++ (pre ++ [x])) W3 ∧ MarksIn W.heap.size W3 ds1) := ⟨keepsFrom_mono hf3 HWs.out, hk3, by rw [← List.append_assoc]; exact hJ3, hMt _ hk3⟩
          clear hJ3 hk3 hf3 hy hKt hMt cy
          gi_wp2
          exact ⟨HF.out.1, HF.out.2.1, rfl, HF.out.2.2.1, HF.out.2.2.2⟩
      case hdone =>
        rintro D ys V hD rfl ⟨⟨hJv, hKv⟩, hMv⟩ hDf
        have HF : Hid (J (pre0 ++ (gs.take (j + 1)).flatMap fun g => ofP g p) V ∧ MarksIn W.heap.size V ({ target := .collected D, args := #[] } :: ds1) ∧ KpC T u V) :=
          ⟨by rw [HTk.out, ← List.append_assoc]; exact hJv, hMv.push (by have := HWs.out; omega) hDf (fun hm => by obtain ⟨D', e, hlt⟩ := HMl2.out _ hm; injection e with e _; injection e with e; omega), hKv⟩
        clear hJv hKv hMv hDf
        go_wp2
        exact ⟨⟨j + 1, _, _, _, _, _, _, _, _, _, _, _, _, _, _, _, rfl, by omega, HF.out.2.2, HF.out.1, HF.out.2.1⟩, by simp [intOf]; omega⟩
      case hstop =>
        rintro D c pre V hD ⟨k', hk', rfl⟩ ⟨rfl, hJv, hMv⟩ hDf
        have HF : Hid (MarksIn W.heap.size V ({ target := .collected D, args := #[] } :: ds1)) := hMv.push (by have := HWs.out; omega) hDf (fun hm => by obtain ⟨D', e, hlt⟩ := HMl2.out _ hm; injection e with e _; injection e with e; omega)
        have HI : Hid (∃ i, i ≤ lev.length ∧ Jx (lev.take i) V) := by
          obtain ⟨rest, e⟩ := HPx.out
          obtain ⟨r2, e2⟩ := ofP_take_prefix g p k'
          have hp : pre0 ++ ((gs.take j).flatMap fun g => ofP g p) ++ ofP (g.take k') p <+: lev := ⟨r2 ++ rest, by rw [e, ← e2]; simp only [List.append_assoc]⟩
          exact ⟨_, hp.length_le, by rw [take_of_prefix hp]; exact hJv⟩
        clear hJv hMv hDf
        refine wpIn_wide.2 ?_
        go_wp2
        exact HQr.out _ _ HF.out HI.out
    · obtain rfl : j = m := by omega
      have hall : gs.take j = gs := by rw [HMl.out]; exact List.take_length
      have HF := HJj.out
      rw [hall, ← HLv.out] at HF
      have HF := Lib.hid HF
      go_wp2
      exact HQn.out _ _ HMj.out HF.out
end Go.Proofs.Ytomigaldomiefaa
