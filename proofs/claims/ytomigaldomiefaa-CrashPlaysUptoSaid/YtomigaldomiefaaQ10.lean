/- What follows is laid together from several texts of mine, in their order. -/
import Derived.Test.YtomigaldomiefaaQ9
import Derived.Deep.CutRange

namespace Go.Proofs.Ytomigaldomiefaa
open Go.RowKit Go.Shelf
set_option linter.unusedVariables false
set_option linter.unusedSimpArgs false

theorem own_kpc {W W' : World} {T : List Nat} {B : Nat} {e : TypeId} {sz : Nat} {v : Value} {n : Nat} {xs : List Value} (h : W.ownsRow B e sz v n xs) (hk : KpC T W W') (hT : ∀ g ∈ T, ∀ cs, ¬ Row W g e cs) : W'.ownsRow B e sz v n xs := by
  refine ⟨h.1, ?_⟩
  rcases h.2 with h1 | ⟨g, cap, cur, rfl, hb, hg, rest⟩
  · exact .inl h1
  · exact .inr ⟨g, cap, cur, rfl, hb, hk.row (show Row W g e cur from hg) (fun hm => hT g hm cur hg), rest⟩
theorem WrsIs.kpc {W W' : World} {T : List Nat} {B : Nat} {v : Value} {l : List Wr} (h : WrsIs W B v l) (hk : KpC T W W') (hT : ∀ g ∈ T, ∀ cs, ¬ Row W g 30 cs ∧ ¬ Row W g 5 cs) : WrsIs W' B v l := by
  obtain ⟨its, h1, h2, h3⟩ := h
  exact ⟨its, h1, own_kpc h2 hk (fun g hg cs => (hT g hg cs).1), fun x hx => ⟨(h3 x hx).1, (h3 x hx).2.1, (h3 x hx).2.2.small, (h3 x hx).2.2.short, own_kpc (h3 x hx).2.2.own hk (fun g hg cs => (hT g hg cs).2)⟩⟩
theorem base_step (S : Cr) (j p : Nat) (g : List Wr) (h : S.groups[j]? = some g) : S.ahead (j + 1) p = S.ahead j p ++ ofP g p ∧ S.base (j + 1) p = (ofP g p).getLast?.getD (S.base j p) := by
  have e : S.ahead (j + 1) p = S.ahead j p ++ ofP g p := by
    unfold Cr.ahead
    rw [List.take_add_one, h, List.flatMap_append]
    simp
  refine ⟨e, ?_⟩
  unfold Cr.base
  rw [e, List.getLast?_append]
  cases (ofP g p).getLast? <;> simp
/-- A piece of code, its end asked of once. -/
theorem wpIn_cutR {P : Program} {n : Nat} {c : Code} {Q : Exit → Act → World → Prop} {a : Act} {w : World} (R : Act → World → Prop) (h : c.wpIn Fence.wide n P (fun e a' w' => e = .normal ∧ R a' w') a w) (h2 : ∀ a' w', R a' w' → Q .normal a' w') : c.wpIn Fence.wide n P Q a w :=
  wpIn_mono h (fun e a' w' hh => by obtain ⟨h1, h3⟩ := hh; subst h1; exact h2 _ _ h3)
/-- A piece of code that ends in one way. -/
theorem wp_cutN {P : Program} {c : Code} {Q : Exit → Act → World → Prop} {a : Act} {w : World} (A : Act) (X : World) (h : c.wp P (fun e a' w' => e = .normal ∧ a' = A ∧ w' = X) a w) (h2 : Q .normal A X) : c.wp P Q a w :=
  (wpIn_wide (n := 0)).1 (wpIn_mono ((wpIn_wide (n := 0)).2 h) (fun e a' w' hh => by obtain ⟨h1, h3, h4⟩ := hh; subst h1; subst h3; subst h4; exact h2))
theorem marks_lt {B : Nat} {W : World} : ∀ {ds : List Deferred}, MarksIn B W ds → ∀ d ∈ ds, ∃ D, d = { target := .collected D, args := #[] } ∧ D < W.heap.size
  | [], _, d, hd => by cases hd
  | d0 :: ds, ⟨⟨D, h1, h2, h3, h4⟩, h5⟩, d, hd => by
    rcases List.mem_cons.1 hd with rfl | hd
    · exact ⟨D, h1, (Array.getElem?_eq_some_iff.1 h3).1⟩
    · exact marks_lt h5 d hd
theorem own_cellAt {w : World} {B : Nat} {e : TypeId} {v : Value} {n i : Nat} {xs : List Value} {x : Value} (h : w.ownsRow B e 1 v n xs) (hi : i < n) (hx : xs[i]? = some x) : ∃ g c, v = .slice (some ⟨g, 0, none⟩) n c ∧ w.cell? ⟨g, i, none⟩ = some x := by
  rcases h.2 with ⟨_, h0⟩ | ⟨g', cap, cur, e1, _, hr, h1, h2, h3, h4⟩
  · omega
  · refine ⟨g', cap, e1, ?_⟩
    have h5 : (cur.toList.take (n * 1))[i]? = some x := by rw [h4]; exact hx
    rw [List.getElem?_take, if_pos (by omega)] at h5
    rw [(show Row w g' _ cur from hr).cell]
    simpa using h5
/-- What level's closure reads. -/
structure LvAt (W : World) (B C H L Zs Zp Zk : Nat) (v4 v5 : Value) (vs : List Value) (S : Cr) (k p : Nat) : Prop where
  s : Row W Zs 25 #[.pointer (some ⟨C, 0, none⟩)]
  p : Row W Zp 3 #[.int .i64 p]
  k : Row W Zk 3 #[.int .i64 k]
  st : CrIs W B C H L v4 v5 S
  gv : W.ownsRow B 23 1 v4 S.groups.length vs ∧ ∀ (i : Nat) (g : List Wr), S.groups[i]? = some g → ∃ u, vs[i]? = some u ∧ WrsIs W B u g
section
variable {W W' : World} {B C H L Zs Zp Zk : Nat} {v4 v5 : Value} {vs : List Value} {S : Cr} {k p : Nat}
theorem LvAt.keep (h : LvAt W B C H L Zs Zp Zk v4 v5 vs S k p) (ht : Turns W W' []) : LvAt W' B C H L Zs Zp Zk v4 v5 vs S k p := ⟨ht.row h.s (by simp), ht.row h.p (by simp), ht.row h.k (by simp), h.st.keep ht, own_lone (by decide) h.gv.1 ht (lone_nil _), fun i g hg => by obtain ⟨u, h1, h2⟩ := h.gv.2 i g hg; exact ⟨u, h1, h2.lone ht (lone_nil _)⟩⟩
theorem LvAt.below (h : LvAt W B C H L Zs Zp Zk v4 v5 vs S k p) (hb : Below W.heap.size W W') : LvAt W' B C H L Zs Zp Zk v4 v5 vs S k p := h.keep (Turns.of_below hb [])
end
end Go.Proofs.Ytomigaldomiefaa

namespace Go.Proofs.Ytomigaldomiefaa
open Go.RowKit Go.Shelf
attribute [local go_sem] Oper.semAt_some
attribute [local simp, local go_sem] wide_fn
set_option linter.unusedVariables false
set_option linter.unusedSimpArgs false

theorem take_of_prefix {l a : List (List Nat)} (h : a <+: l) : l.take a.length = a := (List.prefix_iff_eq_take.1 h).symm
theorem ofP_take_prefix (l : List Wr) (p k : Nat) : ofP (l.take k) p <+: ofP l p := by
  unfold ofP
  exact (List.take_prefix k l).filterMap _
set_option maxRecDepth 100000 in
set_option maxHeartbeats 4000000 in
theorem tail16 (n : Nat) (hn : 6 ≤ n) (c : Code) (hc : fromOf 16 Try.f56 = some c) (B Zs Zp Y M m mc p lb : Nat) (T : List Nat) (W : World) (hT : ∀ t ∈ T, t < W.heap.size)
    (gs : List (List Wr)) (hm : m = gs.length) (hmx : m ≤ 2) (J Jx : List (List Nat) → World → Prop) (hJ : OwnFrom W.heap.size J) (hJx : OwnFrom W.heap.size Jx) (pre0 lev : List (List Nat)) (hlev : lev = pre0 ++ gs.flatMap fun g => ofP g p)
    (hY : ∀ pre x W1, x ∈ lev → J pre W1 → pre.length < lev.length → YieldAt Fence.wide (n - 1) Try.prog lb (encT x) W1 fun e W' =>
      (e = .returned (.bool true) ∧ J (pre ++ [x]) W' ∧ KpC T W1 W' ∧ KeepsFrom W.heap.size W1 W') ∨ (e = .returned (.bool false) ∧ Jx (pre ++ [x]) W' ∧ KpC T W1 W' ∧ KeepsFrom W.heap.size W1 W'))
    (u : World) (hu : KpC T W u) (hYT : Y ∉ T) (hRy : Row u Y 97 #[.func (.yield lb) #[] #[]]) (hRp : ∀ V, KpC T u V → V.cell? ⟨Zp, 0, none⟩ = some (.int .i64 p))
    (hMT : M ∉ T) (hMo : ∀ i g, gs[i]? = some g → g.length ≤ 3518437208883 ∧ ∃ A nn cc, u.cell? ⟨M, i, none⟩ = some (.slice A nn cc) ∧ ∀ V, KpC T u V → WrsIs V B (.slice A nn cc) g)
    (hJ0 : J pre0 u) (ds : List Deferred) (hM : MarksIn W.heap.size u ds)
    (u0 u3 u5 u6 u7 u8 u9 u10 u12 u13 u14 u15 u16 u17 u18 u19 u20 u21 u22 u23 u24 u25 u26 u27 u28 u29 u30 u31 u32 u33 u34 u35 u36 u37 u38 u39 u40 u41 u42 u43 u44 u45 u46 u47 u48 u49 u50 u51 u52 u53 u54 u55 u56 u57 u58 u59 u60 u61 u62 u63 u64 u65 u66 u67 u68 u69 u70 u71 u72 u73 u74 u75 u76 u77 u78 u79 u80 u81 u82 u83 u84 u85 u86 u87 u88 u89 u90 u91 u92 u93 u94 u95 u96 u97 u98 u99 u100 u101 u102 u103 u104 u105 u106 : Value) (Q : Exit → Act → World → Prop) (hQn : ∀ a w', MarksIn W.heap.size w' a.defers → J lev w' → Q .normal a w') (hQr : ∀ a w', MarksIn W.heap.size w' a.defers → (∃ i, i ≤ lev.length ∧ Jx (lev.take i) w') → Q .ret a w') :
    c.wp Try.prog Q { tmps := #[u0, .pointer (some ⟨Zs, 0, none⟩), .pointer (some ⟨Zp, 0, none⟩), u3, .pointer (some ⟨Y, 0, none⟩), u5, u6, u7, u8, u9, u10, .slice (some ⟨M, 0, none⟩) m mc, u12, u13, u14, u15, u16, u17, u18, u19, u20, u21, u22, u23, u24, u25, u26, u27, u28, u29, u30, u31, u32, u33, u34, u35, u36, u37, u38, u39, u40, u41, u42, u43, u44, u45, u46, u47, u48, u49, u50, u51, u52, u53, u54, u55, u56, u57, u58, u59, u60, u61, u62, u63, u64, u65, u66, u67, u68, u69, u70, u71, u72, u73, u74, u75, u76, u77, u78, u79, u80, u81, u82, u83, u84, u85, u86, u87, u88, u89, u90, u91, u92, u93, u94, u95, u96, u97, u98, u99, u100, u101, u102, u103, u104, u105, u106], defers := ds } u := by
  unfold fromOf Try.f56 at hc
  simp only [Option.bind, codeFrom, Nat.reduceEqDiff, if_true, if_false, ite_false, ite_true, Option.or, Option.some.injEq] at hc
  subst hc
  dsimp only
  have HT := Lib.hid hT
  have HJ := Lib.hid hJ
  have HJx := Lib.hid hJx
  have HLv := Lib.hid hlev
  have HY := Lib.hid hY
  have HU := Lib.hid hu
  have HRy := Lib.hid hRy
  have HRp := Lib.hid hRp
  have HMo := Lib.hid hMo
  have HMn := Lib.hid (And.intro hMT hYT)
  have HJ0 := Lib.hid hJ0
  have HM := Lib.hid hM
  have HQn := Lib.hid hQn
  have HQr := Lib.hid hQr
  have HMl := Lib.hid hm
  clear hT hJ hJx hlev hY hu hRy hRp hMo hMT hYT hJ0 hM hQn hQr hm
  go_wp2
  refine wp_loop (fun a wr => ∃ (j : Nat) (x13 x14 x95 x96 x97 x98 x99 x100 x101 x102 x103 x104 x105 x106 : Value) (ds1 : List Deferred), a = { tmps := #[u0, .pointer (some ⟨Zs, 0, none⟩), .pointer (some ⟨Zp, 0, none⟩), u3, .pointer (some ⟨Y, 0, none⟩), u5, u6, u7, u8, u9, u10, .slice (some ⟨M, 0, none⟩) m mc, u12, x13, x14, u15, u16, u17, u18, u19, u20, u21, u22, u23, u24, u25, u26, u27, u28, u29, u30, u31, u32, u33, u34, u35, u36, u37, u38, u39, u40, u41, u42, u43, u44, u45, u46, u47, u48, u49, u50, u51, u52, u53, u54, u55, u56, u57, u58, u59, u60, u61, u62, u63, u64, u65, u66, u67, u68, u69, u70, u71, u72, u73, u74, u75, u76, u77, u78, u79, u80, u81, u82, u83, u84, u85, u86, u87, u88, u89, u90, u91, .slice (some ⟨M, 0, none⟩) m mc, .int .i64 m, .int .i64 (j : Int), x95, x96, x97, x98, x99, x100, x101, x102, x103, x104, x105, x106], defers := ds1 } ∧ j ≤ m ∧ KpC T u wr ∧ J (pre0 ++ (gs.take j).flatMap fun g => ofP g p) wr ∧ MarksIn W.heap.size wr ds1) (fun a _ => m - (intOf (a.tmps.getD 94 undef)).toNat) ?start ?round
  case start => exact ⟨0, _, _, _, _, _, _, _, _, _, _, _, _, _, _, ds, rfl, by omega, KpC.of_below (Below.refl _ _), by simpa using HJ0.out, HM.out⟩
  case round =>
    rintro a wr ⟨j, x13, x14, x95, x96, x97, x98, x99, x100, x101, x102, x103, x104, x105, x106, ds1, rfl, hj, hK, hJj, hMj⟩
    have HK := Lib.hid hK
    have HJj := Lib.hid hJj
    have HMj := Lib.hid hMj
    clear hK hJj hMj
    by_cases hjm : j < m
    · obtain ⟨g, hg⟩ : ∃ g, gs[j]? = some g := ⟨_, List.getElem?_eq_getElem (by rw [← HMl.out]; omega)⟩
      obtain ⟨hgl, A, nn, cc, hcell, hwu⟩ := HMo.out j g hg
      have HGl := Lib.hid hgl
      have HWu := Lib.hid hwu
      have hcell := HK.out.cell hcell HMn.out.1
      have e2 := HRp.out wr HK.out
      have HOf := Lib.hid (of_any A nn cc p wr)
      have HTk : Hid ((gs.take (j + 1)).flatMap (fun g => ofP g p) = (gs.take j).flatMap (fun g => ofP g p) ++ ofP g p) := by
        unfold Hid
        rw [List.take_add_one, hg, List.flatMap_append]; simp
      have HPx : Hid (∃ rest, lev = (pre0 ++ (gs.take j).flatMap fun g => ofP g p) ++ ofP g p ++ rest) := by
        refine ⟨(gs.drop (j + 1)).flatMap fun g => ofP g p, ?_⟩
        have h1 := HTk.out
        rw [HLv.out, List.append_assoc pre0, ← h1, List.append_assoc, ← List.flatMap_append, List.take_append_drop]
      have HXm : Hid (∀ x, x ∈ ofP g p → x ∈ lev) := fun x hx => by
        obtain ⟨rest, e⟩ := HPx.out
        rw [e]
        exact List.mem_append_left _ (List.mem_append_right _ hx)
      clear hgl hwu hg
      go_wp2_with fail
      refine HOf.out.mono ?_
      rintro e w2 ⟨rfl, hw2⟩
      clear HOf
      go_wp2_with fail
      rw [← hw2]
      have HB2 : Hid (Below wr.heap.size wr w2) := by unfold Hid; rw [hw2]; (repeat (first | (with_reducible refine Below.drew ?_) | (with_reducible refine below_drewN0 ?_ _) | ((with_reducible refine Below.setCell ?_ ?_ _); rotate_left; focus (first | omega | (simp; done) | (simp; omega) | (simp at *; omega))) | ((with_reducible refine Below.alloc ?_ ?_ _); rotate_left; focus (first | omega | (simp; done) | (simp; omega) | (simp at *; omega))) | (with_reducible exact Below.refl _ _)))
      have HK2 : Hid (KpC T u w2) := HK.out.trans (KpC.of_below HB2.out)
      have HJ2 : Hid (J (pre0 ++ (gs.take j).flatMap fun g => ofP g p) w2) := ownFrom_later_world HJ.out HJj.out HB2.out
      have HM2 : Hid (MarksIn W.heap.size w2 ds1) := HMj.out.mono fun D _ _ hD => (HB2.out.block D (Array.getElem?_eq_some_iff.1 hD).1).trans hD
      have HMl2 : Hid (∀ (d : Deferred), d ∈ ds1 → ∃ D, d = { target := .collected D, args := #[] } ∧ D < w2.heap.size) := marks_lt HM2.out
      have HR1 : Hid (Row w2 wr.heap.size 23 #[.slice A nn cc]) := by unfold Hid; rw [hw2]; exact (Row.fresh wr _ _).alloc _
      have HR2 : Hid (Row w2 (wr.heap.size + 1) 3 #[.int .i64 p]) := by
        unfold Hid; rw [hw2]
        have := Row.fresh (wr.alloc (.cells #[.slice A nn cc] 23)) 3 #[.int .i64 p]
        rw [World.size_alloc] at this
        exact this
      have hWw : W.heap.size ≤ wr.heap.size := Nat.le_trans HU.out.size HK.out.size
      have HWs : Hid (W.heap.size ≤ w2.heap.size) := Nat.le_trans hWw HB2.out.size
      have HTn : Hid (∀ y, W.heap.size ≤ y → y ∉ T) := fun y hy hm => by have := HT.out y hm; omega
      have hnn : nn = g.length := (HWu.out u (KpC.of_below (Below.refl _ _))).at0.1
      have HOfA : Hid (∀ V, KpC T w2 V → OfAt V wr.heap.size (wr.heap.size + 1) cc p A g) := fun V hV => by
        refine ⟨?_, ?_, (HWu.out V (HK2.out.trans hV)).at0.2⟩
        · rw [← hnn]; exact (hV.row HR1.out (HTn.out _ hWw)).cell 0
        · exact (hV.row HR2.out (HTn.out _ (by omega))).cell 0
      clear hw2 hcell e2 HB2
      refine (wpIn_wide (n := n)).1 ?_
      apply wpIn_range_ownA rfl (by omega) (gf := 70) (lb := #[.pointer (some ⟨wr.heap.size, 0, none⟩), .pointer (some ⟨wr.heap.size + 1, 0, none⟩)]) rfl trivial (enters_of Try.func70 (by kernel_rfl) rfl)
        (hseq := of1_own (n - 1) (by omega) wr.heap.size (wr.heap.size + 1) cc p A g HGl.out w2 (Kp := KpC T) (fun _ _ h => KpC.of_below h) (fun h h' => KpC.trans h h') HOfA.out)
        (hKr := fun V => KpC.of_below (Below.refl _ _)) (hKt := fun h h' => KpC.trans h h') (hKb := fun V l r o' _ hl => KpC.put hl) (hb0 := Below.refl _ _) (hps := fun _ => rfl)
        (I := fun pre V => (J (pre0 ++ ((gs.take j).flatMap fun g => ofP g p) ++ pre) V ∧ KpC T u V) ∧ MarksIn W.heap.size V ds1) (Ix := fun c pre V => c = .ret ∧ Jx (pre0 ++ ((gs.take j).flatMap fun g => ofP g p) ++ pre) V ∧ MarksIn W.heap.size V ds1)
      case hI =>
        rintro s V V' row ⟨⟨h1, h2⟩, h3⟩ hg hr
        refine ⟨⟨HJ.out _ V V' row h1 hg (fun r e => ⟨by have := (hr r e).1; have := HWs.out; omega, (hr r e).2⟩), ⟨Nat.le_trans h2.size hg.size, fun k o hn hk ho => ?_⟩⟩, h3.mono fun D _ hm hD => ?_⟩
        · have h4 := h2.same k o hn hk ho
          exact (hg.block k (Array.getElem?_eq_some_iff.1 h4).1 (fun e => by have := (hr k e.symm).1; have := HK2.out.size; have := (Array.getElem?_eq_some_iff.1 hk).1; omega)).trans h4
        · obtain ⟨D', e, hlt⟩ := HMl2.out _ hm
          obtain rfl : D = D' := by injection e with e _; injection e
          exact (hg.block D (Array.getElem?_eq_some_iff.1 hD).1 (fun e => by have := (hr D e.symm).1; omega)).trans hD
      case hIx =>
        rintro c s V V' row ⟨h0, h1, h3⟩ hg hr
        refine ⟨h0, HJx.out _ V V' row h1 hg (fun r e => ⟨by have := (hr r e).1; have := HWs.out; omega, (hr r e).2⟩), h3.mono fun D _ hm hD => ?_⟩
        obtain ⟨D', e, hlt⟩ := HMl2.out _ hm
        obtain rfl : D = D' := by injection e with e _; injection e
        exact (hg.block D (Array.getElem?_eq_some_iff.1 hD).1 (fun e => by have := (hr D e.symm).1; omega)).trans hD
      case h0 => exact ⟨⟨by rw [List.append_nil]; exact HJ2.out, HK2.out⟩, HM2.out⟩
      case hassign =>
        intro l pre x V hi _ _
        gi_wp2
        exact ⟨rfl, trivial⟩
      case hbody =>
        rintro l pre x V ⟨⟨hJv, hKv⟩, hMv⟩ hxm hlt
        have HKv := Lib.hid hKv
        have HMv := Lib.hid hMv
        have cy := (hKv.row HRy.out HMn.out.2).cell 0
        simp only [List.getElem?_toArray, List.getElem?_cons_zero, List.getElem?_cons_succ] at cy
        have hlen : (pre0 ++ ((gs.take j).flatMap fun g => ofP g p) ++ pre).length < lev.length := by
          obtain ⟨rest, e⟩ := HPx.out
          rw [e]; simp only [List.length_append] at hlt ⊢; omega
        obtain ⟨fn, tmps, assign, body, hy, hR⟩ := yieldAt_wide (l' := l) (m := n - 1 - 1 - 1) (HY.out _ x V (HXm.out x hxm) hJv hlen)
        have HR := Lib.hid hR
        try dsimp only [encT] at hy
        clear hJv hKv hMv hlen hR
        have hKt : ∀ V', KpC T V V' → KpC T u V' := fun V' h => HKv.out.trans h
        have hMt : ∀ V', KpC T V V' → MarksIn W.heap.size V' ds1 := fun V' h => HMv.out.mono fun D hD _ h0 => h.same D _ (HTn.out D hD) h0 rfl
        gi_wp2
        refine ⟨fun _ => by omega, HR.out.mono ?_⟩
        rintro e W3 (⟨rfl, hJ3, hk3, hf3⟩ | ⟨rfl, hJ3, hk3, hf3⟩)
        · have HF : Hid (KeepsFrom w2.heap.size V W3 ∧ KpC T V W3 ∧ (J (pre0 ++ ((gs.take j).flatMap fun g => ofP g p) ++ (pre ++ [x])) W3 ∧ KpC T u W3) ∧ MarksIn W.heap.size W3 ds1) := ⟨keepsFrom_mono hf3 HWs.out, hk3, ⟨by rw [← List.append_assoc]; exact hJ3, hKt _ hk3⟩, hMt _ hk3⟩
          clear hJ3 hk3 hf3 hy hKt hMt cy
          gi_wp2
          exact HF.out
        · have HF : Hid (KeepsFrom w2.heap.size V W3 ∧ KpC T V W3 ∧ Jx (pre0 ++ ((gs.take j).flatMap fun g => ofP g p) ++ (pre ++ [x])) W3 ∧ MarksIn W.heap.size W3 ds1) := ⟨keepsFrom_mono hf3 HWs.out, hk3, by rw [← List.append_assoc]; exact hJ3, hMt _ hk3⟩
          clear hJ3 hk3 hf3 hy hKt hMt cy
          gi_wp2
          exact ⟨HF.out.1, HF.out.2.1, rfl, HF.out.2.2.1, HF.out.2.2.2⟩
      case hdone =>
        rintro D ys V hD rfl ⟨⟨hJv, hKv⟩, hMv⟩ hDf
        have HF : Hid (J (pre0 ++ (gs.take (j + 1)).flatMap fun g => ofP g p) V ∧ MarksIn W.heap.size V ({ target := .collected D, args := #[] } :: ds1) ∧ KpC T u V) :=
          ⟨by rw [HTk.out, ← List.append_assoc]; exact hJv, hMv.push (by have := HWs.out; omega) hDf (fun hm => by obtain ⟨D', e, hlt⟩ := HMl2.out _ hm; injection e with e _; injection e with e; omega), hKv⟩
        clear hJv hKv hMv hDf
        go_wp2
        exact ⟨⟨j + 1, _, _, _, _, _, _, _, _, _, _, _, _, _, _, _, rfl, by omega, HF.out.2.2, HF.out.1, HF.out.2.1⟩, by simp [intOf]; omega⟩
      case hstop =>
        rintro D c pre V hD ⟨k', hk', rfl⟩ ⟨rfl, hJv, hMv⟩ hDf
        have HF : Hid (MarksIn W.heap.size V ({ target := .collected D, args := #[] } :: ds1)) := hMv.push (by have := HWs.out; omega) hDf (fun hm => by obtain ⟨D', e, hlt⟩ := HMl2.out _ hm; injection e with e _; injection e with e; omega)
        have HI : Hid (∃ i, i ≤ lev.length ∧ Jx (lev.take i) V) := by
          obtain ⟨rest, e⟩ := HPx.out
          obtain ⟨r2, e2⟩ := ofP_take_prefix g p k'
          have hp : pre0 ++ ((gs.take j).flatMap fun g => ofP g p) ++ ofP (g.take k') p <+: lev := ⟨r2 ++ rest, by rw [e, ← e2]; simp only [List.append_assoc]⟩
          exact ⟨_, hp.length_le, by rw [take_of_prefix hp]; exact hJv⟩
        clear hJv hMv hDf
        refine wpIn_wide.2 ?_
        go_wp2
        exact HQr.out _ _ HF.out HI.out
    · obtain rfl : j = m := by omega
      have hall : gs.take j = gs := by rw [HMl.out]; exact List.take_length
      have HF := HJj.out
      rw [hall, ← HLv.out] at HF
      have HF := Lib.hid HF
      go_wp2
      exact HQn.out _ _ HMj.out HF.out
end Go.Proofs.Ytomigaldomiefaa

namespace Go.Proofs.Ytomigaldomiefaa
open Go.RowKit Go.Shelf
attribute [local go_sem] Oper.semAt_some
attribute [local simp, local go_sem] wide_fn
set_option linter.unusedVariables false
set_option linter.unusedSimpArgs false

theorem wp_seqR {P : Program} {x y : Code} {Q : Exit → Act → World → Prop} {a : Act} {w : World} (R : Act → World → Prop) (h : x.wp P (Exit.then R Q) a w) (h2 : ∀ a' w', R a' w' → y.wp P Q a' w') : (Code.seq x y).wp P Q a w :=
  wp_seq (wp_mono h (fun e a' w' hh => by cases e with
    | normal => exact h2 _ _ hh
    | _ => exact hh))
theorem wp_seqA {P : Program} {x y : Code} {Q : Exit → Act → World → Prop} {a : Act} {w : World} (A : Act) (X : World) (h : x.wp P (Exit.then (fun a' w' => a' = A ∧ w' = X) Q) a w) (h2 : y.wp P Q A X) : (Code.seq x y).wp P Q a w :=
  wp_seqR _ h (fun a' w' hh => by rw [hh.1, hh.2]; exact h2)
set_option maxRecDepth 100000 in
set_option maxHeartbeats 4000000 in
theorem tail13 (n : Nat) (hn : 6 ≤ n) (c : Code) (hc : fromOf 13 Try.f56 = some c) (B C H L Zs Zp Zk Y lb : Nat) (v4 v5 : Value) (vs : List Value) (S : Cr) (k p : Nat) (T : List Nat) (W : World) (hT : ∀ t ∈ T, t < W.heap.size)
    (hC : ∀ V, KpC T W V → LvAt V B C H L Zs Zp Zk v4 v5 vs S k p)
    (J Jx : List (List Nat) → World → Prop) (hJ : OwnFrom W.heap.size J) (hJx : OwnFrom W.heap.size Jx) (pre0 lev : List (List Nat)) (hlev : lev = pre0 ++ (ofP S.fly p ++ ofP (S.groups.getD k []) p))
    (hY : ∀ pre x W1, x ∈ lev → J pre W1 → pre.length < lev.length → YieldAt Fence.wide (n - 1) Try.prog lb (encT x) W1 fun e W' =>
      (e = .returned (.bool true) ∧ J (pre ++ [x]) W' ∧ KpC T W1 W' ∧ KeepsFrom W.heap.size W1 W') ∨ (e = .returned (.bool false) ∧ Jx (pre ++ [x]) W' ∧ KpC T W1 W' ∧ KeepsFrom W.heap.size W1 W'))
    (u : World) (hu : KpC T W u) (hYT : Y ∉ T) (hRy : Row u Y 97 #[.func (.yield lb) #[] #[]])
    (hJ0 : J pre0 u) (ds : List Deferred) (hM : MarksIn W.heap.size u ds)
    (u0 u5 u6 u7 u8 u9 u10 u11 u12 u13 u14 u15 u16 u17 u18 u19 u20 u21 u22 u23 u24 u25 u26 u27 u28 u29 u30 u31 u32 u33 u34 u35 u36 u37 u38 u39 u40 u41 u42 u43 u44 u45 u46 u47 u48 u49 u50 u51 u52 u53 u54 u55 u56 u57 u58 u59 u60 u61 u62 u63 u64 u65 u66 u67 u68 u69 u70 u71 u72 u73 u74 u75 u76 u77 u78 u79 u80 u81 u82 u83 u84 u85 u86 u87 u88 u89 u90 u91 u92 u93 u94 u95 u96 u97 u98 u99 u100 u101 u102 u103 u104 u105 u106 : Value) (Q : Exit → Act → World → Prop) (hQn : ∀ a w', MarksIn W.heap.size w' a.defers → J lev w' → Q .normal a w') (hQr : ∀ a w', MarksIn W.heap.size w' a.defers → (∃ i, i ≤ lev.length ∧ Jx (lev.take i) w') → Q .ret a w') :
    c.wp Try.prog Q { tmps := #[u0, .pointer (some ⟨Zs, 0, none⟩), .pointer (some ⟨Zp, 0, none⟩), .pointer (some ⟨Zk, 0, none⟩), .pointer (some ⟨Y, 0, none⟩), u5, u6, u7, u8, u9, u10, u11, u12, u13, u14, u15, u16, u17, u18, u19, u20, u21, u22, u23, u24, u25, u26, u27, u28, u29, u30, u31, u32, u33, u34, u35, u36, u37, u38, u39, u40, u41, u42, u43, u44, u45, u46, u47, u48, u49, u50, u51, u52, u53, u54, u55, u56, u57, u58, u59, u60, u61, u62, u63, u64, u65, u66, u67, u68, u69, u70, u71, u72, u73, u74, u75, u76, u77, u78, u79, u80, u81, u82, u83, u84, u85, u86, u87, u88, u89, u90, u91, u92, u93, u94, u95, u96, u97, u98, u99, u100, u101, u102, u103, u104, u105, u106], defers := ds } u := by
  unfold fromOf Try.f56 at hc
  simp only [Option.bind, codeFrom, Nat.reduceEqDiff, if_true, if_false, ite_false, ite_true, Option.or, Option.some.injEq] at hc
  subst hc
  dsimp only
  have HT := Lib.hid hT
  have HC := Lib.hid hC
  have HJ := Lib.hid hJ
  have HJx := Lib.hid hJx
  have HLv := Lib.hid hlev
  have HY := Lib.hid hY
  have HU := Lib.hid hu
  have HRy := Lib.hid hRy
  have HYT := Lib.hid hYT
  have HJ0 := Lib.hid hJ0
  have HM := Lib.hid hM
  have HQn := Lib.hid hQn
  have HQr := Lib.hid hQr
  have hL := hC u hu
  obtain ⟨n5, A5, c5, rfl⟩ := hL.st.fly.shape
  have e1 := hL.s.cell 0
  have e2 := hL.st.row.cell 5
  simp only [List.getElem?_toArray, List.getElem?_cons_zero, List.getElem?_cons_succ] at e1 e2
  obtain ⟨M, hMe⟩ : ∃ M, M = u.heap.size := ⟨_, rfl⟩
  obtain ⟨u1, hu1⟩ : ∃ u1, u1 = u.alloc (.cells #[.slice A5 n5 c5] 23) := ⟨_, rfl⟩
  have HB1 : Hid (Below u.heap.size u u1) := by unfold Hid; rw [hu1]; (repeat (first | (with_reducible refine Below.drew ?_) | (with_reducible refine below_drewN0 ?_ _) | ((with_reducible refine Below.setCell ?_ ?_ _); rotate_left; focus (first | omega | (simp; done) | (simp; omega) | (simp at *; omega))) | ((with_reducible refine Below.alloc ?_ ?_ _); rotate_left; focus (first | omega | (simp; done) | (simp; omega) | (simp at *; omega))) | (with_reducible exact Below.refl _ _)))
  have HK1 : Hid (KpC T W u1) := hu.trans (KpC.of_below HB1.out)
  have HR1 : Hid (Row u1 M 23 #[.slice A5 n5 c5]) := by unfold Hid; rw [hu1, hMe]; exact Row.fresh _ _ _
  have HMW : Hid (W.heap.size ≤ M) := by unfold Hid; rw [hMe]; exact hu.size
  have HL1 := hC u1 HK1.out
  have f1 := HL1.s.cell 0
  have f2 := HL1.st.row.cell 4
  have f3 := HL1.k.cell 0
  obtain ⟨A4, c4, rfl, _, _⟩ := own_shape HL1.gv.1
  simp only [List.getElem?_toArray, List.getElem?_cons_zero, List.getElem?_cons_succ] at f1 f2 f3
  obtain ⟨gn, hgn⟩ : ∃ gn, gn = S.groups.length := ⟨_, rfl⟩
  have HGn := Lib.hid hgn
  have HMe := Lib.hid hMe
  rw [← hgn] at f2
  have HF1 := Lib.hid f1
  have HF2 := Lib.hid f2
  have HF3 := Lib.hid f3
  clear hMe hgn hT hC hJ hJx hlev hY hu hRy hYT hJ0 hM hQn hQr hL HL1 f1 f2 f3
  obtain ⟨R, hR⟩ : ∃ R : Act → World → Prop, R = fun a' w' => ∃ (M m mc : Nat) (gs : List (List Wr)) (x70 x71 x72 x73 x74 x75 x76 x77 x78 x79 x80 x81 x82 x83 x84 x85 x86 x87 x88 x89 x90 x91 : Value), a' = { tmps := #[u0, .pointer (some ⟨Zs, 0, none⟩), .pointer (some ⟨Zp, 0, none⟩), .pointer (some ⟨Zk, 0, none⟩), .pointer (some ⟨Y, 0, none⟩), u5, u6, u7, u8, u9, u10, .slice (some ⟨M, 0, none⟩) m mc, u12, u13, u14, u15, u16, u17, u18, u19, u20, u21, u22, u23, u24, u25, u26, u27, u28, u29, u30, u31, u32, u33, u34, u35, u36, u37, u38, u39, u40, u41, u42, u43, u44, u45, u46, u47, u48, u49, u50, u51, u52, u53, u54, u55, u56, u57, u58, u59, u60, u61, u62, u63, u64, u65, u66, u67, u68, u69, x70, x71, x72, x73, x74, x75, x76, x77, x78, x79, x80, x81, x82, x83, x84, x85, x86, x87, x88, x89, x90, x91, u92, u93, u94, u95, u96, u97, u98, u99, u100, u101, u102, u103, u104, u105, u106], defers := ds } ∧ (m = gs.length ∧ m ≤ 2 ∧ (ofP S.fly p ++ ofP (S.groups.getD k []) p) = gs.flatMap fun g => ofP g p) ∧ KpC T W w' ∧ Below u.heap.size u w' ∧ M ∉ T ∧
    ∀ i g, gs[i]? = some g → g.length ≤ 3518437208883 ∧ ∃ A nn cc, w'.cell? ⟨M, i, none⟩ = some (.slice A nn cc) ∧ ∀ V, KpC T w' V → WrsIs V B (.slice A nn cc) g := ⟨_, rfl⟩
  have HRi : Hid (∀ (M m mc : Nat) (gs : List (List Wr)) (x70 x71 x72 x73 x74 x75 x76 x77 x78 x79 x80 x81 x82 x83 x84 x85 x86 x87 x88 x89 x90 x91 : Value) (w' : World), (m = gs.length ∧ m ≤ 2 ∧ (ofP S.fly p ++ ofP (S.groups.getD k []) p) = gs.flatMap fun g => ofP g p) → KpC T W w' → Below u.heap.size u w' → M ∉ T →
    (∀ i g, gs[i]? = some g → g.length ≤ 3518437208883 ∧ ∃ A nn cc, w'.cell? ⟨M, i, none⟩ = some (.slice A nn cc) ∧ ∀ V, KpC T w' V → WrsIs V B (.slice A nn cc) g) → R { tmps := #[u0, .pointer (some ⟨Zs, 0, none⟩), .pointer (some ⟨Zp, 0, none⟩), .pointer (some ⟨Zk, 0, none⟩), .pointer (some ⟨Y, 0, none⟩), u5, u6, u7, u8, u9, u10, .slice (some ⟨M, 0, none⟩) m mc, u12, u13, u14, u15, u16, u17, u18, u19, u20, u21, u22, u23, u24, u25, u26, u27, u28, u29, u30, u31, u32, u33, u34, u35, u36, u37, u38, u39, u40, u41, u42, u43, u44, u45, u46, u47, u48, u49, u50, u51, u52, u53, u54, u55, u56, u57, u58, u59, u60, u61, u62, u63, u64, u65, u66, u67, u68, u69, x70, x71, x72, x73, x74, x75, x76, x77, x78, x79, x80, x81, x82, x83, x84, x85, x86, x87, x88, x89, x90, x91, u92, u93, u94, u95, u96, u97, u98, u99, u100, u101, u102, u103, u104, u105, u106], defers := ds } w') := fun M m mc gs x70 x71 x72 x73 x74 x75 x76 x77 x78 x79 x80 x81 x82 x83 x84 x85 x86 x87 x88 x89 x90 x91 w' h1 h2 h3 h4 h5 => by
    rw [hR]; exact ⟨M, m, mc, gs, x70, x71, x72, x73, x74, x75, x76, x77, x78, x79, x80, x81, x82, x83, x84, x85, x86, x87, x88, x89, x90, x91, rfl, h1, h2, h3, h4, h5⟩
  apply wp_seqA (X := u1)
  case h =>
    go_wp2
    exact rfl
  rw [← HMe.out]
  clear e1 e2
  refine wp_seqR R ?_ ?_
  case refine_2 =>
    rw [hR]
    rintro a' w' ⟨M', m, mc, gs, x70, x71, x72, x73, x74, x75, x76, x77, x78, x79, x80, x81, x82, x83, x84, x85, x86, x87, x88, x89, x90, x91, rfl, ⟨h1, h2, h3⟩, h4, hB4, h5, h6⟩
    exact tail16 n hn _ (by kernel_rfl) B Zs Zp Y M' m mc p lb T W HT.out gs h1 h2 J Jx HJ.out HJx.out pre0 lev (by rw [HLv.out, h3]) HY.out w' h4 HYT.out (HRy.out.below hB4 HRy.out.lt) (fun V hV => (HC.out V (h4.trans hV)).p.cell 0) h5 h6
      (ownFrom_later_world HJ.out HJ0.out hB4) ds (HM.out.mono fun D hD _ h0 => (hB4.block D (Array.getElem?_eq_some_iff.1 h0).1).trans h0) _ _ _ _ _ _ _ _ _ _ _ _ _ _ _ _ _ _ _ _ _ _ _ _ _ _ _ _ _ _ _ _ _ _ _ _ _ _ _ _ _ _ _ _ _ _ _ _ _ _ _ _ _ _ _ _ _ _ _ _ _ _ _ _ _ _ _ _ _ _ _ _ _ _ _ _ _ _ _ _ _ _ _ _ _ _ _ _ _ _ _ _ _ _ _ _ _ _ _ _ _ _ _ Q HQn.out HQr.out
  case refine_1 =>
    have f1 := HF1.out
    have f2 := HF2.out
    have f3 := HF3.out
    clear hR hu1
    go_wp2
    refine wp_region_noPanic ?_
    go_quiet (fail)
    refine NoPanic.normal ?_
    have HB2 : Hid (Below u.heap.size u (u1.drewN nq)) := below_drewN0 HB1.out nq
    have HK2 : Hid (KpC T W (u1.drewN nq)) := HU.out.trans (KpC.of_below HB2.out)
    have HR2 : Hid (Row (u1.drewN nq) M 23 #[.slice A5 n5 c5]) := HR1.out
    generalize u1.drewN nq = u2 at *
    clear f1 f2 f3 HF1 HF2 HF3 HR1 HB1
    have HMT : Hid (M ∉ T) := fun hm => by have := HT.out M hm; have := HMW.out; omega
    have HG0 : Hid (∀ V, KpC T u2 V → WrsIs V B (.slice A5 n5 c5) S.fly) := fun V hV => (HC.out V (HK2.out.trans hV)).st.fly
    have HL0 : Hid (S.fly.length ≤ 3518437208883) := (HC.out u2 HK2.out).st.few.2.2
    by_cases hkn : k < gn
    · obtain ⟨g, hg⟩ : ∃ g, S.groups[k]? = some g := ⟨_, List.getElem?_eq_getElem (by rw [← HGn.out]; exact hkn)⟩
      obtain ⟨vk, hvk, hwk⟩ := (HC.out u2 HK2.out).gv.2 k g hg
      obtain ⟨nk, Ak, ck, rfl⟩ := hwk.shape
      have hkg : k < S.groups.length := by rw [← HGn.out]; exact hkn
      obtain ⟨gA, c', e4, hcell⟩ := own_cellAt (HC.out u HU.out).gv.1 hkg hvk
      injection e4 with e4 _ _
      subst e4
      have hKt : ∀ X : World, Turns u2 X [M] → KpC T W X := fun X h => ⟨Nat.le_trans HK2.out.size h.size, fun y o hn hy ho => by
        have h1 := HK2.out.same y o hn hy ho
        refine (h.block y (Array.getElem?_eq_some_iff.1 h1).1 (fun hm => ?_)).trans h1
        rw [List.mem_singleton.1 hm] at hy
        have := (Array.getElem?_eq_some_iff.1 hy).1; have := HMW.out; omega⟩
      have k1 : ∀ t : Kept u2 [M], t.u.cell? ⟨Zs, 0, none⟩ = some (.pointer (some ⟨C, 0, none⟩)) := fun t => (HC.out _ (hKt _ t.h)).s.cell 0
      have k2 : ∀ t : Kept u2 [M], t.u.cell? ⟨C, 4, none⟩ = some (.slice (some ⟨gA, 0, none⟩) S.groups.length c4) := fun t => (HC.out _ (hKt _ t.h)).st.row.cell 4
      have k3 : ∀ t : Kept u2 [M], t.u.cell? ⟨Zk, 0, none⟩ = some (.int .i64 k) := fun t => (HC.out _ (hKt _ t.h)).k.cell 0
      have k4 : ∀ t : Kept u2 [M], t.u.cell? ⟨gA, k, none⟩ = some (.slice Ak nk ck) := fun t => by
        obtain ⟨g', c', e, h⟩ := own_cellAt (HC.out _ (hKt _ t.h)).gv.1 hkg hvk
        injection e with e _ _; injection e with e; injection e with e _ _; subst e; exact h
      have HKt := Lib.hid hKt
      have HVk := Lib.hid hvk
      have HG := Lib.hid hg
      rw [← HGn.out] at k2
      have HO2 : Hid (u2.ownsRow M 23 1 (.slice (some ⟨M, 0, none⟩) 1 1) 1 [.slice A5 n5 c5]) := ⟨rfl, .inr ⟨M, 1, _, rfl, Nat.le_refl _, HR2.out, Nat.le_refl _, by simp [maxLen], rfl, rfl⟩⟩
      clear hKt hvk hg hcell hkg hwk
      obtain ⟨i0, hi, hz0, hz1, hz2⟩ := info_parts grp_info
      obtain ⟨u3, hu3⟩ : ∃ u3, u3 = (u2.alloc (.cells #[.slice Ak nk ck] 23)).drew := ⟨_, rfl⟩
      have HB3 : Hid (Below u2.heap.size u2 u3) := by unfold Hid; rw [hu3]; (repeat (first | (with_reducible refine Below.drew ?_) | (with_reducible refine below_drewN0 ?_ _) | ((with_reducible refine Below.setCell ?_ ?_ _); rotate_left; focus (first | omega | (simp; done) | (simp; omega) | (simp at *; omega))) | ((with_reducible refine Below.alloc ?_ ?_ _); rotate_left; focus (first | omega | (simp; done) | (simp; omega) | (simp at *; omega))) | (with_reducible exact Below.refl _ _)))
      have HO3 := Lib.hid (own_below HO2.out HB3.out)
      have HS3 : Hid (Src u3 1 (some ⟨u2.heap.size, 0, none⟩) 1 [.slice Ak nk ck]) := by unfold Hid; rw [hu3]; exact (src_new (w := u2) (t := 23) (cs := [.slice Ak nk ck]) (sz := 1) rfl).keep (fun a v h => h)
      have HU3 := Lib.hid hu3
      have HM2 : Hid (M ≤ u2.heap.size) := by have := HR2.out.lt; unfold Hid; omega
      clear hu3
      go_wp2
      refine wp_region_noPanic ?_
      (refine region_kept ([M]) [0, 1, 2, 3, 4, 5, 6, 7] [8, 9, 10] (by kernel_rfl) (by kernel_rfl) (fun _ _ _ _ _ h => h) ?_; simp only [List.filterMap_cons, List.getElem?_cons_zero, List.getElem?_cons_succ, List.filterMap_nil]; (repeat ((show wpQuiet _ _ _ _ (_ :: _) _); go_big_quiet_step (fail))); refine wpQuiet_nil ?_)
      clear k1 k2 k3 k4
      refine wpSeqS_step ?_
      go_wp2_with fail
      rw [← HU3.out]
      refine outQ_normal (Turns.of_below HB3.out _) ?_
      refine wpSeqS_step (wpList_append_src _ rfl (.tmp 82) (.tmp 90) 35 rfl M 23 i0 _ 1 24 Try.underlying35 hi hz0 hz1 hz2 rfl (by decide) _ 1 [.slice A5 n5 c5] rfl HO3.out (some ⟨u2.heap.size, 0, none⟩) 1 1 _ rfl HS3.out (by intro u hu; rw [List.mem_singleton.1 hu]; rfl) (by unfold maxLen; omega) (by omega) (by have := HM2.out; have := HB3.out.size; omega) ?_)
      intro v6 w6 hown hgrow hat
      obtain ⟨A6, c6, rfl, _, _⟩ := own_shape hown
      have HT6 : Hid (Turns u2 w6 [M]) := (Turns.of_below HB3.out _).trans (turns_own hgrow) (fun k hk => .inl hk)
      refine wpList_nil (outQ_normal HT6.out ?_)
      have HFin : Hid (∃ M', A6 = some ⟨M', 0, none⟩ ∧ M' ∉ T ∧ ∀ i g', [S.fly, g][i]? = some g' → g'.length ≤ 3518437208883 ∧ ∃ A nn cc, w6.cell? ⟨M', i, none⟩ = some (.slice A nn cc) ∧ ∀ V, KpC T w6 V → WrsIs V B (.slice A nn cc) g') := by
        have hK6 := HKt.out _ HT6.out
        obtain ⟨M', c', e6, h0⟩ := own_cellAt hown (i := 0) (by omega) rfl
        injection e6 with e6 _ _
        subst e6
        obtain ⟨M2, c2, e6, h1⟩ := own_cellAt hown (i := 1) (by omega) rfl
        injection e6 with e6 _ _; injection e6 with e6; injection e6 with e6 _ _; subst e6
        have hb := (own_blk hown (k := M') (by simp [blkV, Value.ownBlock])).1
        refine ⟨M', rfl, fun hm => by have := HT.out M' hm; have := HMW.out; omega, fun i g' hg' => ?_⟩
        match i, hg' with
        | 0, hg' =>
          simp at hg'; subst hg'
          exact ⟨HL0.out, A5, n5, c5, h0, fun V hV => (HC.out V (hK6.trans hV)).st.fly⟩
        | 1, hg' =>
          simp at hg'; subst hg'
          refine ⟨(HC.out u2 HK2.out).st.few.2.1 g (List.mem_of_getElem? HG.out), Ak, nk, ck, h1, fun V hV => ?_⟩
          obtain ⟨vk, hvk, hw⟩ := (HC.out V (hK6.trans hV)).gv.2 k g HG.out
          rw [HVk.out] at hvk
          injection hvk with hvk; subst hvk; exact hw
        | i + 2, hg' => simp at hg'
      obtain ⟨M', rfl, hf⟩ := HFin.out
      have HF := Lib.hid hf
      have HB6 : Hid (Below u.heap.size u w6) := HT6.out.below HB2.out HB2.out.size (fun y hy => by rw [List.mem_singleton.1 hy, HMe.out]; exact Nat.le_refl _)
      have HG2 : Hid (ofP S.fly p ++ ofP (S.groups.getD k []) p = [S.fly, g].flatMap fun g => ofP g p) := by
        unfold Hid
        rw [List.getD_eq_getElem?_getD, HG.out]; simp
      clear HFin hf hown hgrow hat HO3 HS3 hi hz0 hz1 hz2
      refine wpSeqS_last ?_
      go_wp2
      exact HRi.out M' 2 c6 [S.fly, g] _ _ _ _ _ _ _ _ _ _ _ _ _ _ _ _ _ _ _ _ _ _ w6 ⟨rfl, by omega, HG2.out⟩ (HKt.out _ HT6.out) HB6.out HF.out.1 HF.out.2
    · have HE : Hid (ofP (S.groups.getD k []) p = []) := by
        unfold Hid
        rw [List.getD_eq_getElem?_getD, List.getElem?_eq_none (by rw [← HGn.out]; omega)]; rfl
      go_wp2
      refine HRi.out M 1 1 [S.fly] _ _ _ _ _ _ _ _ _ _ _ _ _ _ _ _ _ _ _ _ _ _ u2 ⟨rfl, by omega, by rw [HE.out]; simp⟩ HK2.out HB2.out HMT.out (fun i g hg => ?_)
      match i, hg with
      | 0, hg =>
        simp at hg; subst hg
        exact ⟨HL0.out, A5, n5, c5, HR2.out.cell 0, HG0.out⟩
      | i + 1, hg => simp at hg
end Go.Proofs.Ytomigaldomiefaa
