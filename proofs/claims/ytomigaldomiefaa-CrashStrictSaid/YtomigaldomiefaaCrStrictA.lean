/- CrashStrict: its reader, its groups. -/
import Derived.Test.YtomigaldomiefaaCrStrict
namespace Go.Proofs.Ytomigaldomiefaa
open Go.RowKit Go.Shelf Go.MapKept Go.ChangeMaps
attribute [local go_sem] Oper.semAt_some
attribute [local simp, local go_sem] wide_fn
set_option linter.unusedVariables false
set_option linter.unusedSimpArgs false

/-- Writes that lie in a slice of one's own. -/
theorem writes_of_own {w : World} {B c : Nat} {A : Option Addr} {its : List Ws} (h : w.ownsRow B 30 3 (.slice A its.length c) its.length (wrsV its)) (he : ∀ x ∈ its, ArgW w x) : Writes w A its := by
  refine ⟨fun i x hx => ⟨?_, he x (List.mem_of_getElem? hx)⟩⟩
  have hi := (List.getElem?_eq_some_iff.1 hx).1
  rcases h.2 with ⟨_, h0⟩ | ⟨g', cap, cur, e1, _, hr, h1, h2, h3, h4⟩
  · omega
  · injection e1 with e1 _ _
    refine ⟨g', 0, e1, fun j u hu => ?_⟩
    have hj : j < 3 := (List.getElem?_eq_some_iff.1 hu).1
    have h5 : (cur.toList.take (its.length * 3))[i * 3 + j]? = some u := by rw [h4]; exact wrsV_get its i j x u hx hu
    rw [List.getElem?_take, if_pos (by omega)] at h5
    rw [(show Row w g' _ cur from hr).cell, Nat.zero_add]
    simpa using h5
def rdS (one two : Nat) (t : List Nat) : Nat → List Nat := fun p => if p = one then [0, 0] else if p = two then t else []
set_option maxHeartbeats 1000000 in
theorem strict1_any (one two : Nat) (A : Option Addr) (c : Nat) (t : List Nat) (Z1 Z2 Z3 p : Nat) (w : World) (c1 : w.cell? ⟨Z1, 0, none⟩ = some (.int .i64 one)) (c2 : w.cell? ⟨Z2, 0, none⟩ = some (.int .i64 two)) (c3 : w.cell? ⟨Z3, 0, none⟩ = some (.slice A t.length c)) (hd : Cells8 w A t) :
    Calls Try.prog 12 #[.int .i64 p, .pointer (some ⟨Z1, 0, none⟩), .pointer (some ⟨Z2, 0, none⟩), .pointer (some ⟨Z3, 0, none⟩)] w fun e w' => ∃ A c, e = .returned (.slice A (rdS one two t p).length c) ∧ Cells8 w' A (rdS one two t p) ∧ Below w.heap.size w w' := by
  have HD := Lib.hid hd
  by_cases hp : p = one
  · have HE : Hid (rdS one two t p = [0, 0]) := by unfold Hid rdS; rw [if_pos hp]
    subst hp
    clear hd
    generalize t.length = n at *
    go_enter Try.func12, Try.ntmps12
    go_wp2
    go_ret
    refine ⟨some ⟨w.heap.size, 0, none⟩, 2, by rw [HE.out]; rfl, ?_, by (repeat (first | (with_reducible refine Below.drew ?_) | (with_reducible refine below_drewN0 ?_ _) | ((with_reducible refine Below.setCell ?_ ?_ _); rotate_left; focus (first | omega | (simp; done) | (simp; omega) | (simp at *; omega))) | ((with_reducible refine Below.alloc ?_ ?_ _); rotate_left; focus (first | omega | (simp; done) | (simp; omega) | (simp at *; omega))) | (with_reducible exact Below.refl _ _)))⟩
    rw [HE.out]
    exact row_bytes (l := [0, 0]) (Row.fresh w 5 #[.int .u8 0, .int .u8 0])
  · have hp2 : ¬ (p : Int) = one := by omega
    by_cases hq : p = two
    · have HE : Hid (rdS one two t p = t) := by unfold Hid rdS; rw [if_neg hp, if_pos hq]
      subst hq
      obtain ⟨n, hn⟩ : ∃ n, n = t.length := ⟨_, rfl⟩
      have HN := Lib.hid hn
      rw [← hn] at c3
      clear hd hp hn
      go_enter Try.func12, Try.ntmps12
      go_wp2
      go_ret
      exact ⟨A, c, by rw [HE.out, ← HN.out]; rfl, by rw [HE.out]; exact HD.out, Below.refl _ _⟩
    · have HE : Hid (rdS one two t p = []) := by unfold Hid rdS; rw [if_neg hp, if_neg hq]
      have hq2 : ¬ (p : Int) = two := by omega
      generalize t.length = n at *
      clear hd hp hq
      go_enter Try.func12, Try.ntmps12
      go_wp2
      go_ret
      exact ⟨none, 0, by rw [HE.out]; rfl, by rw [HE.out]; exact fun i hi => by simp at hi, Below.refl _ _⟩
theorem strict_reads (one two : Nat) (A : Option Addr) (c : Nat) (t : List Nat) (ht : ∀ u ∈ t, u < 256) (Z1 Z2 Z3 n : Nat) (w : World) (c1 : w.cell? ⟨Z1, 0, none⟩ = some (.int .i64 one)) (c2 : w.cell? ⟨Z2, 0, none⟩ = some (.int .i64 two)) (c3 : w.cell? ⟨Z3, 0, none⟩ = some (.slice A t.length c)) (hd : Cells8 w A t) :
    RdOk w [] n 12 #[.pointer (some ⟨Z1, 0, none⟩), .pointer (some ⟨Z2, 0, none⟩), .pointer (some ⟨Z3, 0, none⟩)] (rdS one two t) :=
  ⟨enters_of Try.func12 (by kernel_rfl) rfl, fun p _ w' hw => strict1_any one two A c t Z1 Z2 Z3 p w' (hw.cell c1 (by simp)) (hw.cell c2 (by simp)) (hw.cell c3 (by simp)) (hd.keep fun a v h => hw.cell h (by simp)), fun p u hu => by
    unfold rdS at hu
    split at hu
    · simp at hu; omega
    · split at hu
      · exact ht u hu
      · cases hu⟩
theorem strict_groups (n0 sz0 : Nat) (w u : World) (hbw : Below w.heap.size w u) (B C H L : Nat) (v4 v5 : Value) (S : Cr) (hC : CrIs u B C H L v4 v5 S) (hwB : w.heap.size ≤ B) (G1 : Nat) (x1 : Ws) (hr1 : Row u G1 30 x1.wr.toArray) (A6 : Option Addr) (c6 B2 : Nat) (its2 : List Ws) (hown : u.ownsRow B2 30 3 (.slice A6 its2.length c6) its2.length (wrsV its2)) (hits : ∀ x ∈ its2, ArgW w x) (hx1 : ArgW w x1) (hlen : its2.length ≤ 1048576) :
    Calls Try.prog 10 #[.pointer (some ⟨C, 0, none⟩), .slice (some ⟨u.heap.size, 0, none⟩) 2 2] (u.alloc (.cells #[.slice (some ⟨G1, 0, none⟩) 1 1, .slice A6 its2.length c6] 23)) fun e w' => (∃ v, e = .returned v) ∧ (∃ v, CrIs w' B C H L v v5 { S with groups := [rightL S.n S.sz [x1], rightL S.n S.sz its2] }) ∧ Turns u w' [C] := by
  have hb1 : Below u.heap.size u (u.alloc (.cells #[.slice (some ⟨G1, 0, none⟩) 1 1, .slice A6 its2.length c6] 23)) := (Below.refl _ _).alloc (Nat.le_refl _) _
  have hG : ∀ wr, Turns (u.alloc (.cells #[.slice (some ⟨G1, 0, none⟩) 1 1, .slice A6 its2.length c6] 23)) wr [C] → ArgG wr (some ⟨u.heap.size, 0, none⟩) [⟨some ⟨G1, 0, none⟩, 1, [x1]⟩, ⟨A6, c6, its2⟩] := fun wr ht => by
    have hbr : Below w.heap.size w wr := ht.below (hbw.trans (hb1.mono hbw.size)) (by have := hbw.size; have := hb1.size; omega) (fun y hy => by rw [List.mem_singleton.1 hy]; exact Nat.le_trans hwB hC.low.1)
    have hrc := hC.row.below hb1 hC.row.lt
    have k1 := ht.row (hr1.below hb1 hr1.lt) (fun hm => Row.ne_type (hr1.below hb1 hr1.lt) hrc (by decide) (List.mem_singleton.1 hm))
    have k2 := ht.own (own_below hown hb1) (fun g hg hm => by
      obtain ⟨_, _, cs, hr⟩ := own_blk (own_below hown hb1) (k := g) (by unfold blkV; rw [hg]; simp)
      exact Row.ne_type hr hrc (by decide) (List.mem_singleton.1 hm))
    have k3 := ht.row (Row.fresh u 23 #[.slice (some ⟨G1, 0, none⟩) 1 1, .slice A6 its2.length c6]) (fun hm => by have := List.mem_singleton.1 hm; have := hC.row.lt; omega)
    refine ⟨fun i g hg => ?_⟩
    match i, hg with
    | 0, hg =>
      simp at hg; subst hg
      refine ⟨⟨_, 0, rfl, k3.cell 0⟩, ⟨fun i x hx => ?_⟩⟩
      cases i with
      | succ i => simp at hx
      | zero =>
        simp at hx; subst hx
        refine ⟨⟨G1, 0, rfl, fun j u hu => ?_⟩, hx1.keep (keep_below hbr)⟩
        rw [k1.cell]
        simpa using hu
    | 1, hg =>
      simp at hg; subst hg
      exact ⟨⟨_, 0, rfl, k3.cell 1⟩, writes_of_own k2 (fun x hx => (hits x hx).keep (keep_below hbr))⟩
    | i + 2, hg => simp at hg
  refine (Cached_any (hC.below hb1) (some ⟨u.heap.size, 0, none⟩) 2 [⟨some ⟨G1, 0, none⟩, 1, [x1]⟩, ⟨A6, c6, its2⟩] (by simp) (by simpa using hlen) hG).mono ?_
  rintro e w' ⟨h1, ⟨v, h2⟩, h3⟩
  exact ⟨h1, ⟨v, h2⟩, (Turns.of_below hb1 [C]).trans h3 (fun k hk => .inl hk)⟩
set_option maxRecDepth 100000 in
set_option maxHeartbeats 4000000 in
theorem strict14 (ops : List Oper) (hops : opsOf 14 Try.f3 = some ops) (one two f0 f1 t0 t1 : Nat) (h1 : one < 31) (h2 : two < 31) (hfb : f0 < 256 ∧ f1 < 256) (htb : t0 < 256 ∧ t1 < 256) (b1 o1 b2 o2 c1 c2 : Nat) (hc1 : 2 ≤ c1) (hc2 : 2 ≤ c2) (Z1 Z2 Z3 B C H L : Nat) (A' : Option Addr) (c' B2 : Nat) (last : List Ws) (w wr : World)
    (HD1 : Hid (Cells8 w (some ⟨b1, o1, none⟩) [f0, f1])) (HD2 : Hid (Cells8 w (some ⟨b2, o2, none⟩) [t0, t1])) (HLa : Hid (∀ x ∈ last, ArgW w x)) (HLl : Hid (last.length ≤ 30)) (HOl : Hid (wr.ownsRow B2 30 3 (.slice A' last.length c') last.length (wrsV last)))
    (HBr : Hid (Below w.heap.size w wr)) (HWB : Hid (w.heap.size ≤ B)) (HCr : Hid (CrIs wr B C H L (.slice none 0 0) (.slice none 0 0) (cr0 31 2)))
    (HU1 : Hid (Row wr Z1 3 #[.int .i64 one])) (HU2 : Hid (Row wr Z2 3 #[.int .i64 two])) (HU3 : Hid (Row wr Z3 22 #[.slice (some ⟨b2, o2, none⟩) 2 c2]))
    (u0 u1 u3 u4 u7 u9 u10 u12 u14 u15 u16 u17 u18 u19 u20 u21 u22 u23 u24 u25 u26 u27 u28 u29 u30 u31 u32 u33 u34 u35 u36 u37 u38 u39 u40 u41 u42 u43 u44 u45 u46 u47 u48 u49 u50 u51 u52 u53 u54 u55 u56 u57 u58 u59 u60 u61 u62 u63 u64 u65 u66 u67 u68 u69 u70 u71 u72 u73 u74 u75 u76 u77 u78 u79 u80 u81 u82 u83 u84 u85 u86 u87 u88 u89 u90 u91 u92 u93 u94 u95 u96 u97 u98 u99 u100 u101 u102 u103 u104 u105 u106 u107 u108 u109 u110 u111 u112 u113 u114 u115 u116 u117 u118 : Value) (Q : Exit → Act → World → Prop)
    (HQ : Hid (∀ (x102 x103 x104 x105 x106 x107 x108 x109 x110 x111 x112 x113 x114 : Value) (wx : World), ((∃ v, CrIs wx B C H L v (.slice none 0 0) { cr0 31 2 with groups := [[(one, [f0, f1])], (two, [t0, t1]) :: rightL 31 2 last] }) ∧ Turns wr wx [C]) → Q .normal { tmps := #[u0, u1, .slice (some ⟨b1, o1, none⟩) 2 c1, u3, u4, .pointer (some ⟨Z1, 0, none⟩), .pointer (some ⟨Z2, 0, none⟩), u7, .pointer (some ⟨Z3, 0, none⟩), u9, u10, .pointer (some ⟨C, 0, none⟩), u12, .slice A' last.length c', u14, u15, u16, u17, u18, u19, u20, u21, u22, u23, u24, u25, u26, u27, u28, u29, u30, u31, u32, u33, u34, u35, u36, u37, u38, u39, u40, u41, u42, u43, u44, u45, u46, u47, u48, u49, u50, u51, u52, u53, u54, u55, u56, u57, u58, u59, u60, u61, u62, u63, u64, u65, u66, u67, u68, u69, u70, u71, u72, u73, u74, u75, u76, u77, u78, u79, u80, u81, u82, u83, u84, u85, u86, u87, u88, u89, u90, u91, u92, u93, u94, u95, u96, u97, u98, u99, u100, u101, x102, x103, x104, x105, x106, x107, x108, x109, x110, x111, x112, x113, x114, u115, u116, u117, u118], defers := [] } wx)) :
    (Code.region 14 ops.toArray true).wp Try.prog Q { tmps := #[u0, u1, .slice (some ⟨b1, o1, none⟩) 2 c1, u3, u4, .pointer (some ⟨Z1, 0, none⟩), .pointer (some ⟨Z2, 0, none⟩), u7, .pointer (some ⟨Z3, 0, none⟩), u9, u10, .pointer (some ⟨C, 0, none⟩), u12, .slice A' last.length c', u14, u15, u16, u17, u18, u19, u20, u21, u22, u23, u24, u25, u26, u27, u28, u29, u30, u31, u32, u33, u34, u35, u36, u37, u38, u39, u40, u41, u42, u43, u44, u45, u46, u47, u48, u49, u50, u51, u52, u53, u54, u55, u56, u57, u58, u59, u60, u61, u62, u63, u64, u65, u66, u67, u68, u69, u70, u71, u72, u73, u74, u75, u76, u77, u78, u79, u80, u81, u82, u83, u84, u85, u86, u87, u88, u89, u90, u91, u92, u93, u94, u95, u96, u97, u98, u99, u100, u101, u102, u103, u104, u105, u106, u107, u108, u109, u110, u111, u112, u113, u114, u115, u116, u117, u118], defers := [] } wr := by
  unfold opsOf Try.f3 at hops
  simp only [Option.bind, regOps, Nat.reduceEqDiff, if_true, if_false, ite_false, ite_true, Option.or, Option.some.injEq] at hops
  subst hops
  dsimp only
  have hS0 : ∃ t : Kept wr [C], wr.drew = t.u := ⟨⟨_, (Turns.refl _ _).drew⟩, rfl⟩
  have nC : ∀ {g : Nat} {ty : TypeId} {cs : Array Value}, Row wr g ty cs → ty ≠ 67 → g ∉ [C] := fun hr hne hm => Row.ne_type hr HCr.out.row hne (List.mem_singleton.1 hm)
  have k1 : ∀ t : Kept wr [C], t.u.cell? ⟨Z1, 0, none⟩ = some (.int .i64 one) := fun t => (t.h.row HU1.out (nC HU1.out (by decide))).cell 0
  have k2 : ∀ t : Kept wr [C], t.u.cell? ⟨Z2, 0, none⟩ = some (.int .i64 two) := fun t => (t.h.row HU2.out (nC HU2.out (by decide))).cell 0
  have k3 : ∀ t : Kept wr [C], t.u.cell? ⟨Z3, 0, none⟩ = some (.slice (some ⟨b2, o2, none⟩) 2 c2) := fun t => (t.h.row HU3.out (nC HU3.out (by decide))).cell 0
  have HX1 : Hid (ArgW w ⟨0, one, some ⟨b1, o1, none⟩, c1, [f0, f1]⟩) := ⟨by unfold R64; simp, by unfold R64; simp; omega, by simp; omega, HD1.out, hc1⟩
  have HX2 : Hid (ArgW w ⟨0, two, some ⟨b2, o2, none⟩, c2, [t0, t1]⟩) := ⟨by unfold R64; simp, by unfold R64; simp; omega, by simp; omega, HD2.out, hc2⟩
  have HIt : Hid (∀ x ∈ (⟨0, two, some ⟨b2, o2, none⟩, c2, [t0, t1]⟩ :: last : List Ws), ArgW w x) := fun x hx => by
    rcases List.mem_cons.1 hx with rfl | hx
    · exact HX2.out
    · exact HLa.out x hx
  have HRi : Hid (rightL 31 2 [⟨0, one, some ⟨b1, o1, none⟩, c1, [f0, f1]⟩] = [(one, [f0, f1])] ∧ rightL 31 2 (⟨0, two, some ⟨b2, o2, none⟩, c2, [t0, t1]⟩ :: last) = (two, [t0, t1]) :: rightL 31 2 last) := by
    have e1 : decide ((0 : Int) ≤ one ∧ (one : Int) < ((31 : Nat) : Int) ∧ [f0, f1].length = 2) = true := decide_eq_true ⟨by omega, by omega, rfl⟩
    have e2 : decide ((0 : Int) ≤ two ∧ (two : Int) < ((31 : Nat) : Int) ∧ [t0, t1].length = 2) = true := decide_eq_true ⟨by omega, by omega, rfl⟩
    unfold rightL
    rw [List.filter_cons, if_pos e1, List.filter_cons, if_pos e2]
    exact ⟨rfl, rfl⟩
  obtain ⟨i0, hi, hz0, hz1, hz2⟩ := info_parts write_info
  refine wp_region_noPanic ?_
  refine region_treeW (fun u => ∃ t : Kept wr [C], u = t.u) (Tn.takes [0, 1, 2, 3, 5, 6, 7, 9] (.two 4 8 (.one 8 (.one 10 (.one 11 (.one 12 .nil)))) (.two 4 10 (.one 10 (.one 11 (.one 12 .nil))) (.one 4 (.one 11 (.one 12 .nil)))))) (by kernel_rfl) (by kernel_rfl) (fun _ _ _ _ _ h => h) hS0 ?_
  simp only [Tn.takes]
  (repeat ((with_reducible refine wpTree_take (by with_unfolding_all exact rfl) ?_); (with_reducible (show wpQuiet _ _ _ _ (_ :: _) _)); go_big_quiet_step (fail); (with_reducible refine wpQuiet_nil ?_)))
  clear k1 k2 k3
  (with_reducible refine wpTree_two (by with_unfolding_all exact rfl) (by with_unfolding_all exact rfl) ?_ ?_)
  · gi_wp2_with fail
    (with_reducible refine outQ_normal ?_ ?_); exact ⟨⟨_, ((Turns.refl _ _).alloc _).drew⟩, rfl⟩
    (with_reducible refine wpTree_one (by with_unfolding_all exact rfl) ?_)
    gi_wp2_with fail
    (with_reducible refine outQ_normal ?_ ?_); exact ⟨⟨_, (((Turns.refl _ _).alloc _).alloc _).drew⟩, rfl⟩
    have HBU : Hid (Below wr.heap.size wr ((wr.alloc (.cells #[.int .i64 0, .int .i64 one, .slice (some ⟨b1, o1, none⟩) 2 c1] 30)).alloc (.cells #[.int .i64 0, .int .i64 two, .slice (some ⟨b2, o2, none⟩) 2 c2] 30)).drew) := by unfold Hid; (repeat (first | (with_reducible refine Below.drew ?_) | (with_reducible refine below_drewN0 ?_ _) | ((with_reducible refine Below.setCell ?_ ?_ _); rotate_left; focus (first | omega | (simp; done) | (simp; omega) | (simp at *; omega))) | ((with_reducible refine Below.alloc ?_ ?_ _); rotate_left; focus (first | omega | (simp; done) | (simp; omega) | (simp at *; omega))) | (with_reducible exact Below.refl _ _)))
    have HOU : Hid (((wr.alloc (.cells #[.int .i64 0, .int .i64 one, .slice (some ⟨b1, o1, none⟩) 2 c1] 30)).alloc (.cells #[.int .i64 0, .int .i64 two, .slice (some ⟨b2, o2, none⟩) 2 c2] 30)).drew.ownsRow wr.heap.size 30 3 (.slice (some ⟨wr.heap.size + 1, 0, none⟩) 1 1) 1 (wrsV [(⟨0, two, some ⟨b2, o2, none⟩, c2, [t0, t1]⟩ : Ws)])) := ⟨rfl, .inr ⟨_, 1, _, rfl, by omega, (by have := Row.fresh (wr.alloc (.cells #[.int .i64 0, .int .i64 one, .slice (some ⟨b1, o1, none⟩) 2 c1] 30)) 30 #[.int .i64 0, .int .i64 two, .slice (some ⟨b2, o2, none⟩) 2 c2]; rw [World.size_alloc] at this; exact this), Nat.le_refl _, by simp [maxLen], rfl, rfl⟩⟩
    have HSU : Hid (Src ((wr.alloc (.cells #[.int .i64 0, .int .i64 one, .slice (some ⟨b1, o1, none⟩) 2 c1] 30)).alloc (.cells #[.int .i64 0, .int .i64 two, .slice (some ⟨b2, o2, none⟩) 2 c2] 30)).drew 3 A' last.length (wrsV last)) := (Src.of_own HOl.out).keep (fun a v h => keep_below HBU.out _ _ h)
    (with_reducible refine wpTree_one (by with_unfolding_all exact rfl) ?_)
    refine wpListIn_law rfl fun K hK => wp_append_src _ (.tmp 110) (.tmp 111) 23 rfl wr.heap.size 30 i0 _ 3 40 Try.underlying23 hi hz0 hz1 hz2 rfl (by decide) (.slice (some ⟨wr.heap.size + 1, 0, none⟩) 1 1) 1 (wrsV [(⟨0, two, some ⟨b2, o2, none⟩, c2, [t0, t1]⟩ : Ws)]) rfl HOU.out A' last.length c' (wrsV last) rfl HSU.out (wrsV_one last) (by have := HLl.out; unfold maxLen; omega) (by have := HLl.out; omega) HBU.out.size ?_
    intro v6 w6 hown hgrow hat
    rw [Nat.add_comm 1] at hown
    obtain ⟨A6, c6, rfl, _, _⟩ := own_shape hown
    have HO6 : Hid (w6.ownsRow wr.heap.size 30 3 (.slice A6 ((⟨0, two, some ⟨b2, o2, none⟩, c2, [t0, t1]⟩ : Ws) :: last).length c6) ((⟨0, two, some ⟨b2, o2, none⟩, c2, [t0, t1]⟩ : Ws) :: last).length (wrsV ((⟨0, two, some ⟨b2, o2, none⟩, c2, [t0, t1]⟩ : Ws) :: last))) := hown
    have HB6 : Hid (Below wr.heap.size wr w6) := HBU.out.grown hgrow HBU.out.size (fun y hy => by have e : wr.heap.size + 1 = y := Option.some.inj hy; omega)
    have HR6 : Hid (Row w6 wr.heap.size 30 #[.int .i64 0, .int .i64 one, .slice (some ⟨b1, o1, none⟩) 2 c1]) := by
      have h1 : Row ((wr.alloc (.cells #[.int .i64 0, .int .i64 one, .slice (some ⟨b1, o1, none⟩) 2 c1] 30)).alloc (.cells #[.int .i64 0, .int .i64 two, .slice (some ⟨b2, o2, none⟩) 2 c2] 30)).drew wr.heap.size 30 #[.int .i64 0, .int .i64 one, .slice (some ⟨b1, o1, none⟩) 2 c1] := (Row.fresh wr _ _).alloc _
      exact (hgrow.block wr.heap.size h1.lt (fun e => by have e : wr.heap.size = wr.heap.size + 1 := Option.some.inj e; omega)).trans h1
    refine hK _ _ (wpListIn_nil (outQ_normal ⟨⟨w6, Turns.of_below HB6.out _⟩, rfl⟩ ?_))
    clear hown hgrow hat hK hi hz0 hz1 hz2
    simp only [Act.put, List.setIfInBounds_toArray, List.set_cons_succ, List.set_cons_zero]
    have HGr := Lib.hid (strict_groups 31 2 w w6 (HBr.out.trans (HB6.out.mono HBr.out.size)) B C H L _ _ _ (HCr.out.below HB6.out) HWB.out wr.heap.size ⟨0, one, some ⟨b1, o1, none⟩, c1, [f0, f1]⟩ HR6.out A6 c6 wr.heap.size ((⟨0, two, some ⟨b2, o2, none⟩, c2, [t0, t1]⟩ : Ws) :: last) HO6.out HIt.out HX1.out (by have := HLl.out; simp; omega))
    rw [show (cr0 31 2).n = 31 from rfl, show (cr0 31 2).sz = 2 from rfl, HRi.out.1, HRi.out.2] at HGr
    (with_reducible refine wpTree_one (by with_unfolding_all exact rfl) ?_)
    gi_wp2_with fail
    (with_reducible refine outQ_normal ?_ ?_); exact ⟨⟨_, (Turns.of_below HB6.out _).alloc _⟩, rfl⟩
    (with_reducible refine wpTree_one (by with_unfolding_all exact rfl) ?_)
    gi_wp2_with fail
    refine ((callsIn_wide (n := 8)).2 HGr.out).mono ?_
    rintro e w9 ⟨⟨vv, rfl⟩, ⟨v9, hc9⟩, ht9⟩
    have HC9 := Lib.hid hc9
    have HT9 : Hid (Turns wr w9 [C]) := (Turns.of_below HB6.out [C]).trans ht9 (fun k hk => .inl hk)
    clear hc9 ht9 HGr
    gi_wp2_with fail
    (with_reducible refine outQ_normal ?_ ?_); exact ⟨⟨_, HT9.out⟩, rfl⟩
    with_reducible refine wpTree_nil ?_
    refine NoPanic.normal ?_
    exact HQ.out _ _ _ _ _ _ _ _ _ _ _ _ _ w9 ⟨⟨v9, HC9.out⟩, HT9.out⟩
  · gi_wp2_with fail
    (with_reducible refine outQ_normal ?_ ?_); exact ⟨⟨_, ((Turns.refl _ _).alloc _).drew⟩, rfl⟩
    (with_reducible refine wpTree_two (by with_unfolding_all exact rfl) (by with_unfolding_all exact rfl) ?_ ?_)
    · gi_wp2_with fail
      (with_reducible refine outQ_normal ?_ ?_); exact ⟨⟨_, (((Turns.refl _ _).alloc _).alloc _).drew⟩, rfl⟩
      have HBU : Hid (Below wr.heap.size wr ((wr.alloc (.cells #[.int .i64 0, .int .i64 two, .slice (some ⟨b2, o2, none⟩) 2 c2] 30)).alloc (.cells #[.int .i64 0, .int .i64 one, .slice (some ⟨b1, o1, none⟩) 2 c1] 30)).drew) := by unfold Hid; (repeat (first | (with_reducible refine Below.drew ?_) | (with_reducible refine below_drewN0 ?_ _) | ((with_reducible refine Below.setCell ?_ ?_ _); rotate_left; focus (first | omega | (simp; done) | (simp; omega) | (simp at *; omega))) | ((with_reducible refine Below.alloc ?_ ?_ _); rotate_left; focus (first | omega | (simp; done) | (simp; omega) | (simp at *; omega))) | (with_reducible exact Below.refl _ _)))
      have HOU : Hid (((wr.alloc (.cells #[.int .i64 0, .int .i64 two, .slice (some ⟨b2, o2, none⟩) 2 c2] 30)).alloc (.cells #[.int .i64 0, .int .i64 one, .slice (some ⟨b1, o1, none⟩) 2 c1] 30)).drew.ownsRow wr.heap.size 30 3 (.slice (some ⟨wr.heap.size, 0, none⟩) 1 1) 1 (wrsV [(⟨0, two, some ⟨b2, o2, none⟩, c2, [t0, t1]⟩ : Ws)])) := ⟨rfl, .inr ⟨_, 1, _, rfl, by omega, ((Row.fresh wr 30 #[.int .i64 0, .int .i64 two, .slice (some ⟨b2, o2, none⟩) 2 c2]).alloc _), Nat.le_refl _, by simp [maxLen], rfl, rfl⟩⟩
      have HSU : Hid (Src ((wr.alloc (.cells #[.int .i64 0, .int .i64 two, .slice (some ⟨b2, o2, none⟩) 2 c2] 30)).alloc (.cells #[.int .i64 0, .int .i64 one, .slice (some ⟨b1, o1, none⟩) 2 c1] 30)).drew 3 A' last.length (wrsV last)) := (Src.of_own HOl.out).keep (fun a v h => keep_below HBU.out _ _ h)
      (with_reducible refine wpTree_one (by with_unfolding_all exact rfl) ?_)
      refine wpListIn_law rfl fun K hK => wp_append_src _ (.tmp 110) (.tmp 111) 23 rfl wr.heap.size 30 i0 _ 3 40 Try.underlying23 hi hz0 hz1 hz2 rfl (by decide) (.slice (some ⟨wr.heap.size, 0, none⟩) 1 1) 1 (wrsV [(⟨0, two, some ⟨b2, o2, none⟩, c2, [t0, t1]⟩ : Ws)]) rfl HOU.out A' last.length c' (wrsV last) rfl HSU.out (wrsV_one last) (by have := HLl.out; unfold maxLen; omega) (by have := HLl.out; omega) HBU.out.size ?_
      intro v6 w6 hown hgrow hat
      rw [Nat.add_comm 1] at hown
      obtain ⟨A6, c6, rfl, _, _⟩ := own_shape hown
      have HO6 : Hid (w6.ownsRow wr.heap.size 30 3 (.slice A6 ((⟨0, two, some ⟨b2, o2, none⟩, c2, [t0, t1]⟩ : Ws) :: last).length c6) ((⟨0, two, some ⟨b2, o2, none⟩, c2, [t0, t1]⟩ : Ws) :: last).length (wrsV ((⟨0, two, some ⟨b2, o2, none⟩, c2, [t0, t1]⟩ : Ws) :: last))) := hown
      have HB6 : Hid (Below wr.heap.size wr w6) := HBU.out.grown hgrow HBU.out.size (fun y hy => by have e : wr.heap.size = y := Option.some.inj hy; omega)
      have HR6 : Hid (Row w6 (wr.heap.size + 1) 30 #[.int .i64 0, .int .i64 one, .slice (some ⟨b1, o1, none⟩) 2 c1]) := by
        have h1 : Row ((wr.alloc (.cells #[.int .i64 0, .int .i64 two, .slice (some ⟨b2, o2, none⟩) 2 c2] 30)).alloc (.cells #[.int .i64 0, .int .i64 one, .slice (some ⟨b1, o1, none⟩) 2 c1] 30)).drew (wr.heap.size + 1) 30 #[.int .i64 0, .int .i64 one, .slice (some ⟨b1, o1, none⟩) 2 c1] := by
          have := Row.fresh (wr.alloc (.cells #[.int .i64 0, .int .i64 two, .slice (some ⟨b2, o2, none⟩) 2 c2] 30)) 30 #[.int .i64 0, .int .i64 one, .slice (some ⟨b1, o1, none⟩) 2 c1]; rw [World.size_alloc] at this; exact this
        exact (hgrow.block (wr.heap.size + 1) h1.lt (fun e => by have e : wr.heap.size + 1 = wr.heap.size := Option.some.inj e; omega)).trans h1
      refine hK _ _ (wpListIn_nil (outQ_normal ⟨⟨w6, Turns.of_below HB6.out _⟩, rfl⟩ ?_))
      clear hown hgrow hat hK hi hz0 hz1 hz2
      simp only [Act.put, List.setIfInBounds_toArray, List.set_cons_succ, List.set_cons_zero]
      have HGr := Lib.hid (strict_groups 31 2 w w6 (HBr.out.trans (HB6.out.mono HBr.out.size)) B C H L _ _ _ (HCr.out.below HB6.out) HWB.out (wr.heap.size + 1) ⟨0, one, some ⟨b1, o1, none⟩, c1, [f0, f1]⟩ HR6.out A6 c6 wr.heap.size ((⟨0, two, some ⟨b2, o2, none⟩, c2, [t0, t1]⟩ : Ws) :: last) HO6.out HIt.out HX1.out (by have := HLl.out; simp; omega))
      rw [show (cr0 31 2).n = 31 from rfl, show (cr0 31 2).sz = 2 from rfl, HRi.out.1, HRi.out.2] at HGr
      (with_reducible refine wpTree_one (by with_unfolding_all exact rfl) ?_)
      gi_wp2_with fail
      (with_reducible refine outQ_normal ?_ ?_); exact ⟨⟨_, (Turns.of_below HB6.out _).alloc _⟩, rfl⟩
      (with_reducible refine wpTree_one (by with_unfolding_all exact rfl) ?_)
      gi_wp2_with fail
      refine ((callsIn_wide (n := 8)).2 HGr.out).mono ?_
      rintro e w9 ⟨⟨vv, rfl⟩, ⟨v9, hc9⟩, ht9⟩
      have HC9 := Lib.hid hc9
      have HT9 : Hid (Turns wr w9 [C]) := (Turns.of_below HB6.out [C]).trans ht9 (fun k hk => .inl hk)
      clear hc9 ht9 HGr
      gi_wp2_with fail
      (with_reducible refine outQ_normal ?_ ?_); exact ⟨⟨_, HT9.out⟩, rfl⟩
      with_reducible refine wpTree_nil ?_
      refine NoPanic.normal ?_
      exact HQ.out _ _ _ _ _ _ _ _ _ _ _ _ _ w9 ⟨⟨v9, HC9.out⟩, HT9.out⟩
    · have HBU : Hid (Below wr.heap.size wr (wr.alloc (.cells #[.int .i64 0, .int .i64 two, .slice (some ⟨b2, o2, none⟩) 2 c2] 30)).drew) := by unfold Hid; (repeat (first | (with_reducible refine Below.drew ?_) | (with_reducible refine below_drewN0 ?_ _) | ((with_reducible refine Below.setCell ?_ ?_ _); rotate_left; focus (first | omega | (simp; done) | (simp; omega) | (simp at *; omega))) | ((with_reducible refine Below.alloc ?_ ?_ _); rotate_left; focus (first | omega | (simp; done) | (simp; omega) | (simp at *; omega))) | (with_reducible exact Below.refl _ _)))
      have HOU : Hid ((wr.alloc (.cells #[.int .i64 0, .int .i64 two, .slice (some ⟨b2, o2, none⟩) 2 c2] 30)).drew.ownsRow wr.heap.size 30 3 (.slice (some ⟨wr.heap.size, 0, none⟩) 1 1) 1 (wrsV [(⟨0, two, some ⟨b2, o2, none⟩, c2, [t0, t1]⟩ : Ws)])) := ⟨rfl, .inr ⟨_, 1, _, rfl, by omega, (Row.fresh wr 30 #[.int .i64 0, .int .i64 two, .slice (some ⟨b2, o2, none⟩) 2 c2]), Nat.le_refl _, by simp [maxLen], rfl, rfl⟩⟩
      have HSU : Hid (Src (wr.alloc (.cells #[.int .i64 0, .int .i64 two, .slice (some ⟨b2, o2, none⟩) 2 c2] 30)).drew 3 A' last.length (wrsV last)) := (Src.of_own HOl.out).keep (fun a v h => keep_below HBU.out _ _ h)
      refine wpListIn_law rfl fun K hK => wp_append_src _ (.tmp 110) (.tmp 111) 23 rfl wr.heap.size 30 i0 _ 3 40 Try.underlying23 hi hz0 hz1 hz2 rfl (by decide) (.slice (some ⟨wr.heap.size, 0, none⟩) 1 1) 1 (wrsV [(⟨0, two, some ⟨b2, o2, none⟩, c2, [t0, t1]⟩ : Ws)]) rfl HOU.out A' last.length c' (wrsV last) rfl HSU.out (wrsV_one last) (by have := HLl.out; unfold maxLen; omega) (by have := HLl.out; omega) HBU.out.size ?_
      intro v6 w6 hown hgrow hat
      rw [Nat.add_comm 1] at hown
      obtain ⟨A6, c6, rfl, _, _⟩ := own_shape hown
      have HO6 : Hid (w6.ownsRow wr.heap.size 30 3 (.slice A6 ((⟨0, two, some ⟨b2, o2, none⟩, c2, [t0, t1]⟩ : Ws) :: last).length c6) ((⟨0, two, some ⟨b2, o2, none⟩, c2, [t0, t1]⟩ : Ws) :: last).length (wrsV ((⟨0, two, some ⟨b2, o2, none⟩, c2, [t0, t1]⟩ : Ws) :: last))) := hown
      have HB6 : Hid (Below wr.heap.size wr w6) := HBU.out.grown hgrow HBU.out.size (fun y hy => by have e : wr.heap.size = y := Option.some.inj hy; omega)
      refine hK _ _ (wpListIn_nil (outQ_normal ⟨⟨w6, Turns.of_below HB6.out _⟩, rfl⟩ ?_))
      clear hown hgrow hat hK hi hz0 hz1 hz2
      simp only [Act.put, List.setIfInBounds_toArray, List.set_cons_succ, List.set_cons_zero]
      (with_reducible refine wpTree_one (by with_unfolding_all exact rfl) ?_)
      gi_wp2_with fail
      (with_reducible refine outQ_normal ?_ ?_); exact ⟨⟨_, (Turns.of_below HB6.out _).alloc _⟩, rfl⟩
      have HB7 : Hid (Below wr.heap.size wr (w6.alloc (.cells #[.int .i64 0, .int .i64 one, .slice (some ⟨b1, o1, none⟩) 2 c1] 30))) := HB6.out.alloc HB6.out.size _
      have HO7 : Hid ((w6.alloc (.cells #[.int .i64 0, .int .i64 one, .slice (some ⟨b1, o1, none⟩) 2 c1] 30)).ownsRow wr.heap.size 30 3 (.slice A6 ((⟨0, two, some ⟨b2, o2, none⟩, c2, [t0, t1]⟩ : Ws) :: last).length c6) ((⟨0, two, some ⟨b2, o2, none⟩, c2, [t0, t1]⟩ : Ws) :: last).length (wrsV ((⟨0, two, some ⟨b2, o2, none⟩, c2, [t0, t1]⟩ : Ws) :: last))) := own_below HO6.out ((Below.refl _ _).alloc (Nat.le_refl _) _)
      have HGr := Lib.hid (strict_groups 31 2 w (w6.alloc (.cells #[.int .i64 0, .int .i64 one, .slice (some ⟨b1, o1, none⟩) 2 c1] 30)) (HBr.out.trans (HB7.out.mono HBr.out.size)) B C H L _ _ _ (HCr.out.below HB7.out) HWB.out w6.heap.size ⟨0, one, some ⟨b1, o1, none⟩, c1, [f0, f1]⟩ (Row.fresh w6 30 #[.int .i64 0, .int .i64 one, .slice (some ⟨b1, o1, none⟩) 2 c1]) A6 c6 wr.heap.size ((⟨0, two, some ⟨b2, o2, none⟩, c2, [t0, t1]⟩ : Ws) :: last) HO7.out HIt.out HX1.out (by have := HLl.out; simp; omega))
      simp only [World.size_alloc] at HGr
      rw [show (cr0 31 2).n = 31 from rfl, show (cr0 31 2).sz = 2 from rfl, HRi.out.1, HRi.out.2] at HGr
      (with_reducible refine wpTree_one (by with_unfolding_all exact rfl) ?_)
      gi_wp2_with fail
      (with_reducible refine outQ_normal ?_ ?_); exact ⟨⟨_, (Turns.of_below HB7.out _).alloc _⟩, rfl⟩
      (with_reducible refine wpTree_one (by with_unfolding_all exact rfl) ?_)
      gi_wp2_with fail
      refine ((callsIn_wide (n := 8)).2 HGr.out).mono ?_
      rintro e w9 ⟨⟨vv, rfl⟩, ⟨v9, hc9⟩, ht9⟩
      have HC9 := Lib.hid hc9
      have HT9 : Hid (Turns wr w9 [C]) := (Turns.of_below HB7.out [C]).trans ht9 (fun k hk => .inl hk)
      clear hc9 ht9 HGr
      gi_wp2_with fail
      (with_reducible refine outQ_normal ?_ ?_); exact ⟨⟨_, HT9.out⟩, rfl⟩
      with_reducible refine wpTree_nil ?_
      refine NoPanic.normal ?_
      exact HQ.out _ _ _ _ _ _ _ _ _ _ _ _ _ w9 ⟨⟨v9, HC9.out⟩, HT9.out⟩
end Go.Proofs.Ytomigaldomiefaa
