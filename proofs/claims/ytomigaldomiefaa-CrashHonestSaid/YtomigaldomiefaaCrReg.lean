/- crash: level's closure: the region that yields the base, and nought where the place is loose. -/
import Derived.Test.YtomigaldomiefaaCrLevA
import Derived.Test.YtomigaldomiefaaOpsOf
import Derived.Deep.CutRange
namespace Go.Proofs.Ytomigaldomiefaa
open Go.RowKit Go.Shelf
attribute [local go_sem] Oper.semAt_some
attribute [local simp, local go_sem] wide_fn
set_option linter.unusedVariables false
set_option linter.unusedSimpArgs false

theorem wpMix_skip {P : Program} {n i : Nat} {l : List Oper} {S : World → Prop} {Q : Exit → Act → World → Prop} {o : Oper} {s : List (Bool × Nat)} {a : Act} {w : World} (ho : l[i]? = some o) (hw : Region.wanted o (yielded l.toArray a.tmps) = false) (hS : S w) (h : wpMix n P l S Q s (a.put o.dst undef) w) : wpMix n P l S Q ((false, i) :: s) a w := by
  refine wpMix_one ho ?_
  simp only [wpListIn, hw]
  exact ⟨fun _ _ => trivial, outQ_normal hS h⟩
/-- A world that meets S. -/
structure Sat (S : World → Prop) where
  u : World
  h : S u
abbrev inS (S : World → Prop) (u : World) : Prop := ∃ t : Sat S, u = t.u
set_option maxRecDepth 100000 in
set_option maxHeartbeats 4000000 in
theorem reg12 (n : Nat) (hn : 1 ≤ n) (ops : List Oper) (hops : opsOf 12 Try.f56 = some ops) (S0 PA PB PX : World → Prop) (Y X Z Zs Zp C L sz : Nat) (hsz : sz ≤ 65536) (p : Int) (lb : Nat) (tb : ByteArray) (lo ah : Bool) (w : World) (hw : S0 w.drew)
    (hS : ∀ u, S0 u → u.cell? ⟨Y, 0, none⟩ = some (.func (.yield lb) #[] #[]) ∧ u.cell? ⟨X, 0, none⟩ = some (.string tb) ∧ u.cell? ⟨Zs, 0, none⟩ = some (.pointer (some ⟨C, 0, none⟩)) ∧ u.cell? ⟨C, 3, none⟩ = some (.map (some L)) ∧ u.cell? ⟨Zp, 0, none⟩ = some (.int .i64 p) ∧
      (Instr.lookup 65 (.map (some L)) (.agg #[.int .i64 p]) false).run Try.prog u = .ok (.bool lo) u ∧ u.cell? ⟨Z, 0, none⟩ = some (.bool ah) ∧ u.cell? ⟨C, 1, none⟩ = some (.int .i64 sz))
    (hA : ∀ u, PA u → S0 u) (hB : ∀ u, PB u → S0 u) (hX : ∀ u, PX u → S0 u) (hSb : ∀ u u', S0 u → Below u.heap.size u u' → S0 u')
    (y1 : YieldAt Fence.wide (n - 1) Try.prog lb #[.string tb] w.drew fun e W' => (e = .returned (.bool true) ∧ PA W') ∨ (e = .returned (.bool false) ∧ PX W'))
    (y2 : lo = true → ah = false → ∀ u u', PA u → Below u.heap.size u u' → YieldAt Fence.wide (n - 1) Try.prog lb #[.string (textOf (zs sz))] u' fun e W' => (e = .returned (.bool true) ∧ PB W') ∨ (e = .returned (.bool false) ∧ PX W'))
    (u0 u3 u6 u8 u9 u10 u11 u12 u13 u14 u15 u16 u17 u18 u19 u20 u21 u22 u23 u24 u25 u26 u27 u28 u29 u30 u31 u32 u33 u34 u35 u36 u37 u38 u39 u40 u41 u42 u43 u44 u45 u46 u47 u48 u49 u50 u51 u52 u53 u54 u55 u56 u57 u58 u59 u60 u61 u62 u63 u64 u65 u66 u67 u68 u69 u70 u71 u72 u73 u74 u75 u76 u77 u78 u79 u80 u81 u82 u83 u84 u85 u86 u87 u88 u89 u90 u91 u92 u93 u94 u95 u96 u97 u98 u99 u100 u101 u102 u103 u104 u105 u106 : Value) (ds : List Deferred) (Q : Exit → Act → World → Prop)
    (hQ : ∀ (x46 x47 x48 x49 x50 x51 x52 x53 x54 x55 x56 x57 x58 x59 x60 x61 x62 x63 x64 x65 x66 x67 x68 : Value) (b : Bool) (w' : World), (b = true → PX w') → (b = false → (if lo && !ah then PB w' else PA w')) → Q .normal { tmps := #[u0, .pointer (some ⟨Zs, 0, none⟩), .pointer (some ⟨Zp, 0, none⟩), u3, .pointer (some ⟨Y, 0, none⟩), .pointer (some ⟨X, 0, none⟩), u6, .pointer (some ⟨Z, 0, none⟩), u8, u9, u10, u11, u12, u13, u14, u15, u16, u17, u18, u19, u20, u21, u22, u23, u24, u25, u26, u27, u28, u29, u30, u31, u32, u33, u34, u35, u36, u37, u38, u39, u40, u41, u42, u43, u44, u45, x46, x47, x48, x49, x50, x51, x52, x53, x54, x55, x56, x57, x58, x59, x60, x61, x62, x63, x64, x65, x66, x67, x68, .bool b, u70, u71, u72, u73, u74, u75, u76, u77, u78, u79, u80, u81, u82, u83, u84, u85, u86, u87, u88, u89, u90, u91, u92, u93, u94, u95, u96, u97, u98, u99, u100, u101, u102, u103, u104, u105, u106], defers := ds } w') :
    (Code.region 12 ops.toArray true).wpIn Fence.wide n Try.prog Q { tmps := #[u0, .pointer (some ⟨Zs, 0, none⟩), .pointer (some ⟨Zp, 0, none⟩), u3, .pointer (some ⟨Y, 0, none⟩), .pointer (some ⟨X, 0, none⟩), u6, .pointer (some ⟨Z, 0, none⟩), u8, u9, u10, u11, u12, u13, u14, u15, u16, u17, u18, u19, u20, u21, u22, u23, u24, u25, u26, u27, u28, u29, u30, u31, u32, u33, u34, u35, u36, u37, u38, u39, u40, u41, u42, u43, u44, u45, u46, u47, u48, u49, u50, u51, u52, u53, u54, u55, u56, u57, u58, u59, u60, u61, u62, u63, u64, u65, u66, u67, u68, u69, u70, u71, u72, u73, u74, u75, u76, u77, u78, u79, u80, u81, u82, u83, u84, u85, u86, u87, u88, u89, u90, u91, u92, u93, u94, u95, u96, u97, u98, u99, u100, u101, u102, u103, u104, u105, u106], defers := ds } w := by
  unfold opsOf Try.f56 at hops
  simp only [Option.bind, regOps, Nat.reduceEqDiff, if_true, if_false, ite_false, ite_true, Option.or, Option.some.injEq] at hops
  subst hops
  dsimp only
  have hmx : Try.prog.follows .mixedOrders = true := by kernel_rfl
  have HA := Lib.hid hA
  have HB := Lib.hid hB
  have HX := Lib.hid hX
  have HSb := Lib.hid hSb
  have HS := Lib.hid hS
  have HW := Lib.hid hw
  have HQ := Lib.hid hQ
  have HY2 := Lib.hid y2
  obtain ⟨fn, tmps, assign, body, hy, hR⟩ := y1
  have HRd := Lib.hid hR
  have s1 : ∀ t : Sat S0, t.u.cell? ⟨Y, 0, none⟩ = some (.func (.yield lb) #[] #[]) := fun t => (hS _ t.h).1
  have s2 : ∀ t : Sat S0, t.u.cell? ⟨X, 0, none⟩ = some (.string tb) := fun t => (hS _ t.h).2.1
  have s3 : ∀ t : Sat S0, t.u.cell? ⟨Zs, 0, none⟩ = some (.pointer (some ⟨C, 0, none⟩)) := fun t => (hS _ t.h).2.2.1
  have s4 : ∀ t : Sat S0, t.u.cell? ⟨C, 3, none⟩ = some (.map (some L)) := fun t => (hS _ t.h).2.2.2.1
  have s5 : ∀ t : Sat S0, t.u.cell? ⟨Zp, 0, none⟩ = some (.int .i64 p) := fun t => (hS _ t.h).2.2.2.2.1
  have s6 : ∀ t : Sat S0, (Instr.lookup 65 (.map (some L)) (.agg #[.int .i64 p]) false).run Try.prog t.u = .ok (.bool lo) t.u := fun t => (hS _ t.h).2.2.2.2.2.1
  have s7 : ∀ t : Sat S0, t.u.cell? ⟨Z, 0, none⟩ = some (.bool ah) := fun t => (hS _ t.h).2.2.2.2.2.2.1
  have hne : Nonempty (Sat S0) := ⟨⟨_, hw⟩⟩
  clear hA hB hX hSb hS hw hQ y2 hR
  cases lo with
  | false =>
    refine wpIn_noPanic ?_
    refine region_mix (inS S0) [(true,0),(true,1),(false,2),(true,3),(true,4),(true,5),(true,6),(true,7),(true,8),(true,9),(true,10),(true,11),(true,12),(true,13),(true,14),(true,15),(true,16),(true,17),(true,18),(false,19),(false,20),(true,21),(true,22),(true,23)] hmx (by kernel_rfl) (fun _ _ _ _ _ h => h) ⟨⟨_, HW.out⟩, rfl⟩ ?_
    (repeat ((with_reducible refine wpMix_take (by with_unfolding_all exact rfl) ?_); (with_reducible (show wpQuiet _ _ _ _ (_ :: _) _)); go_big_quiet_step (fail); (with_reducible refine wpQuiet_nil ?_)))
    (with_reducible refine wpMix_one (by with_unfolding_all exact rfl) ?_)
    gi_wp2
    refine HRd.out.mono ?_
    rintro e W3 (⟨rfl, h3⟩ | ⟨rfl, h3⟩)
    · have H3 := Lib.hid h3
      have HS3 : Hid (S0 W3) := HA.out _ h3
      clear hy h3
      gi_wp2
      (with_reducible refine outQ_normal ?_ ?_); exact ⟨⟨_, HS3.out⟩, rfl⟩
      (repeat ((with_reducible refine wpMix_take (by with_unfolding_all exact rfl) ?_); (with_reducible (show wpQuiet _ _ _ _ (_ :: _) _)); go_big_quiet_step (fail); (with_reducible refine wpQuiet_nil ?_)))
      ((with_reducible refine wpMix_skip (by with_unfolding_all exact rfl) (by with_unfolding_all exact rfl) ⟨⟨_, HS3.out⟩, rfl⟩ ?_); simp only [Act.put, List.setIfInBounds_toArray, List.set_cons_succ, List.set_cons_zero])
      ((with_reducible refine wpMix_skip (by with_unfolding_all exact rfl) (by with_unfolding_all exact rfl) ⟨⟨_, HS3.out⟩, rfl⟩ ?_); simp only [Act.put, List.setIfInBounds_toArray, List.set_cons_succ, List.set_cons_zero])
      (repeat ((with_reducible refine wpMix_take (by with_unfolding_all exact rfl) ?_); (with_reducible (show wpQuiet _ _ _ _ (_ :: _) _)); go_big_quiet_step (fail); (with_reducible refine wpQuiet_nil ?_)))
      with_reducible refine wpMix_nil ?_
      refine NoPanic.normal ?_
      exact HQ.out _ _ _ _ _ _ _ _ _ _ _ _ _ _ _ _ _ _ _ _ _ _ _ false W3 (fun h => by cases h) (fun _ => H3.out)
    · have H3 := Lib.hid h3
      have HS3 : Hid (S0 W3) := HX.out _ h3
      clear hy h3
      gi_wp2
      (with_reducible refine outQ_normal ?_ ?_); exact ⟨⟨_, HS3.out⟩, rfl⟩
      (repeat ((with_reducible refine wpMix_take (by with_unfolding_all exact rfl) ?_); (with_reducible (show wpQuiet _ _ _ _ (_ :: _) _)); go_big_quiet_step (fail); (with_reducible refine wpQuiet_nil ?_)))
      ((with_reducible refine wpMix_skip (by with_unfolding_all exact rfl) (by with_unfolding_all exact rfl) ⟨⟨_, HS3.out⟩, rfl⟩ ?_); simp only [Act.put, List.setIfInBounds_toArray, List.set_cons_succ, List.set_cons_zero])
      ((with_reducible refine wpMix_skip (by with_unfolding_all exact rfl) (by with_unfolding_all exact rfl) ⟨⟨_, HS3.out⟩, rfl⟩ ?_); simp only [Act.put, List.setIfInBounds_toArray, List.set_cons_succ, List.set_cons_zero])
      (repeat ((with_reducible refine wpMix_take (by with_unfolding_all exact rfl) ?_); (with_reducible (show wpQuiet _ _ _ _ (_ :: _) _)); go_big_quiet_step (fail); (with_reducible refine wpQuiet_nil ?_)))
      with_reducible refine wpMix_nil ?_
      refine NoPanic.normal ?_
      exact HQ.out _ _ _ _ _ _ _ _ _ _ _ _ _ _ _ _ _ _ _ _ _ _ _ true W3 (fun _ => H3.out) (fun h => by cases h)
  | true =>
    cases ah with
    | true =>
        refine wpIn_noPanic ?_
        refine region_mix (inS S0) [(true,0),(true,1),(false,2),(true,3),(true,4),(true,5),(true,6),(true,7),(true,8),(true,9),(true,10),(true,11),(true,12),(true,13),(true,14),(true,15),(true,16),(true,17),(true,18),(false,19),(false,20),(true,21),(true,22),(true,23)] hmx (by kernel_rfl) (fun _ _ _ _ _ h => h) ⟨⟨_, HW.out⟩, rfl⟩ ?_
        (repeat ((with_reducible refine wpMix_take (by with_unfolding_all exact rfl) ?_); (with_reducible (show wpQuiet _ _ _ _ (_ :: _) _)); go_big_quiet_step (fail); (with_reducible refine wpQuiet_nil ?_)))
        (with_reducible refine wpMix_one (by with_unfolding_all exact rfl) ?_)
        gi_wp2
        refine HRd.out.mono ?_
        rintro e W3 (⟨rfl, h3⟩ | ⟨rfl, h3⟩)
        · have H3 := Lib.hid h3
          have HS3 : Hid (S0 W3) := HA.out _ h3
          clear hy h3
          gi_wp2
          (with_reducible refine outQ_normal ?_ ?_); exact ⟨⟨_, HS3.out⟩, rfl⟩
          (repeat ((with_reducible refine wpMix_take (by with_unfolding_all exact rfl) ?_); (with_reducible (show wpQuiet _ _ _ _ (_ :: _) _)); go_big_quiet_step (fail); (with_reducible refine wpQuiet_nil ?_)))
          ((with_reducible refine wpMix_skip (by with_unfolding_all exact rfl) (by with_unfolding_all exact rfl) ⟨⟨_, HS3.out⟩, rfl⟩ ?_); simp only [Act.put, List.setIfInBounds_toArray, List.set_cons_succ, List.set_cons_zero])
          ((with_reducible refine wpMix_skip (by with_unfolding_all exact rfl) (by with_unfolding_all exact rfl) ⟨⟨_, HS3.out⟩, rfl⟩ ?_); simp only [Act.put, List.setIfInBounds_toArray, List.set_cons_succ, List.set_cons_zero])
          (repeat ((with_reducible refine wpMix_take (by with_unfolding_all exact rfl) ?_); (with_reducible (show wpQuiet _ _ _ _ (_ :: _) _)); go_big_quiet_step (fail); (with_reducible refine wpQuiet_nil ?_)))
          with_reducible refine wpMix_nil ?_
          refine NoPanic.normal ?_
          exact HQ.out _ _ _ _ _ _ _ _ _ _ _ _ _ _ _ _ _ _ _ _ _ _ _ false W3 (fun h => by cases h) (fun _ => H3.out)
        · have H3 := Lib.hid h3
          have HS3 : Hid (S0 W3) := HX.out _ h3
          clear hy h3
          gi_wp2
          (with_reducible refine outQ_normal ?_ ?_); exact ⟨⟨_, HS3.out⟩, rfl⟩
          (repeat ((with_reducible refine wpMix_take (by with_unfolding_all exact rfl) ?_); (with_reducible (show wpQuiet _ _ _ _ (_ :: _) _)); go_big_quiet_step (fail); (with_reducible refine wpQuiet_nil ?_)))
          ((with_reducible refine wpMix_skip (by with_unfolding_all exact rfl) (by with_unfolding_all exact rfl) ⟨⟨_, HS3.out⟩, rfl⟩ ?_); simp only [Act.put, List.setIfInBounds_toArray, List.set_cons_succ, List.set_cons_zero])
          ((with_reducible refine wpMix_skip (by with_unfolding_all exact rfl) (by with_unfolding_all exact rfl) ⟨⟨_, HS3.out⟩, rfl⟩ ?_); simp only [Act.put, List.setIfInBounds_toArray, List.set_cons_succ, List.set_cons_zero])
          (repeat ((with_reducible refine wpMix_take (by with_unfolding_all exact rfl) ?_); (with_reducible (show wpQuiet _ _ _ _ (_ :: _) _)); go_big_quiet_step (fail); (with_reducible refine wpQuiet_nil ?_)))
          with_reducible refine wpMix_nil ?_
          refine NoPanic.normal ?_
          exact HQ.out _ _ _ _ _ _ _ _ _ _ _ _ _ _ _ _ _ _ _ _ _ _ _ true W3 (fun _ => H3.out) (fun h => by cases h)
    | false =>
        refine wpIn_noPanic ?_
        refine region_mix (inS S0) [(true,0),(true,1),(false,2),(true,3),(true,4),(true,5),(true,6),(true,7),(true,8),(true,9),(true,10),(true,11),(true,12),(true,13),(true,14),(true,15),(true,16),(true,17),(true,18),(false,19),(false,20),(true,21),(true,22),(true,23)] hmx (by kernel_rfl) (fun _ _ _ _ _ h => h) ⟨⟨_, HW.out⟩, rfl⟩ ?_
        (repeat ((with_reducible refine wpMix_take (by with_unfolding_all exact rfl) ?_); (with_reducible (show wpQuiet _ _ _ _ (_ :: _) _)); go_big_quiet_step (fail); (with_reducible refine wpQuiet_nil ?_)))
        (with_reducible refine wpMix_one (by with_unfolding_all exact rfl) ?_)
        gi_wp2
        refine HRd.out.mono ?_
        rintro e W3 (⟨rfl, h3⟩ | ⟨rfl, h3⟩)
        · have H3 := Lib.hid h3
          have HS3 : Hid (S0 W3) := HA.out _ h3
          have HNo := Lib.hid (nought_any C sz hsz W3 (HS.out _ HS3.out).2.2.2.2.2.2.2)
          obtain ⟨fn2, tmps2, assign2, body2, hy2, hR2⟩ := HY2.out (by trivial) (by trivial) W3 _ h3 (show Below W3.heap.size W3 (W3.alloc (.cells (madeCells #[.int .u8 0] sz) 5)) by (repeat (first | (with_reducible refine Below.drew ?_) | (with_reducible refine below_drewN0 ?_ _) | ((with_reducible refine Below.setCell ?_ ?_ _); rotate_left; focus (first | omega | (simp; done) | (simp; omega) | (simp at *; omega))) | ((with_reducible refine Below.alloc ?_ ?_ _); rotate_left; focus (first | omega | (simp; done) | (simp; omega) | (simp at *; omega))) | (with_reducible exact Below.refl _ _))))
          have HR2 := Lib.hid hR2
          have HS4 : Hid (S0 (W3.alloc (.cells (madeCells #[.int .u8 0] sz) 5))) := HSb.out _ _ HS3.out (by (repeat (first | (with_reducible refine Below.drew ?_) | (with_reducible refine below_drewN0 ?_ _) | ((with_reducible refine Below.setCell ?_ ?_ _); rotate_left; focus (first | omega | (simp; done) | (simp; omega) | (simp at *; omega))) | ((with_reducible refine Below.alloc ?_ ?_ _); rotate_left; focus (first | omega | (simp; done) | (simp; omega) | (simp at *; omega))) | (with_reducible exact Below.refl _ _))))
          clear hy h3 hR2
          gi_wp2
          (with_reducible refine outQ_normal ?_ ?_); exact ⟨⟨_, HS3.out⟩, rfl⟩
          (repeat ((with_reducible refine wpMix_take (by with_unfolding_all exact rfl) ?_); (with_reducible (show wpQuiet _ _ _ _ (_ :: _) _)); go_big_quiet_step (fail); (with_reducible refine wpQuiet_nil ?_)))
          (with_reducible refine wpMix_one (by with_unfolding_all exact rfl) ?_)
          gi_wp2_with fail
          refine ((callsIn_wide (n := n - 1)).2 HNo.out).mono ?_
          rintro e W4 ⟨rfl, hW4⟩
          subst hW4
          gi_wp2
          (with_reducible refine outQ_normal ?_ ?_); exact ⟨⟨_, HS4.out⟩, rfl⟩
          (with_reducible refine wpMix_one (by with_unfolding_all exact rfl) ?_)
          gi_wp2
          refine HR2.out.mono ?_
          rintro e W5 (⟨rfl, h5⟩ | ⟨rfl, h5⟩)
          · have H5 := Lib.hid h5
            have HS5 : Hid (S0 W5) := HB.out _ h5
            clear hy2 h5
            gi_wp2
            (with_reducible refine outQ_normal ?_ ?_); exact ⟨⟨_, HS5.out⟩, rfl⟩
            (repeat ((with_reducible refine wpMix_take (by with_unfolding_all exact rfl) ?_); (with_reducible (show wpQuiet _ _ _ _ (_ :: _) _)); go_big_quiet_step (fail); (with_reducible refine wpQuiet_nil ?_)))
            with_reducible refine wpMix_nil ?_
            refine NoPanic.normal ?_
            exact HQ.out _ _ _ _ _ _ _ _ _ _ _ _ _ _ _ _ _ _ _ _ _ _ _ false W5 (fun h => by cases h) (fun _ => H5.out)
          · have H5 := Lib.hid h5
            have HS5 : Hid (S0 W5) := HX.out _ h5
            clear hy2 h5
            gi_wp2
            (with_reducible refine outQ_normal ?_ ?_); exact ⟨⟨_, HS5.out⟩, rfl⟩
            (repeat ((with_reducible refine wpMix_take (by with_unfolding_all exact rfl) ?_); (with_reducible (show wpQuiet _ _ _ _ (_ :: _) _)); go_big_quiet_step (fail); (with_reducible refine wpQuiet_nil ?_)))
            with_reducible refine wpMix_nil ?_
            refine NoPanic.normal ?_
            exact HQ.out _ _ _ _ _ _ _ _ _ _ _ _ _ _ _ _ _ _ _ _ _ _ _ true W5 (fun _ => H5.out) (fun h => by cases h)
        · have H3 := Lib.hid h3
          have HS3 : Hid (S0 W3) := HX.out _ h3
          clear hy h3
          gi_wp2
          (with_reducible refine outQ_normal ?_ ?_); exact ⟨⟨_, HS3.out⟩, rfl⟩
          (repeat ((with_reducible refine wpMix_take (by with_unfolding_all exact rfl) ?_); (with_reducible (show wpQuiet _ _ _ _ (_ :: _) _)); go_big_quiet_step (fail); (with_reducible refine wpQuiet_nil ?_)))
          ((with_reducible refine wpMix_skip (by with_unfolding_all exact rfl) (by with_unfolding_all exact rfl) ⟨⟨_, HS3.out⟩, rfl⟩ ?_); simp only [Act.put, List.setIfInBounds_toArray, List.set_cons_succ, List.set_cons_zero])
          ((with_reducible refine wpMix_skip (by with_unfolding_all exact rfl) (by with_unfolding_all exact rfl) ⟨⟨_, HS3.out⟩, rfl⟩ ?_); simp only [Act.put, List.setIfInBounds_toArray, List.set_cons_succ, List.set_cons_zero])
          (repeat ((with_reducible refine wpMix_take (by with_unfolding_all exact rfl) ?_); (with_reducible (show wpQuiet _ _ _ _ (_ :: _) _)); go_big_quiet_step (fail); (with_reducible refine wpQuiet_nil ?_)))
          with_reducible refine wpMix_nil ?_
          refine NoPanic.normal ?_
          exact HQ.out _ _ _ _ _ _ _ _ _ _ _ _ _ _ _ _ _ _ _ _ _ _ _ true W3 (fun _ => H3.out) (fun h => by cases h)
end Go.Proofs.Ytomigaldomiefaa
