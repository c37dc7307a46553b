/- crash: right. -/
import Derived.Test.YtomigaldomiefaaCrMem
namespace Go.Proofs.Ytomigaldomiefaa
open Go.RowKit Go.MapKept Go.ChangeMaps
set_option linter.unusedVariables false
set_option linter.unusedSimpArgs false

abbrev blkV (v : Value) : List Nat := v.ownBlock.toList
theorem turns_own {w w' : World} {v : Value} (h : w.grownBy w' v.ownBlock) : Turns w w' (blkV v) :=
  ⟨h.os, h.tape, h.output, h.size, fun k hk hn => h.block k hk (fun e => hn (by unfold blkV; rw [← e]; simp))⟩
theorem src_new {w : World} {t : TypeId} {cs : List Value} {sz : Nat} (h : cs.length = 1 * sz) : Src (w.alloc (.cells cs.toArray t)) sz (some ⟨w.heap.size, 0, none⟩) 1 cs :=
  Src.of_at h (fun j u hu => by
    rw [addr_add, Nat.zero_add, (Row.fresh w t cs.toArray).cell]
    simpa using hu)
theorem own_blk {w : World} {B : Nat} {e : TypeId} {sz n : Nat} {v : Value} {xs : List Value} (h : w.ownsRow B e sz v n xs) {k : Nat} (hk : k ∈ blkV v) : B ≤ k ∧ k < w.heap.size ∧ ∃ cs, Row w k e cs := by
  rcases h.2 with ⟨e1, _⟩ | ⟨g', cap, cur, e1, hb, h1, _⟩
  · rw [e1] at hk; cases hk
  · rw [e1] at hk
    obtain rfl : k = g' := by simpa [blkV, Value.ownBlock] using hk
    exact ⟨hb, Row.lt h1, cur, h1⟩
theorem DatIs.aside {w w' : World} {B : Nat} {v : Value} {l : List Nat} {T : List Nat} (h : DatIs w B v l) (ht : Turns w w' T) (hT : ∀ g ∈ T, ∃ ty cs, Row w g ty cs ∧ ty ≠ 5) : DatIs w' B v l :=
  ⟨h.small, h.short, ht.own h.own fun g hg hm => by
    obtain ⟨ty, cs, hr, hne⟩ := hT g hm
    obtain ⟨_, _, cs', hr'⟩ := own_blk h.own (k := g) (by unfold blkV; rw [hg]; simp)
    exact Row.ne_type hr hr' hne rfl⟩
theorem rightL_take (n sz : Nat) (its : List Ws) (k : Nat) (x : Ws) (hx : its[k]? = some x) : rightL n sz (its.take (k + 1)) = rightL n sz (its.take k) ++ (if 0 ≤ x.s ∧ x.s < (n : Int) ∧ x.l.length = sz then [x.key] else []) := by
  have e : its.take (k + 1) = its.take k ++ [x] := by rw [List.take_add_one, hx]; rfl
  unfold rightL
  rw [e, List.filter_append, List.map_append]
  congr 1
  by_cases h : 0 ≤ x.s ∧ x.s < (n : Int) ∧ x.l.length = sz <;> simp [h]
/-- Amid right. -/
structure Rt (w wr : World) (out : Value) (l : List Wr) (js : List Ws) (k : Nat) : Prop where
  eq : js.map Ws.key = l
  le : js.length ≤ k
  own : wr.ownsRow w.heap.size 30 3 out js.length (wrsV js)
  dat : ∀ x ∈ js, x.a = 0 ∧ 0 ≤ x.s ∧ DatIs wr w.heap.size (.slice x.A x.l.length x.c) x.l
  bel : Below w.heap.size w wr
section
variable {w wr wr' : World} {out : Value} {l : List Wr} {js : List Ws} {k : Nat}
theorem Rt.below (h : Rt w wr out l js k) (hb : Below wr.heap.size wr wr') : Rt w wr' out l js k :=
  ⟨h.eq, h.le, own_below h.own hb, fun x hx => ⟨(h.dat x hx).1, (h.dat x hx).2.1, (h.dat x hx).2.2.small, (h.dat x hx).2.2.short, own_below (h.dat x hx).2.2.own hb⟩, h.bel.trans (hb.mono h.bel.size)⟩
theorem Rt.skip (h : Rt w wr out l js k) : Rt w wr out l js (k + 1) := ⟨h.eq, by have := h.le; omega, h.own, h.dat, h.bel⟩
theorem Rt.done (h : Rt w wr out l js k) : WrsIs wr w.heap.size out l := ⟨js, h.eq.symm, h.own, h.dat⟩
end
set_option maxRecDepth 100000 in
set_option maxHeartbeats 4000000 in
theorem right_any (C n sz : Nat) (A : Option Addr) (c : Nat) (its : List Ws) (hlen : its.length ≤ 3518437208883) (hsz : sz ≤ 65536) (w : World) (hW : Writes w A its) (c0 : w.cell? ⟨C, 0, none⟩ = some (.int .i64 n)) (c1 : w.cell? ⟨C, 1, none⟩ = some (.int .i64 sz)) :
    Calls Try.prog 34 #[.pointer (some ⟨C, 0, none⟩), .slice A its.length c] w fun e w' => ∃ v, e = .returned v ∧ WrsIs w' w.heap.size v (rightL n sz its) ∧ Below w.heap.size w w' := by
  obtain ⟨i0, hi, hz0, hz1, hz2⟩ := info_parts write_info
  have HTh : Hid (∀ wr s, Below w.heap.size w wr → Calls Try.prog 41 #[.pointer (some ⟨C, 0, none⟩), .int .i64 s] wr fun e w' => e = .returned (.bool (decide (0 ≤ s ∧ s < (n : Int)))) ∧ wr = w') := fun wr s hb => there_any C n s wr (keep_below hb _ _ c0)
  have HC1 : Hid (∀ wr, Below w.heap.size w wr → wr.cell? ⟨C, 1, none⟩ = some (.int .i64 sz)) := fun wr hb => keep_below hb _ _ c1
  have HW := Lib.hid hW
  obtain ⟨ln, hln⟩ : ∃ ln, ln = its.length := ⟨_, rfl⟩
  have HLn := Lib.hid hln
  rw [← hln] at hlen ⊢
  clear hW hln c0 c1
  go_enter Try.func34, Try.ntmps34
  go_wp2
  go_loopw [5, 7, 10] (fun out zp i wr => ∃ (k : Nat) (js : List Ws), k ≤ ln ∧ i = .int .i64 k ∧ Rt w wr out (rightL n sz (its.take k)) js k) (fun _ _ i _ => ln - (intOf i).toNat)
  case atStart => exact ⟨0, [], by omega, rfl, rfl, Nat.le_refl _, World.ownsRow_nil _ _ _ _, by simp, Below.refl _ _⟩
  case round =>
    obtain ⟨k, js, hk, rfl, hrt⟩ := hrel
    by_cases hkn : k < ln
    · obtain ⟨x, hx⟩ : ∃ x, its[k]? = some x := ⟨_, List.getElem?_eq_getElem (by rw [← HLn.out]; exact hkn)⟩
      obtain ⟨⟨b, off, e1, hc⟩, hax⟩ := HW.out.at0 k x hx
      subst e1
      have HSt := Lib.hid (rightL_take n sz its k x hx)
      have hbel := hrt.bel
      have q0 : wr.cell? ⟨b, off + k * 3, none⟩ = some (.int .i64 x.a) := keep_below hbel _ _ (hc 0 _ rfl)
      have q1 : wr.cell? ⟨b, off + k * 3 + 1, none⟩ = some (.int .i64 x.s) := by rw [Nat.add_assoc]; exact keep_below hbel _ _ (hc 1 _ rfl)
      have q2 : wr.cell? ⟨b, off + k * 3 + 2, none⟩ = some (.slice x.A x.l.length x.c) := by rw [Nat.add_assoc]; exact keep_below hbel _ _ (hc 2 _ rfl)
      obtain ⟨wz, hwz⟩ : ∃ wz, wz = wr.alloc (.cells #[.int .i64 x.a, .int .i64 x.s, .slice x.A x.l.length x.c] 30) := ⟨_, rfl⟩
      have HBz : Hid (Below wr.heap.size wr wz) := by unfold Hid; rw [hwz]; (repeat (first | (with_reducible refine Below.drew ?_) | (with_reducible refine below_drewN0 ?_ _) | ((with_reducible refine Below.setCell ?_ ?_ _); rotate_left; focus (first | omega | (simp; done) | (simp; omega) | (simp at *; omega))) | ((with_reducible refine Below.alloc ?_ ?_ _); rotate_left; focus (first | omega | (simp; done) | (simp; omega) | (simp at *; omega))) | (with_reducible exact Below.refl _ _)))
      have HRz : Hid (Row wz wr.heap.size 30 #[.int .i64 x.a, .int .i64 x.s, .slice x.A x.l.length x.c]) := by unfold Hid; rw [hwz]; exact Row.fresh _ _ _
      have HRt := Lib.hid (hrt.below HBz.out)
      have HZo : Hid (∀ g, g ∈ blkV u5 → g ≠ wr.heap.size) := fun g hg => by have := (own_blk hrt.own hg).2.1; omega
      have HAx : Hid (∀ wr, Below w.heap.size w wr → ArgW wr x) := fun wr hb => hax.keep (keep_below hb)
      have HTx := Lib.hid (fun m => HTh.out (wz.drewN m) x.s (below_drewN0 HRt.out.bel m))
      have HCx := Lib.hid (HC1.out wz HRt.out.bel)
      clear hrt hc hax hx hbel
      obtain ⟨xa, xs, xA, xc, xl⟩ := x
      simp only [Ws.key] at HSt HBz HRz HAx HTx q0 q1 q2 hwz ⊢
      obtain ⟨m, hm⟩ : ∃ m, m = xl.length := ⟨_, rfl⟩
      have HM := Lib.hid hm
      rw [← hm] at HSt HRz q2 hwz
      by_cases hin : 0 ≤ xs ∧ xs < (n : Int)
      · rw [decide_eq_true hin] at HTx
        by_cases hms : m = sz
        · have HSt2 : Hid (rightL n sz (its.take (k + 1)) = rightL n sz (its.take k) ++ [(xs.toNat, xl)]) := by unfold Hid; rw [HSt.out, if_pos ⟨hin.1, hin.2, hms⟩]
          have HX0 : Hid (0 ≤ xs) := hin.1
          have HSm : Hid (∀ u ∈ xl, u < 256) := (HAx.out w (Below.refl _ _)).small
          have HSr : Hid (∀ wr, Below w.heap.size w wr → Src wr 1 xA m (intsV .u8 xl)) := fun wr hb => by rw [hm]; exact (HAx.out wr hb).src
          have hm1 : m ≤ 65536 := by omega
          have hjs := HRt.out.le
          subst hms
          clear hm HAx HSt hin
          go_wp2
          rw [← hwz]
          have z1 := HRz.out.cell 1
          have z2 := HRz.out.cell 2
          have c1 := HCx.out
          simp only [List.getElem?_toArray, List.getElem?_cons_zero, List.getElem?_cons_succ] at z1 z2
          clear hwz q0 q1 q2
          generalize wr.heap.size = Z at *
          go_quiet ((go_at_call 41; refine Calls.quiet_of_same ((HTx.out _).mono fun e w' h => ⟨h.1, h.2.symm⟩)))
          have HRq := Lib.hid (HRt.out.below (below_drewN0 (Below.refl _ _) nq))
          have HRzq : Hid (Row (wz.drewN nq) Z 30 #[.int .i64 xa, .int .i64 xs, .slice xA m xc]) := HRz.out
          clear HRt HTx z1 z2 c1 HRz HBz HCx
          generalize wz.drewN nq = wq at *
          have hZn : Z ∉ blkV u5 := fun hm => HZo.out Z hm rfl
          have k1 : ∀ t : Kept wq (blkV u5), t.u.cell? ⟨Z, 1, none⟩ = some (.int .i64 xs) := fun t => (t.h.row HRzq.out hZn).cell 1
          have k2 : ∀ t : Kept wq (blkV u5), t.u.cell? ⟨Z, 2, none⟩ = some (.slice xA m xc) := fun t => (t.h.row HRzq.out hZn).cell 2
          have HCl := Lib.hid (CloneB_any xA m xc (intsV .u8 xl) (by unfold reachBytes; omega) wq.drew (HSr.out _ HRq.out.bel.drew) (intsV_one .u8 xl))
          clear hZn HZo
          go_wp2
          (refine region_kept (blkV u5) [0, 1, 2, 3, 4] [5, 6, 7, 8, 9] (by kernel_rfl) (by kernel_rfl) (fun _ _ _ _ _ h => h) ?_; simp only [List.filterMap_cons, List.getElem?_cons_zero, List.getElem?_cons_succ, List.filterMap_nil]; (repeat ((show wpQuiet _ _ _ _ (_ :: _) _); go_big_quiet_step (fail))); refine wpQuiet_nil ?_)
          clear k1 k2
          refine wpSeqS_step ?_
          go_wp2_with fail
          refine HCl.out.mono ?_
          rintro e w4 ⟨A4, c4, rfl, ho4, hb4⟩
          have HB4 : Hid (Below wq.heap.size wq w4) := (Below.refl _ _).drew.trans hb4
          have HD4 : Hid (DatIs w4 w.heap.size (.slice A4 m c4) xl) := ⟨HSm.out, by rw [← HM.out]; unfold reachBytes; omega, by rw [← HM.out]; exact own_mono ho4 HRq.out.bel.size⟩
          clear HCl ho4 hb4
          go_wp2_with fail
          refine outQ_normal (Turns.of_below HB4.out _) ?_
          refine wpSeqS_step ?_
          go_wp2_with fail
          refine outQ_normal (Turns.of_below HB4.out _) ?_
          refine wpSeqS_step ?_
          go_wp2_with fail
          refine outQ_normal ((Turns.of_below HB4.out _).alloc _) ?_
          have HR5 := Lib.hid (HRq.out.below (HB4.out.alloc HB4.out.size (.cells #[.int .i64 0, .int .i64 xs, .slice A4 m c4] 30)))
          have HS5 := Lib.hid (src_new (w := w4) (t := 30) (cs := [.int .i64 0, .int .i64 xs, .slice A4 m c4]) (sz := 3) rfl)
          refine wpSeqS_step (wpList_append_src _ rfl (.tmp 28) (.tmp 35) 23 rfl w.heap.size 30 i0 _ 3 40 Try.underlying23 hi hz0 hz1 hz2 rfl (by decide) _ js.length (wrsV js) rfl HR5.out.own (some ⟨w4.heap.size, 0, none⟩) 1 1 _ rfl HS5.out (by have := wrsV_one [⟨0, xs, A4, c4, xl⟩]; simpa [wrsV, Ws.wr, ← HM.out] using this) (by unfold maxLen; omega) (by omega) (by have := HR5.out.bel.size; exact this) ?_)
          intro v6 w6 hown hgrow hat
          have HT5 : Hid (Turns (w4.alloc (.cells #[.int .i64 0, .int .i64 xs, .slice A4 m c4] 30)) w6 (blkV u5)) := turns_own hgrow
          have HT6 : Hid (Turns wq w6 (blkV u5)) := ((Turns.of_below HB4.out _).alloc _).trans HT5.out (fun k hk => .inl hk)
          refine wpList_nil (outQ_normal HT6.out ?_)
          have HRt6 : Hid (Rt w w6 v6 (rightL n m (its.take (k + 1))) (js ++ [⟨0, xs, A4, c4, xl⟩]) (k + 1)) := by
            have hT : ∀ g ∈ blkV u5, ∃ ty cs, Row (w4.alloc (.cells #[.int .i64 0, .int .i64 xs, .slice A4 m c4] 30)) g ty cs ∧ ty ≠ 5 := fun g hg => by
              obtain ⟨_, _, cs, hr⟩ := own_blk HR5.out.own hg
              exact ⟨_, cs, hr, by decide⟩
            refine ⟨by rw [List.map_append, HR5.out.eq, HSt2.out]; rfl, by simp; exact hjs, ?_, fun y hy => ?_, HT6.out.below HRq.out.bel HRq.out.bel.size (fun g hg => (own_blk HRq.out.own hg).1)⟩
            · have e : wrsV (js ++ [⟨0, xs, A4, c4, xl⟩]) = wrsV js ++ [.int .i64 0, .int .i64 xs, .slice A4 m c4] := by rw [HM.out]; simp [wrsV, Ws.wr]
              rw [e, List.length_append]; exact hown
            · rcases List.mem_append.1 hy with hy | hy
              · exact ⟨(HR5.out.dat y hy).1, (HR5.out.dat y hy).2.1, (HR5.out.dat y hy).2.2.aside HT5.out hT⟩
              · rw [List.mem_singleton.1 hy]
                refine ⟨rfl, HX0.out, ?_⟩
                have h4 : DatIs (w4.alloc (.cells #[.int .i64 0, .int .i64 xs, .slice A4 m c4] 30)) w.heap.size (.slice A4 m c4) xl := ⟨HD4.out.small, HD4.out.short, own_below HD4.out.own ((Below.refl _ _).alloc (Nat.le_refl _) _)⟩
                have := h4.aside HT5.out hT
                rw [HM.out] at this; exact this
          clear hown hgrow hat HS5 HR5 HT5 HD4 HRq HRzq
          refine wpSeqS_last ?_
          go_wp2
          go_roundw
          case rel => exact ⟨k + 1, _, by omega, by go_num, HRt6.out⟩
          case measure => simp [intOf]; omega
        · have HSt2 : Hid (rightL n sz (its.take (k + 1)) = rightL n sz (its.take k)) := by unfold Hid; rw [HSt.out, if_neg (fun h => hms h.2.2), List.append_nil]
          have hmi : ¬ (m : Int) = sz := by omega
          clear hm HAx HSt hin hms
          go_wp2
          rw [← hwz]
          have z1 := HRz.out.cell 1
          have z2 := HRz.out.cell 2
          have c1 := HCx.out
          simp only [List.getElem?_toArray, List.getElem?_cons_zero, List.getElem?_cons_succ] at z1 z2
          clear hwz q0 q1 q2
          generalize wr.heap.size = Z at *
          go_quiet ((go_at_call 41; refine Calls.quiet_of_same ((HTx.out _).mono fun e w' h => ⟨h.1, h.2.symm⟩)))
          have HRt2 := Lib.hid (HRt.out.below (below_drewN0 (Below.refl _ _) nq)).skip
          clear HRt HTx z1 z2 c1 HRz HBz HZo HCx
          go_wp2
          go_roundw
          case rel => exact ⟨k + 1, js, by omega, by go_num, by rw [HSt2.out]; exact HRt2.out⟩
          case measure => simp [intOf]; omega
      · rw [decide_eq_false hin] at HTx
        have HSt2 : Hid (rightL n sz (its.take (k + 1)) = rightL n sz (its.take k)) := by unfold Hid; rw [HSt.out, if_neg (fun h => hin ⟨h.1, h.2.1⟩), List.append_nil]
        clear hm HAx HSt HCx hin
        go_wp2
        rw [← hwz]
        have z1 := HRz.out.cell 1
        simp only [List.getElem?_toArray, List.getElem?_cons_zero, List.getElem?_cons_succ] at z1
        clear hwz q0 q1 q2
        generalize wr.heap.size = Z at *
        go_quiet ((go_at_call 41; refine Calls.quiet_of_same ((HTx.out _).mono fun e w' h => ⟨h.1, h.2.symm⟩)))
        have HRt2 := Lib.hid (HRt.out.below (below_drewN0 (Below.refl _ _) nq)).skip
        clear HRt HTx z1 HRz HBz HZo
        go_wp2
        go_roundw
        case rel => exact ⟨k + 1, js, by omega, by go_num, by rw [HSt2.out]; exact HRt2.out⟩
        case measure => simp [intOf]; omega
    · obtain rfl : k = ln := by omega
      have hall : its.take k = its := by rw [HLn.out]; exact List.take_length
      rw [hall] at hrt
      have HD := Lib.hid hrt.done
      have HB := Lib.hid hrt.bel
      clear hrt hall
      go_wp2
      go_ret
      exact ⟨_, rfl, HD.out, HB.out⟩
end Go.Proofs.Ytomigaldomiefaa
