/- vcache: Get. -/
import Derived.Test.YtmppegknkeggcaaCacheL
import Derived.Test.YtmppegknkeggcaaTold
import Derived.Test.YtmppegknkeggcaaLaterRound
namespace Go.Proofs.Ytmppegknkeggcaa
open Go.RowKit Go.Shelf
attribute [local go_sem] Oper.semAt_some
set_option linter.unusedVariables false
set_option linter.unusedSimpArgs false

/-- What Get tells. -/
def GetPost (w : World) (items : List It) (a s : Int) (e : Ending) (w' : World) : Prop :=
  (match items.reverse.find? (dropP a s) with
    | none => e = .returned (.tuple #[.slice none 0 0, .bool false])
    | some x => ∃ A' c', e = .returned (.tuple #[.slice A' x.l.length c', .bool true]) ∧ w'.ownsRow w.heap.size 5 1 (.slice A' x.l.length c') x.l.length (intsV .u8 x.l)) ∧ Below w.heap.size w w'
theorem wide_fn (f : FuncId) : Fence.wide.fn f := trivial
attribute [local simp, local go_sem] wide_fn
theorem keep_of {k n : Nat} {w W W' : World} (h : Below n w W) (h' : Below n w W') (hk : k < n) : keepB k W W' := (h'.block k hk).trans (h.block k hk).symm
theorem Get_results (tmps : Array Value) (w W : World) (u v : Value) (h6 : tmps.getD 6 undef = .pointer (some ⟨w.heap.size, 0, none⟩)) (h7 : tmps.getD 7 undef = .pointer (some ⟨w.heap.size + 1, 0, none⟩)) (r0 : W.cell? ⟨w.heap.size, 0, none⟩ = some u) (r1 : W.cell? ⟨w.heap.size + 1, 0, none⟩ = some v) :
    (results Try.f15 tmps).run Try.prog W = .ok (.tuple #[u, v]) W := by
  simp at h6 h7
  simp [results, Try.results15, go_sem, h6, h7, r0, r1]
set_option maxRecDepth 100000 in
set_option maxHeartbeats 2000000 in
theorem Get_in (n : Nat) (hn : 3 ≤ n) (B C mb most c : Nat) (A : Option Addr) (items : List It) (g a s : Int) (w : World) (h : CHeld w B C mb most A c items g) (ha : W64 a) (hs : W64 s) :
    CallsIn Fence.wide n Try.prog 15 #[.pointer (some ⟨C, 0, none⟩), .int .i64 a, .int .i64 s] w (GetPost w items a s) := by
  have h1 : 1 ≤ n := by omega
  obtain ⟨wK, hwK⟩ : ∃ wK, wK = ((w.alloc (.cells #[.slice none 0 0] 30)).alloc (.cells #[.bool false] 4)).alloc (.cells #[.int .i64 a, .int .i64 s] 57) := ⟨_, rfl⟩
  have HBK : Hid (Below w.heap.size w wK) := by unfold Hid; rw [hwK]; (repeat (first | (with_reducible refine Below.drew ?_) | (with_reducible refine below_drewN0 ?_ _) | ((with_reducible refine Below.setCell ?_ ?_ _); rotate_left; focus (first | omega | (simp; done) | (simp; omega) | (simp at *; omega))) | ((with_reducible refine Below.alloc ?_ ?_ _); rotate_left; focus (first | omega | (simp; done) | (simp; omega) | (simp at *; omega))) | (with_reducible exact Below.refl _ _)))
  have HR0 : Hid (Row wK w.heap.size 30 #[.slice none 0 0]) := by unfold Hid; rw [hwK]; exact ((Row.fresh _ _ _).alloc _).alloc _
  have HR1 : Hid (Row wK (w.heap.size + 1) 4 #[.bool false]) := by
    unfold Hid; rw [hwK]
    have := (Row.fresh (w.alloc (.cells #[.slice none 0 0] 30)) 4 #[.bool false]).alloc (.cells #[.int .i64 a, .int .i64 s] 57)
    rw [World.size_alloc] at this; exact this
  have HRK : Hid (Row wK (w.heap.size + 2) 57 #[.int .i64 a, .int .i64 s]) := by
    unfold Hid; rw [hwK]
    have := Row.fresh ((w.alloc (.cells #[.slice none 0 0] 30)).alloc (.cells #[.bool false] 4)) 57 #[.int .i64 a, .int .i64 s]
    rw [World.size_alloc, World.size_alloc] at this; exact this
  have HszK : Hid (wK.heap.size = w.heap.size + 3) := by unfold Hid; rw [hwK]; simp
  have HK := Lib.hid (h.below HBK.out)
  have hlk : ∀ k, (Instr.lookup 52 (.map (some mb)) (.agg #[.int .i64 a, .int .i64 s]) false).run Try.prog (wK.drewN k) = .ok (.int .i64 (cntI items a s)) (wK.drewN k) := fun k => CntIs.look (w := wK.drewN k) HK.out.cnt ha hs
  obtain ⟨_, q1, _, q3⟩ := HK.out.cells
  have p0 := HRK.out.cell 0
  have p1 := HRK.out.cell 1
  have r0 := HR0.out.cell 0
  have r1 := HR1.out.cell 0
  have z0 := HR0.out.frozen 0
  have z1 := HR1.out.frozen 0
  simp at p0 p1 r0 r1
  obtain ⟨q, hq⟩ : ∃ q, q = cntI items a s := ⟨_, rfl⟩
  have HQ := Lib.hid hq
  rw [← hq] at hlk
  have H := Lib.hid h
  clear h ha hs hq
  refine callsIn_of_wp_marks Try.func15 rfl trivial ?_ rfl
  simp only [Try.ntmps15, List.size_toArray, List.length_cons, List.length_nil, Nat.reduceAdd, Nat.reduceSub, Array.replicate_succ, Array.replicate_zero, List.push_toArray, List.append_toArray, List.nil_append, List.cons_append]
  refine wpIn_wide.2 ?_
  go_wp2
  rw [← hwK]
  clear hwK
  by_cases hz : q = 0
  · subst hz
    go_quiet (fail)
    go_wp2
    have HB : Hid (Below w.heap.size w (((wK.drewN nq).setCell ⟨w.heap.size, 0, none⟩ (.slice none 0 0)).setCell ⟨w.heap.size + 1, 0, none⟩ (.bool false))) := by
      have hb := HBK.out
      unfold Hid; (have hsz0 := Below.size hb; repeat (first | (with_reducible refine Below.drew ?_) | (with_reducible refine below_drewN0 ?_ _) | ((with_reducible refine Below.setCell ?_ ?_ _); rotate_left; focus (first | omega | (simp; done) | (simp; omega) | (simp at *; omega))) | ((with_reducible refine Below.alloc ?_ ?_ _); rotate_left; focus (first | omega | (simp; done) | (simp; omega) | (simp at *; omega))) | ((with_reducible refine Below.trans ?_ (Below.mono hb ?_)); rotate_left; focus (first | omega | (simp; done) | (simp; omega) | (simp at *; omega))) | (with_reducible exact Below.refl _ _)))
    refine ⟨_, Get_results _ w _ (.slice none 0 0) (.bool false) rfl rfl ?_ ?_, ?_, HB.out⟩
    · exact (((HR0.out.drewN nq).put 0 (.slice none 0 0)).far (by simp) (.bool false)).cell 0
    · exact (((HR1.out.drewN nq).far (by simp) (.slice none 0 0)).put 0 (.bool false)).cell 0
    · have : items.reverse.find? (dropP a s) = none := by
        rw [List.find?_eq_none]
        intro x hx
        rw [List.mem_reverse] at hx
        have h0 : (items.filter fun x => decide (x.a = a ∧ x.s = s)) = [] := List.eq_nil_of_length_eq_zero (by have := HQ.out; unfold cntI at this; omega)
        intro hp
        have : x ∈ items.filter fun x => decide (x.a = a ∧ x.s = s) := List.mem_filter.2 ⟨hx, hp⟩
        rw [h0] at this; cases this
      rw [this]
  · have hz2 : decide (q = 0) = false := by simp [hz]
    go_quiet (fail)
    have HBk := Lib.hid (Backward_any (.slice A items.length c) A items.length c (wK.drewN nq))
    clear hlk
    go_wp2_with fail
    refine HBk.out.mono ?_
    rintro e w4 ⟨rfl, hw4⟩
    have HR4 : Hid (Row w4 (w.heap.size + 3) 53 #[.slice A items.length c]) := by
      unfold Hid; rw [hw4, ← HszK.out]; exact Row.fresh (wK.drewN nq) _ _
    have HB4 : Hid (Below wK.heap.size wK w4) := by unfold Hid; rw [hw4]; (repeat (first | (with_reducible refine Below.drew ?_) | (with_reducible refine below_drewN0 ?_ _) | ((with_reducible refine Below.setCell ?_ ?_ _); rotate_left; focus (first | omega | (simp; done) | (simp; omega) | (simp at *; omega))) | ((with_reducible refine Below.alloc ?_ ?_ _); rotate_left; focus (first | omega | (simp; done) | (simp; omega) | (simp at *; omega))) | (with_reducible exact Below.refl _ _)))
    have hsz4 : w4.heap.size = w.heap.size + 4 := by rw [hw4]; simp [HszK.out]
    rw [show (wK.drewN nq).heap.size = w.heap.size + 3 from HszK.out]
    have H4 := Lib.hid (HK.out.below HB4.out)
    have HO4 : Hid (CHeld w4 B C mb most A c items g) := H4.out
    clear hw4 HBk q1 q3 p0 p1 r0 r1 z0 z1
    go_wp2
    refine (wpIn_wide (n := n)).1 ?_
    have hLk : (A.map (·.block)).getD 0 < w4.heap.size := by
      rcases H4.out.own.head with ⟨e, _⟩ | ⟨L, e⟩
      · rw [e]; simp; omega
      · obtain ⟨_, cur, hr⟩ := H4.out.own.block_row L (by simp [blk, e])
        rw [e]; simpa using hr.lt
    have hBC : Hid (∀ W, Below w.heap.size w W → CHeld W B C mb most A c items g) := fun W hW => H.out.below hW
    refine wpIn_range_told rfl h1 (gf := 31) (lb := #[.pointer (some ⟨w.heap.size + 3, 0, none⟩)]) rfl trivial (enters_of Try.func31 (by kernel_rfl) rfl)
      (told_of_stops (Back_stops Fence.wide (n - 1) trivial rfl (by omega) (w.heap.size + 3) B c A items (by have := H.out.few; omega) w4 HR4.out H4.out.own)) (fun h k => ⟨Eq.trans k.1 h.1, Eq.trans k.2 h.2⟩) ?kb (Below.refl _ _) (fun _ => rfl)
      (fun pre W => Below w4.heap.size w4 W ∧ ∀ y ∈ pre, dropP a s y.1.2 = false)
      (fun cd pre W => cd = .ret ∧ ∃ (pre0 : List (Pl items)) (y : Pl items) (A' : Option Addr) (c' : Nat), pre = pre0 ++ [y] ∧ (∀ z ∈ pre0, dropP a s z.1.2 = false) ∧ dropP a s y.1.2 = true ∧
        (Row W w.heap.size 30 #[.slice A' y.1.2.l.length c'] ∧ Row W (w.heap.size + 1) 4 #[.bool true] ∧ W.ownsRow w.heap.size 5 1 (.slice A' y.1.2.l.length c') y.1.2.l.length (intsV .u8 y.1.2.l)) ∧ Below w.heap.size w W)
      ?iown ?ixown ?i0 (fun pre x a' W => ∃ b, a' = { tmps := #[.pointer (some ⟨C, 0, none⟩), .int .i64 a, .int .i64 s, undef, undef, undef, .pointer (some ⟨w.heap.size, 0, none⟩), .pointer (some ⟨w.heap.size + 1, 0, none⟩), .pointer (some ⟨w.heap.size + 1 + 1, 0, none⟩), undef, .pointer (some ⟨b, 0, none⟩), .int .i64 a, .int .i64 s, .agg #[.int .i64 a, .int .i64 s],
          .pointer (some ⟨C, 0, none⟩), .pointer (some ⟨C, 0, none⟩), .pointer (some ⟨C, 3, none⟩), .map (some mb), .agg #[.int .i64 a, .int .i64 s], .int .i64 q, .bool false, .pointer (some ⟨C, 0, none⟩), .pointer (some ⟨C, 0, none⟩), .pointer (some ⟨C, 1, none⟩), .slice A items.length c, .func (.func 31) #[] #[.pointer (some ⟨w.heap.size + 3, 0, none⟩)], .int .i64 (x.1.1 : Nat), x.1.2.agg, undef, undef, undef, undef, undef, undef, undef, undef, undef], defers := [] } ∧
        Row W b 61 #[.int .i64 x.1.2.a, .int .i64 x.1.2.s, .slice x.1.2.A x.1.2.l.length x.1.2.c, .int .i64 x.1.2.g] ∧ Below w4.heap.size w4 W ∧ ∀ y ∈ pre, dropP a s y.1.2 = false) ?axown ?assign ?body ?done ?stop
    case kb =>
      intro W l o o' hl h _ _
      exact ⟨World.putObj_heap_other (by omega), World.putObj_heap_other (by omega)⟩
    case iown => exact OwnFrom.and (ownFrom_below (Nat.le_refl _) (Nat.le_refl _)) (fun _ _ _ _ hs _ _ => hs)
    case ixown =>
      rintro cd pre W W' row ⟨rfl, pre0, y, A', c', e1, e2, e3, ⟨h0, h1', h2⟩, hb⟩ hg hr
      exact ⟨rfl, pre0, y, A', c', e1, e2, e3, ⟨Row.kept h0 hg (fun r e => (hr r e).2), Row.kept h1' hg (fun r e => (hr r e).2), ownFrom_own w4.heap.size w.heap.size 5 1 (fun _ : Unit => .slice A' y.1.2.l.length c') (fun _ => y.1.2.l.length) (fun _ => intsV .u8 y.1.2.l) () W W' row h2 hg hr⟩, ownFrom_below (n₀ := w.heap.size) (B := w4.heap.size) (Nat.le_refl _) (by omega) () W W' row hb hg hr⟩
    case i0 => exact ⟨Below.refl _ _, by simp⟩
    case axown =>
      rintro pre x a' _ W W' row ⟨b, e, hb, hB, hno⟩ hg hr
      exact ⟨b, e, Row.kept hb hg (fun r e => (hr r e).2), ownFrom_below (n₀ := w4.heap.size) (B := w4.heap.size) (Nat.le_refl _) (Nat.le_refl _) () W W' row hB hg hr, hno⟩
    case assign =>
      rintro l pre x W ⟨hB, hno⟩ _ _
      have HI := Lib.hid (And.intro hB hno)
      clear hB hno
      gi_wp2
      have hB2 := HI.out.1.alloc HI.out.1.size (.cells #[.int .i64 x.1.2.a, .int .i64 x.1.2.s, .slice x.1.2.A x.1.2.l.length x.1.2.c, .int .i64 x.1.2.g] 61)
      exact ⟨(KeepsOthers.alloc _ _).from _, ⟨keep_of HI.out.1 hB2 (by omega), keep_of HI.out.1 hB2 hLk⟩, W.heap.size, rfl, Row.fresh _ _ _, hB2, HI.out.2⟩
    case body =>
      rintro l pre x a' W ⟨b, rfl, hb, hB, hno⟩ _
      obtain ⟨xa, hxa⟩ : ∃ xa, xa = x.1.2.a := ⟨_, rfl⟩
      obtain ⟨xs, hxs⟩ : ∃ xs, xs = x.1.2.s := ⟨_, rfl⟩
      have HRk : Hid (Row W (w.heap.size + 2) 57 #[.int .i64 a, .int .i64 s]) := (HRK.out.below HB4.out HRK.out.lt).below hB (by omega)
      have HRb := Lib.hid hb
      have HBw := Lib.hid hB
      have Hno := Lib.hid hno
      have j0 : ∀ t : Later W, t.u.cell? ⟨b, 0, none⟩ = some (.int .i64 x.1.2.a) := fun t => by rw [(HRb.out.below t.h HRb.out.lt).cell]; rfl
      have j1 : ∀ t : Later W, t.u.cell? ⟨b, 1, none⟩ = some (.int .i64 x.1.2.s) := fun t => by rw [(HRb.out.below t.h HRb.out.lt).cell]; rfl
      have j2 : ∀ t : Later W, t.u.cell? ⟨b, 2, none⟩ = some (.slice x.1.2.A x.1.2.l.length x.1.2.c) := fun t => by rw [(HRb.out.below t.h HRb.out.lt).cell]; rfl
      have j3 : ∀ t : Later W, t.u.cell? ⟨w.heap.size + 1 + 1, 0, none⟩ = some (.int .i64 a) := fun t => by rw [(HRk.out.below t.h HRk.out.lt).cell]; rfl
      have j4 : ∀ t : Later W, t.u.cell? ⟨w.heap.size + 1 + 1, 1, none⟩ = some (.int .i64 s) := fun t => by rw [(HRk.out.below t.h HRk.out.lt).cell]; rfl
      obtain ⟨β, hβ⟩ : ∃ β, β = decide (x.1.2.a = a ∧ x.1.2.s = s) := ⟨_, rfl⟩
      have HBe := Lib.hid hβ
      have hqq : ∀ w : World, (binOp .eql 57 (.agg #[.int .i64 x.1.2.a, .int .i64 x.1.2.s]) (.agg #[.int .i64 a, .int .i64 s])).run Try.prog w = .ok (.bool β) w := fun w => by rw [hβ]; exact run_eql_kv w _ _ a s
      have HOf : Hid (∀ w, CallsIn Fence.wide (n - 1 - 1 - 1) Try.prog 19 #[.agg #[.int .i64 x.1.2.a, .int .i64 x.1.2.s, .slice x.1.2.A x.1.2.l.length x.1.2.c]] w fun e w' => e = .returned (.agg #[.int .i64 x.1.2.a, .int .i64 x.1.2.s]) ∧ Below w.heap.size w w') := fun w => callsIn_wide.2 (of_any _ _ _ w)
      have hd1 : 1 ≤ n - 1 - 1 := by omega
      clear hb hB hno hxa hxs hβ
      gi_wp2
      refine wpIn_region_later_round (by kernel_rfl) (by kernel_rfl) (by kernel_rfl) ?_
      (repeat (gi_big_quiet_step ((all_goals (first | exact trivial | (gi_at_call 19; exact Later.callIn (CallsIn.inRound l (HOf.out _))))))))
      refine wpQuietIn_nil ?_
      intro t
      have HTl : Hid (Below w4.heap.size w4 t.u) := HBw.out.trans (t.h.mono HBw.out.size)
      clear hqq HOf
      cases β with
      | false =>
        clear j0 j1 j2 j3 j4
        gi_wp2
        refine ⟨⟨t.h.size, fun k o _ hk _ => (t.h.block k (Array.getElem?_eq_some_iff.1 hk).1).trans hk⟩, ⟨keep_of HBw.out HTl.out (by omega), keep_of HBw.out HTl.out hLk⟩, HTl.out, fun y hy => ?_⟩
        rw [List.mem_append, List.mem_singleton] at hy
        rcases hy with hy | rfl
        · exact Hno.out y hy
        · exact HBe.out.symm
      | true =>
        have HBt : Hid (Below w.heap.size w t.u) := (HBK.out.trans (HB4.out.mono HBK.out.size)).trans (HTl.out.mono (by omega))
        have HRt0 : Hid (Row t.u w.heap.size 30 #[.slice none 0 0]) := ((HR0.out.below HB4.out HR0.out.lt).below HTl.out (by omega))
        have HRt1 : Hid (Row t.u (w.heap.size + 1) 4 #[.bool false]) := ((HR1.out.below HB4.out HR1.out.lt).below HTl.out (by omega))
        have jj2 := j2 t
        have HD := Lib.hid ((H.out.dat x.1.2 (List.mem_of_getElem? x.2)).below HBt.out)
        have HCl := Lib.hid (CloneB_any x.1.2.A x.1.2.l.length x.1.2.c (intsV .u8 x.1.2.l) HD.out.short t.u HD.out.src.1 (fun u hu => by simp [intsV] at hu; obtain ⟨k, _, rfl⟩ := hu; rfl))
        clear j0 j1 j2 j3 j4
        gi_wp2_with (all_goals (first | exact trivial | (gi_at_call 27; refine (CallsIn.inRound l (callsIn_wide.2 HCl.out)).mono ?_)))
        rintro e w5 ⟨A', c', rfl, ho5, hb5⟩
        have HO5 := Lib.hid ho5
        have HB5 := Lib.hid hb5
        have HR50 : Hid (Row w5 w.heap.size 30 #[.slice none 0 0]) := HRt0.out.below hb5 HRt0.out.lt
        have HR51 : Hid (Row w5 (w.heap.size + 1) 4 #[.bool false]) := HRt1.out.below hb5 HRt1.out.lt
        have z0 := HR50.out.frozen 0
        have z1 := HR51.out.frozen 0
        have y0 := HR50.out.cell 0
        have y1 := HR51.out.cell 0
        simp at y0 y1
        clear ho5 hb5 HCl jj2
        gi_wp2
        have ht : KeepsFrom w4.heap.size W t.u := ⟨t.h.size, fun k o _ hk _ => (t.h.block k (Array.getElem?_eq_some_iff.1 hk).1).trans hk⟩
        have ht5 : KeepsFrom w4.heap.size t.u w5 := ⟨HB5.out.size, fun k o _ hk _ => (HB5.out.block k (Array.getElem?_eq_some_iff.1 hk).1).trans hk⟩
        have hk2 : KeepsOthers w5 ((w5.setCell ⟨w.heap.size, 0, none⟩ (.slice A' x.1.2.l.length c')).setCell ⟨w.heap.size + 1, 0, none⟩ (.bool true)) := (KeepsOthers.setCell _ _ _).trans (KeepsOthers.setCell _ _ _)
        have hbw5 : Below w.heap.size w w5 := HBt.out.trans (HB5.out.mono HBt.out.size)
        have htt := HBt.out.size
        have hszt : w4.heap.size ≤ t.u.heap.size := HTl.out.size
        refine ⟨(ht.trans ht5).trans (hk2.from _), rfl, pre, x, A', c', rfl, Hno.out, HBe.out.symm, ⟨?_, ?_, ?_⟩, ?_⟩
        · have := (HR50.out.put 0 (.slice A' x.1.2.l.length c')).far (p := ⟨w.heap.size + 1, 0, none⟩) (by simp) (.bool true)
          simpa using this
        · have := (HR51.out.far (p := ⟨w.heap.size, 0, none⟩) (by simp) (.slice A' x.1.2.l.length c')).put 0 (.bool true)
          simpa using this
        · have ht6 : Turns w5 ((w5.setCell ⟨w.heap.size, 0, none⟩ (.slice A' x.1.2.l.length c')).setCell ⟨w.heap.size + 1, 0, none⟩ (.bool true)) [w.heap.size, w.heap.size + 1] := ((Turns.refl _ _).setCell (by simp) _).setCell (by simp) _
          refine ht6.own (own_mono HO5.out htt) (fun k hk hm => ?_)
          have := (own_blk HO5.out k (by
            cases A' with
            | none => simp [Value.ownBlock] at hk
            | some a => simp [Value.ownBlock] at hk; simp [blk, hk])).1
          simp at hm
          omega
        · (have hsz0 := Below.size hbw5; repeat (first | (with_reducible refine Below.drew ?_) | (with_reducible refine below_drewN0 ?_ _) | ((with_reducible refine Below.setCell ?_ ?_ _); rotate_left; focus (first | omega | (simp; done) | (simp; omega) | (simp at *; omega))) | ((with_reducible refine Below.alloc ?_ ?_ _); rotate_left; focus (first | omega | (simp; done) | (simp; omega) | (simp at *; omega))) | ((with_reducible refine Below.trans ?_ (Below.mono hbw5 ?_)); rotate_left; focus (first | omega | (simp; done) | (simp; omega) | (simp at *; omega))) | (with_reducible exact Below.refl _ _)))
    case done =>
      rintro D ys W hD rfl ⟨hB, hno⟩ hK
      have HBw := Lib.hid hB
      have Hno := Lib.hid hno
      have HRt0 : Hid (Row W w.heap.size 30 #[.slice none 0 0]) := ((HR0.out.below HB4.out HR0.out.lt).below hB (by omega))
      have HRt1 : Hid (Row W (w.heap.size + 1) 4 #[.bool false]) := ((HR1.out.below HB4.out HR1.out.lt).below hB (by omega))
      have z0 := HRt0.out.frozen 0
      have z1 := HRt1.out.frozen 0
      have y0 := HRt0.out.cell 0
      have y1 := HRt1.out.cell 0
      simp at y0 y1
      have HKd := Lib.hid hK
      clear hB hno hK
      go_wp2
      have hB := (HBK.out.trans (HB4.out.mono HBK.out.size)).trans (HBw.out.mono (by omega))
      have hK2 : ((W.setCell ⟨w.heap.size, 0, none⟩ (.slice none 0 0)).setCell ⟨w.heap.size + 1, 0, none⟩ (.bool false)).heap[D]? = some (.deferred (some [])) :=
        ((KeepsOthers.setCell _ _ _).trans (KeepsOthers.setCell _ _ _)).same _ _ HKd.out rfl
      refine ⟨by simp, .inl ⟨_, _, rfl, run_takeDeferred hK2, ?_⟩⟩
      have hr0 : Row ((W.setCell ⟨w.heap.size, 0, none⟩ (.slice none 0 0)).setCell ⟨w.heap.size + 1, 0, none⟩ (.bool false)) w.heap.size 30 #[.slice none 0 0] := by
        have := (HRt0.out.put 0 (.slice none 0 0)).far (p := ⟨w.heap.size + 1, 0, none⟩) (by simp) (.bool false)
        simpa using this
      have hr1 : Row ((W.setCell ⟨w.heap.size, 0, none⟩ (.slice none 0 0)).setCell ⟨w.heap.size + 1, 0, none⟩ (.bool false)) (w.heap.size + 1) 4 #[.bool false] := by
        have := (HRt1.out.far (p := ⟨w.heap.size, 0, none⟩) (by simp) (.slice none 0 0)).put 0 (.bool false)
        simpa using this
      have hb2 : Below w.heap.size w ((W.setCell ⟨w.heap.size, 0, none⟩ (.slice none 0 0)).setCell ⟨w.heap.size + 1, 0, none⟩ (.bool false)) := by (have hsz0 := Below.size hB; repeat (first | (with_reducible refine Below.drew ?_) | (with_reducible refine below_drewN0 ?_ _) | ((with_reducible refine Below.setCell ?_ ?_ _); rotate_left; focus (first | omega | (simp; done) | (simp; omega) | (simp at *; omega))) | ((with_reducible refine Below.alloc ?_ ?_ _); rotate_left; focus (first | omega | (simp; done) | (simp; omega) | (simp at *; omega))) | ((with_reducible refine Below.trans ?_ (Below.mono hB ?_)); rotate_left; focus (first | omega | (simp; done) | (simp; omega) | (simp at *; omega))) | (with_reducible exact Below.refl _ _)))
      refine ⟨_, Get_results _ w _ (.slice none 0 0) (.bool false) rfl rfl ?_ ?_, ?_, hb2.trans (belowK_b (w := w) (Nat.le_refl _) _ D _ _ (by omega) hK2 rfl rfl)⟩
      · exact Row.cell (show Row _ w.heap.size 30 #[.slice none 0 0] from (World.putObj_heap_other (by omega)).trans hr0) 0
      · exact Row.cell (show Row _ (w.heap.size + 1) 4 #[.bool false] from (World.putObj_heap_other (by omega)).trans hr1) 0
      · have : items.reverse.find? (dropP a s) = none := by
          rw [List.find?_eq_none]
          intro x hx hp
          have hm : x ∈ (downs items items.length).map (fun x => x.1.2) := by rw [downs_rev items _ (Nat.le_refl _), ← List.length_reverse, List.take_length]; exact hx
          obtain ⟨y, hy, rfl⟩ := List.mem_map.1 hm
          rw [Hno.out y hy] at hp; cases hp
        rw [this]
    case stop =>
      rintro D cd pre W hD ⟨k, hk, hpre⟩ ⟨rfl, pre0, y, A', c', e1, e2, e3, ⟨h0, h1', h2⟩, hb⟩ hK
      have hfind : items.reverse.find? (dropP a s) = some y.1.2 := by
        have h3 : (pre0 ++ [y]).map (fun x => x.1.2) = items.reverse.take k := by rw [← e1, hpre]; exact downs_rev items k hk
        rw [← List.take_append_drop k items.reverse, ← h3, List.find?_append, List.map_append, List.find?_append]
        rw [List.find?_eq_none.2 (fun x hx => by
          obtain ⟨z, hz, rfl⟩ := List.mem_map.1 hx
          rw [e2 z hz]; simp)]
        simp [e3]
      have HD : Hid (W.heap[D]? = some (.deferred (some []))) := hK
      have HF := Lib.hid hfind
      have Hh0 := Lib.hid h0
      have Hh1 := Lib.hid h1'
      have Hh2 := Lib.hid h2
      have Hb := Lib.hid hb
      clear hK hfind h0 h1' h2 hb hpre e1 e2 e3
      gi_wp2
      refine ⟨by simp, .inl ⟨_, _, rfl, run_takeDeferred HD.out, ?_⟩⟩
      refine ⟨_, Get_results _ w _ (.slice A' y.1.2.l.length c') (.bool true) rfl rfl ?_ ?_, ?_, Hb.out.trans (belowK_b (w := w) (Nat.le_refl _) _ D _ _ (by omega) HD.out rfl rfl)⟩
      · exact Row.cell (show Row _ w.heap.size 30 #[.slice A' y.1.2.l.length c'] from (World.putObj_heap_other (by omega)).trans Hh0.out) 0
      · exact Row.cell (show Row _ (w.heap.size + 1) 4 #[.bool true] from (World.putObj_heap_other (by omega)).trans Hh1.out) 0
      · rw [HF.out]
        exact ⟨A', c', rfl, ownFrom_own w4.heap.size w.heap.size 5 1 (fun _ : Unit => .slice A' y.1.2.l.length c') (fun _ => y.1.2.l.length) (fun _ => intsV .u8 y.1.2.l) () W _ (some D) Hh2.out (grownBy_putObj' W D _) (fun r e => by cases e; exact ⟨hD, _, HD.out, rfl⟩)⟩
theorem Get_any (B C mb most c : Nat) (A : Option Addr) (items : List It) (g a s : Int) (w : World) (h : CHeld w B C mb most A c items g) (ha : W64 a) (hs : W64 s) :
    Calls Try.prog 15 #[.pointer (some ⟨C, 0, none⟩), .int .i64 a, .int .i64 s] w (GetPost w items a s) :=
  callsIn_wide.1 (Get_in 3 (Nat.le_refl _) B C mb most c A items g a s w h ha hs)
end Go.Proofs.Ytmppegknkeggcaa
