/- vcache: Groups. -/
import Derived.Test.YtmppegknkeggcaaCacheN
namespace Go.Proofs.Ytmppegknkeggcaa
open Go.RowKit Go.Shelf
attribute [local go_sem] Oper.semAt_some
attribute [local simp, local go_sem] wide_fn
set_option linter.unusedVariables false
set_option linter.unusedSimpArgs false

/-- How many groups have a write. -/
def grps (items : List It) : Nat := match items.length with | 0 => 0 | k + 1 => gno items k + 1
def cntG (pre : List It) : Int := match pre.getLast? with | none => 0 | some x => x.g + 1
theorem cntG_snoc (pre : List It) (x : It) : cntG (pre ++ [x]) = x.g + 1 := by simp [cntG]
theorem cntG_told (items xs : List It) (h : xs.map It.key = told items items.length) : cntG xs = (grps items : Nat) := by
  unfold grps
  cases hl : items.length with
  | zero =>
    rw [hl] at h
    have : xs = [] := by simpa [told] using h
    subst this; rfl
  | succ k =>
    rw [hl, told_step items k _ (List.getElem?_eq_getElem (by omega))] at h
    have h2 := congrArg List.getLast? h
    rw [List.getLast?_map, List.getLast?_append] at h2
    unfold cntG
    cases hx : xs.getLast? with
    | none => rw [hx] at h2; simp at h2
    | some x =>
      rw [hx] at h2
      simp only [Option.map_some, List.getLast?_singleton, Option.some_or, Option.some.injEq, Prod.mk.injEq] at h2
      simp only
      rw [h2.2.2.2]; omega

set_option maxRecDepth 100000 in
set_option maxHeartbeats 2000000 in
theorem Groups_in (n : Nat) (hn : 4 ≤ n) (B C mb most c : Nat) (A : Option Addr) (items : List It) (g : Int) (w : World) (h : CHeld w B C mb most A c items g) :
    CallsIn Fence.wide n Try.prog 14 #[.pointer (some ⟨C, 0, none⟩)] w fun e w' => e = .returned (.int .i64 (grps items : Nat)) ∧ Below w.heap.size w w' := by
  have h1 : 1 ≤ n := by omega
  obtain ⟨w4, hw4⟩ : ∃ w4, w4 = w.alloc (.cells #[.int .i64 0] 3) := ⟨_, rfl⟩
  have HB4 : Hid (Below w.heap.size w w4) := by unfold Hid; rw [hw4]; (repeat (first | (with_reducible refine Below.drew ?_) | (with_reducible refine below_drewN0 ?_ _) | ((with_reducible refine Below.setCell ?_ ?_ _); rotate_left; focus (first | omega | (simp; done) | (simp; omega) | (simp at *; omega))) | ((with_reducible refine Below.alloc ?_ ?_ _); rotate_left; focus (first | omega | (simp; done) | (simp; omega) | (simp at *; omega))) | (with_reducible exact Below.refl _ _)))
  have HR4 : Hid (Row w4 w.heap.size 3 #[.int .i64 0]) := by unfold Hid; rw [hw4]; exact Row.fresh _ _ _
  have HK := Lib.hid (h.below HB4.out)
  have HA := Lib.hid (All_any B C mb most c A items g w4 HK.out)
  clear h
  refine callsIn_of_wp_marks Try.func14 rfl trivial ?_ rfl
  simp only [Try.ntmps14, List.size_toArray, List.length_cons, List.length_nil, Nat.reduceAdd, Nat.reduceSub, Array.replicate_succ, Array.replicate_zero, List.push_toArray, List.append_toArray, List.nil_append, List.cons_append]
  refine wpIn_wide.2 ?_
  go_wp2_with fail
  rw [← hw4]
  clear hw4
  refine HA.out.mono ?_
  rintro e w5 ⟨Bx, A', c', rfl, hBx, hr, ho, hb⟩
  have HB5 := Lib.hid hb
  have hTold := Lib.hid (All_told (n - 1) (by omega) [w.heap.size] B C mb most c A items g w4 w5 HK.out (fun k hk => by
    simp only [List.mem_cons, List.not_mem_nil, or_false] at hk
    subst hk
    exact ⟨HR4.out.lt, fun cur hr2 => HR4.out.ne_type hr2 (by decide) rfl⟩) Bx c' A' hBx hr ho hb)
  have hs5 : w.heap.size < w5.heap.size := Nat.lt_of_lt_of_le HR4.out.lt hb.size
  have HR5 : Hid (Row w5 w.heap.size 3 #[.int .i64 0]) := HR4.out.below hb HR4.out.lt
  have HBB : Hid (Below w.heap.size w w5) := HB4.out.trans (hb.mono HB4.out.size)
  clear hb hr ho HA
  go_wp2
  refine (wpIn_wide (n := n)).1 ?_
  refine wpIn_range_told rfl h1 (gf := 28) (lb := #[.pointer (some ⟨Bx, 0, none⟩)]) rfl trivial (enters_of Try.func28 (by kernel_rfl) rfl)
    hTold.out (fun h k => h.trans k) ?kb (Below.refl _ _) (fun _ => rfl)
    (fun pre W => Row W w.heap.size 3 #[.int .i64 (cntG pre)] ∧ Below w.heap.size w W)
    (fun cd pre W => False)
    ?iown ?ixown ?i0 (fun pre x a' W => a' = { tmps := #[.pointer (some ⟨C, 0, none⟩), undef, .int .i64 0, .pointer (some ⟨w.heap.size, 0, none⟩), .int .i64 x.g, .pointer (some ⟨C, 0, none⟩), .func (.func 28) #[] #[.pointer (some ⟨Bx, 0, none⟩)], .int .i64 x.g, .agg #[.int .i64 x.a, .int .i64 x.s, .slice x.A x.l.length x.c], undef, undef, undef], defers := [] } ∧ (0 ≤ x.g ∧ x.g ≤ 1000) ∧ Row W w.heap.size 3 #[.int .i64 (cntG pre)] ∧ Below w.heap.size w W) ?axown ?assign ?body ?done ?stop
  case kb =>
    intro W l o o' hl h _ _
    exact ⟨by simp [World.putObj], fun k hk _ => World.putObj_heap_other (by omega)⟩
  case iown => exact OwnFrom.and (ownFrom_row w5.heap.size w.heap.size 3 (fun pre => #[.int .i64 (cntG pre)])) (ownFrom_below (Nat.le_refl _) (by omega))
  case ixown => exact fun _ _ _ _ _ hs _ _ => hs
  case i0 => exact ⟨HR5.out, HBB.out⟩
  case axown =>
    rintro pre x a' _ W W' row ⟨e, hx, hr, hb⟩ hg hrow
    exact ⟨e, hx, Row.kept hr hg (fun r e => (hrow r e).2), ownFrom_below (n₀ := w.heap.size) (B := w5.heap.size) (Nat.le_refl _) (by omega) () W W' row hb hg hrow⟩
  case assign =>
    rintro l pre x W ⟨hr, hB⟩ ⟨_, hx, _⟩ _
    have HI := Lib.hid (And.intro hx (And.intro hr hB))
    clear hx hr hB
    gi_wp2
    exact ⟨⟨Nat.le_refl _, fun _ _ _ h _ => h⟩, KpS.refl _ _ _, trivial, HI.out⟩
  case body =>
    rintro l pre x a' W ⟨rfl, ⟨hx0, hx1⟩, hr, hB⟩ _
    have hcr := hr.cell 0
    have hfr := hr.frozen 0
    simp at hcr
    have HR := Lib.hid hr
    have HBw := Lib.hid hB
    have HC := Lib.hid (cntG_snoc pre x)
    clear hr hB
    gi_wp2
    have hbw := HBw.out
    refine ⟨(KeepsOthers.setCell _ _ _).from _, ⟨by simp [World.setCell], fun k hk hn => Below.heap_setCell _ _ _ _ (by simp at hn; exact hn)⟩, ?_, by (have hsz0 := Below.size hbw; repeat (first | (with_reducible refine Below.drew ?_) | (with_reducible refine below_drewN0 ?_ _) | ((with_reducible refine Below.setCell ?_ ?_ _); rotate_left; focus (first | omega | (simp; done) | (simp; omega) | (simp at *; omega))) | ((with_reducible refine Below.alloc ?_ ?_ _); rotate_left; focus (first | omega | (simp; done) | (simp; omega) | (simp at *; omega))) | ((with_reducible refine Below.trans ?_ (Below.mono hbw ?_)); rotate_left; focus (first | omega | (simp; done) | (simp; omega) | (simp at *; omega))) | (with_reducible exact Below.refl _ _)))⟩
    have := HR.out.put 0 (.int .i64 (x.g + 1))
    rw [HC.out]
    simpa using this
  case done =>
    rintro D ys W hD hys ⟨hr, hB⟩ hK
    have hcr := hr.cell 0
    simp at hcr
    have HG := Lib.hid (cntG_told items ys hys)
    rw [HG.out] at hcr
    have HBw := Lib.hid hB
    have HKd := Lib.hid hK
    clear hr hB hK hys
    go_wp2
    refine ⟨by simp, .inl ⟨_, _, rfl, run_takeDeferred HKd.out, ?_⟩⟩
    exact ⟨_, results_tmp rfl _ _ _, rfl, HBw.out.trans (belowK_b (w := w) (Nat.le_refl _) W D _ _ (by omega) HKd.out rfl rfl)⟩
  case stop =>
    rintro D cd pre W hD _ h _
    exact h.elim
theorem Groups_any (B C mb most c : Nat) (A : Option Addr) (items : List It) (g : Int) (w : World) (h : CHeld w B C mb most A c items g) :
    Calls Try.prog 14 #[.pointer (some ⟨C, 0, none⟩)] w fun e w' => e = .returned (.int .i64 (grps items : Nat)) ∧ Below w.heap.size w w' :=
  callsIn_wide.1 (Groups_in 4 (Nat.le_refl _) B C mb most c A items g w h)
end Go.Proofs.Ytmppegknkeggcaa
