/- What follows is laid together from several texts of mine, in their order. -/
import Derived.Test.YtclhhdodebdmjaaGreatQ28

namespace Go.Proofs.YtclhhdodebdmjaaGreat
open Go.RowKit Go.MapKept Go.ChangeMaps
set_option linter.unusedVariables false
set_option linter.unusedSimpArgs false
set_option maxRecDepth 100000

/-- What is no part of the state fits it. -/
def RxOk (e : Es) (x : Rx) : Prop := (∀ n, e.frm = some n → x.fr = n) ∧ (∀ n, e.til = some n → x.til = n) ∧ x.fr < 4294967296 ∧ x.til < 4294967296
section
variable {w w' : World} {b : Rn} {T F : List Nat} {c : Cf} {S : Ab} {x : Rx}
theorem RcIs.card (h : RcIs w b T F c S) : ∃ x, Row w b.M 67 (rcRow c b S x) ∧ RxOk S.e x := h.rM
/-- The card's own numbers are written. -/
theorem RcIs.eng (h : RcIs w b T F c S) {e' : Es} (ht : Turns w w' [b.M]) (hr : Row w' b.M 67 (rcRow c b { S with e := e' } x)) (hx : RxOk e' x) : RcIs w' b T F c { S with e := e' } := by
  have hU : RowsOf w [b.M] [67] := by obtain ⟨x, hx, _⟩ := h.rM; exact RowsOf.one hx
  obtain ⟨xs, hxs⟩ := h.wr
  exact h.own (nx' := S.next) (A1 := b.nx) (c1 := b.cnx) (A2 := b.wr) (n2 := b.nwr) (c2 := b.cwr) (T' := T) (xs' := xs) ht hr hx.1 hx.2.1 hx.2.2.1 hx.2.2.2 (hU.own ht h.nx (by decide)) (hU.own ht hxs (by decide)) (fun k hk => hk) (fun k hk => h.inT k (by simp [Rn.ts, hk])) (fun k hk => h.inT k (by simp [Rn.ts, hk])) h.TF (fun k hk => Nat.lt_of_lt_of_le (h.Tlt k hk) ht.size)
theorem rset_up (c : Cf) (b : Rn) (S : Ab) (x : Rx) (v : Nat) : (rcRow c b S x).setIfInBounds 18 (.int .u32 (v : Int)) = rcRow c b { S with e := { S.e with up := v } } x := rfl
theorem rset_count (c : Cf) (b : Rn) (S : Ab) (x : Rx) (v : Nat) : (rcRow c b S x).setIfInBounds 19 (.int .i64 (v : Int)) = rcRow c b { S with e := { S.e with count := v } } x := rfl
theorem rset_noF (c : Cf) (b : Rn) (S : Ab) (x : Rx) : (rcRow c b S x).setIfInBounds 24 (.bool false) = rcRow c b { S with e := { S.e with frm := Option.none } } x := rfl
theorem rset_noT (c : Cf) (b : Rn) (S : Ab) (x : Rx) : (rcRow c b S x).setIfInBounds 25 (.bool false) = rcRow c b { S with e := { S.e with til := Option.none } } x := rfl
theorem rset_head (c : Cf) (b : Rn) (S : Ab) (x : Rx) (v : Nat) : (rcRow c b S x).setIfInBounds 28 (.int .i64 (v : Int)) = rcRow c b { S with e := { S.e with head := v } } x := rfl
theorem rset_next (c : Cf) (b : Rn) (S : Ab) (x : Rx) : (rcRow c b S x).setIfInBounds 27 (.slice none 0 0) = rcRow c { b with nx := none, cnx := 0 } { S with next := [] } x := rfl
theorem rset_wrote (c : Cf) (b : Rn) (S : Ab) (x : Rx) : (rcRow c b S x).setIfInBounds 30 (.slice none 0 0) = rcRow c { b with wr := none, nwr := 0, cwr := 0 } S x := rfl
theorem rcell (hr : Row w b.M 67 (rcRow c b S x)) (k : Nat) (v : Value) (h : (rcRow c b S x)[k]? = some v) : w.cell? ⟨b.M, k, none⟩ = some v := by rw [hr.cell]; exact h
theorem rstatus_any (h : RcIs w b T F c S) (hok : AbOk c S) : Calls Tryz.prog 127 #[.pointer (some ⟨b.M, 0, none⟩)] w fun e w' => e = .returned (.agg #[.bool false, .slice none 0 0, .int .u32 (stN S : Nat), .slice none 0 0]) ∧ RcIs w' b T F c S.told ∧ Turns w w' [b.M] := by
  obtain ⟨wA, hwA⟩ : ∃ wA, wA = w.alloc (.cells nilAn 56) := ⟨_, rfl⟩
  have hbA : Below w.heap.size w wA := by rw [hwA]; (repeat (first | (with_reducible refine Below.drew ?_) | (with_reducible refine below_drewN0 ?_ _) | ((with_reducible refine Below.setCell ?_ ?_ _); rotate_left; focus (first | omega | (simp; done) | (simp; omega) | (simp at *; omega))) | ((with_reducible refine Below.alloc ?_ ?_ _); rotate_left; focus (first | omega | (simp; done) | (simp; omega) | (simp at *; omega))) | (with_reducible exact Below.refl _ _)))
  have hRA : Row wA w.heap.size 56 nilAn := by rw [hwA]; exact Row.fresh _ _ _
  have hA := h.below hbA
  have HA := Lib.hid hA
  have HRA := Lib.hid hRA
  have HBA := Lib.hid hbA
  have hst : 0 ≤ S.s ∧ S.s ≤ 6 := by have := hok.st; simp [statesL] at this; omega
  obtain ⟨hs0, hs6⟩ := hst
  have HL : Hid ((∀ k ∈ T, k < w.heap.size) ∧ ∀ k ∈ F, k < w.heap.size) := ⟨h.Tlt, h.Flt⟩
  have HV : Hid (bits .or .u32 (bits .or .u32 (S.s * 512) 256) (S.e.up : Int) = ((stN S : Nat) : Int)) := by
    have e1 : S.s * 512 = ((S.s.toNat * 512 : Nat) : Int) := by omega
    unfold Hid
    rw [e1, show (256 : Int) = ((256 : Nat) : Int) from rfl, u32_or _ _ (by omega) (by omega), u32_or _ _ (or_lt _ _ (by omega) (by omega)) hok.up]
    rfl
  obtain ⟨x, hx, hxo⟩ := hA.card
  have HXr := Lib.hid hx
  have HXo := Lib.hid hxo
  have k0 : wA.cell? ⟨b.M, 9, none⟩ = some (.pointer (some ⟨b.P, 0, none⟩)) := rcell hx 9 _ rfl
  have k1 : wA.cell? ⟨b.M, 18, none⟩ = some (.int .u32 S.e.up) := rcell hx 18 _ rfl
  have k2 : wA.cell? ⟨b.P, 0, none⟩ = some (.int .i64 S.s) := by rw [hA.ph.cell]; rfl
  clear h hA hRA hbA hok hx hxo
  unfold nilAn at hwA
  go_enter Tryz.func127, Tryz.ntmps127
  go_wp2_with fail
  rw [← hwA]
  clear hwA
  go_quiet (fail)
  clear k0 k1 k2
  have HV' := HV.out
  rw [HV']
  clear HV'
  obtain ⟨w1, hw1⟩ : ∃ w1, w1 = wA.drewN nq := ⟨_, rfl⟩
  have HA1 := Lib.hid (HA.out.drewN nq)
  have HR1 : Hid (Row (wA.drewN nq) w.heap.size 56 nilAn) := HRA.out.drewN nq
  have HT1 : Hid (Turns w (wA.drewN nq) []) := (Turns.of_below HBA.out []).drewN nq
  have HXr1 := Lib.hid (HXr.out.drewN nq)
  rw [← hw1] at HA1 HR1 HT1 HXr1 ⊢
  clear HA HRA HBA HXr hw1
  have e18 : w1.cell? ⟨b.M, 18, none⟩ = some (.int .u32 S.e.up) := rcell HXr1.out 18 _ rfl
  have f18 := HXr1.out.frozen 18
  have n0 : w1.cell? ⟨w.heap.size, 0, none⟩ = some (.bool false) := by rw [HR1.out.cell]; rfl
  have n1 : w1.cell? ⟨w.heap.size, 1, none⟩ = some (.slice none 0 0) := by rw [HR1.out.cell]; rfl
  have n2 : w1.cell? ⟨w.heap.size, 2, none⟩ = some (.int .u32 0) := by rw [HR1.out.cell]; rfl
  have n3 : w1.cell? ⟨w.heap.size, 3, none⟩ = some (.slice none 0 0) := by rw [HR1.out.cell]; rfl
  have g0 := HR1.out.frozen 0
  have g1 := HR1.out.frozen 1
  have g2 := HR1.out.frozen 2
  have g3 := HR1.out.frozen 3
  have hne : w.heap.size ≠ b.M := HR1.out.ne_type HXr1.out (by decide)
  have hT0 : Turns w1 (w1.setCell ⟨b.M, 18, none⟩ (.int .u32 0)) [b.M] := (Turns.refl _ _).setCell (by simp) _
  have hA2 : RcIs (w1.setCell ⟨b.M, 18, none⟩ (.int .u32 0)) b T F c S.told := by
    have hr := HXr1.out.put 18 (.int .u32 ((0 : Nat) : Int))
    rw [rset_up] at hr
    exact HA1.out.eng hT0 hr HXo.out
  have HX : Hid (RcIs (((((w1.setCell ⟨b.M, 18, none⟩ (.int .u32 0)).setCell ⟨w.heap.size, 0, none⟩ (.bool false)).setCell ⟨w.heap.size, 1, none⟩ (.slice none 0 0)).setCell ⟨w.heap.size, 2, none⟩ (.int .u32 (stN S : Nat))).setCell ⟨w.heap.size, 3, none⟩ (.slice none 0 0)) b T F c S.told) := by
    refine hA2.turns (U := [w.heap.size]) (((((Turns.refl _ _).setCell (by simp) _).setCell (by simp) _).setCell (by simp) _).setCell (by simp) _) (fun k hk => ?_)
    obtain rfl := List.mem_singleton.1 hk
    exact ⟨fun hm => by have := HL.out.1 _ hm; omega, fun hm => by have := HL.out.2 _ hm; omega⟩
  have HY : Hid (Turns w (((((w1.setCell ⟨b.M, 18, none⟩ (.int .u32 0)).setCell ⟨w.heap.size, 0, none⟩ (.bool false)).setCell ⟨w.heap.size, 1, none⟩ (.slice none 0 0)).setCell ⟨w.heap.size, 2, none⟩ (.int .u32 (stN S : Nat))).setCell ⟨w.heap.size, 3, none⟩ (.slice none 0 0)) [b.M]) :=
    ((((((HT1.out.mono (by simp)).setCell (.inl (by simp)) _).setCell (.inr (Nat.le_refl _)) _).setCell (.inr (Nat.le_refl _)) _).setCell (.inr (Nat.le_refl _)) _).setCell (.inr (Nat.le_refl _)) _)
  have HZ : Hid (Row (((((w1.setCell ⟨b.M, 18, none⟩ (.int .u32 0)).setCell ⟨w.heap.size, 0, none⟩ (.bool false)).setCell ⟨w.heap.size, 1, none⟩ (.slice none 0 0)).setCell ⟨w.heap.size, 2, none⟩ (.int .u32 (stN S : Nat))).setCell ⟨w.heap.size, 3, none⟩ (.slice none 0 0)) w.heap.size 56 #[.bool false, .slice none 0 0, .int .u32 (stN S : Nat), .slice none 0 0]) := by
    have := ((((HR1.out.far (p := ⟨b.M, 18, none⟩) hne (.int .u32 0)).put 0 (.bool false)).put 1 (.slice none 0 0)).put 2 (.int .u32 (stN S : Nat))).put 3 (.slice none 0 0)
    unfold Hid; simpa [nilAn] using this
  clear hA2 hT0 HA1 HR1 HT1 HXr1
  go_wp2
  refine bodyPost_ret (v := .agg #[.bool false, .slice none 0 0, .int .u32 (stN S : Nat), .slice none 0 0]) (results_cell_row rfl _ _ w.heap.size 56 _ (0, 0) _ rfl HZ.out Tryz.underlying56 rfl (by kernel_rfl)) rfl ⟨rfl, HX.out, HY.out⟩
theorem rforget_35 (h : RcIs w b T F c S)  : Calls Tryz.prog 123 #[.pointer (some ⟨b.M, 0, none⟩), .int .i64 35] w fun e w' => e = .returned (.tuple #[]) ∧ RcIs w' b T F c { S with e := { S.e with count := 0 } } ∧ Turns w w' [b.M] := by
  obtain ⟨x, hx, hxo⟩ := h.card
  have e24 : w.cell? ⟨b.M, 24, none⟩ = some (.bool S.e.frm.isSome) := rcell hx 24 _ rfl
  have f24 := hx.frozen 24
  have e25 : w.cell? ⟨b.M, 25, none⟩ = some (.bool S.e.til.isSome) := rcell hx 25 _ rfl
  have f25 := hx.frozen 25
  have e19 : w.cell? ⟨b.M, 19, none⟩ = some (.int .i64 S.e.count) := rcell hx 19 _ rfl
  have f19 := hx.frozen 19
  have HF : Hid (RcIs ((w.setCell ⟨b.M, 19, none⟩ (.int .i64 0))) b T F c { S with e := { S.e with count := 0 } } ∧ Turns w ((w.setCell ⟨b.M, 19, none⟩ (.int .i64 0))) [b.M]) := by
    have hT : Turns w ((w.setCell ⟨b.M, 19, none⟩ (.int .i64 0))) [b.M] := by (repeat (refine Turns.setCell ?_ (by simp) _)); exact Turns.refl _ _
    have hr := hx.put 19 (.int .i64 ((0 : Nat) : Int))
    (try rw [rset_noF] at hr)
    (try rw [rset_noT] at hr)
    (try rw [rset_count] at hr)
    exact ⟨h.eng hT hr ⟨by first | exact hxo.1 | simp, by first | exact hxo.2.1 | simp, hxo.2.2⟩, hT⟩
  clear h hx hxo
  go_enter Tryz.func123, Tryz.ntmps123
  go_wp2
  go_end0
  exact ⟨rfl, HF.out⟩
theorem rforget_36 (h : RcIs w b T F c S)  : Calls Tryz.prog 123 #[.pointer (some ⟨b.M, 0, none⟩), .int .i64 36] w fun e w' => e = .returned (.tuple #[]) ∧ RcIs w' b T F c { S with e := { S.e with count := 0 } } ∧ Turns w w' [b.M] := by
  obtain ⟨x, hx, hxo⟩ := h.card
  have e24 : w.cell? ⟨b.M, 24, none⟩ = some (.bool S.e.frm.isSome) := rcell hx 24 _ rfl
  have f24 := hx.frozen 24
  have e25 : w.cell? ⟨b.M, 25, none⟩ = some (.bool S.e.til.isSome) := rcell hx 25 _ rfl
  have f25 := hx.frozen 25
  have e19 : w.cell? ⟨b.M, 19, none⟩ = some (.int .i64 S.e.count) := rcell hx 19 _ rfl
  have f19 := hx.frozen 19
  have HF : Hid (RcIs ((w.setCell ⟨b.M, 19, none⟩ (.int .i64 0))) b T F c { S with e := { S.e with count := 0 } } ∧ Turns w ((w.setCell ⟨b.M, 19, none⟩ (.int .i64 0))) [b.M]) := by
    have hT : Turns w ((w.setCell ⟨b.M, 19, none⟩ (.int .i64 0))) [b.M] := by (repeat (refine Turns.setCell ?_ (by simp) _)); exact Turns.refl _ _
    have hr := hx.put 19 (.int .i64 ((0 : Nat) : Int))
    (try rw [rset_noF] at hr)
    (try rw [rset_noT] at hr)
    (try rw [rset_count] at hr)
    exact ⟨h.eng hT hr ⟨by first | exact hxo.1 | simp, by first | exact hxo.2.1 | simp, hxo.2.2⟩, hT⟩
  clear h hx hxo
  go_enter Tryz.func123, Tryz.ntmps123
  go_wp2
  go_end0
  exact ⟨rfl, HF.out⟩
theorem rforget_38 (h : RcIs w b T F c S)  : Calls Tryz.prog 123 #[.pointer (some ⟨b.M, 0, none⟩), .int .i64 38] w fun e w' => e = .returned (.tuple #[]) ∧ RcIs w' b T F c { S with e := { S.e with count := 0 } } ∧ Turns w w' [b.M] := by
  obtain ⟨x, hx, hxo⟩ := h.card
  have e24 : w.cell? ⟨b.M, 24, none⟩ = some (.bool S.e.frm.isSome) := rcell hx 24 _ rfl
  have f24 := hx.frozen 24
  have e25 : w.cell? ⟨b.M, 25, none⟩ = some (.bool S.e.til.isSome) := rcell hx 25 _ rfl
  have f25 := hx.frozen 25
  have e19 : w.cell? ⟨b.M, 19, none⟩ = some (.int .i64 S.e.count) := rcell hx 19 _ rfl
  have f19 := hx.frozen 19
  have HF : Hid (RcIs ((w.setCell ⟨b.M, 19, none⟩ (.int .i64 0))) b T F c { S with e := { S.e with count := 0 } } ∧ Turns w ((w.setCell ⟨b.M, 19, none⟩ (.int .i64 0))) [b.M]) := by
    have hT : Turns w ((w.setCell ⟨b.M, 19, none⟩ (.int .i64 0))) [b.M] := by (repeat (refine Turns.setCell ?_ (by simp) _)); exact Turns.refl _ _
    have hr := hx.put 19 (.int .i64 ((0 : Nat) : Int))
    (try rw [rset_noF] at hr)
    (try rw [rset_noT] at hr)
    (try rw [rset_count] at hr)
    exact ⟨h.eng hT hr ⟨by first | exact hxo.1 | simp, by first | exact hxo.2.1 | simp, hxo.2.2⟩, hT⟩
  clear h hx hxo
  go_enter Tryz.func123, Tryz.ntmps123
  go_wp2
  go_end0
  exact ⟨rfl, HF.out⟩
theorem rforget_13 (h : RcIs w b T F c S)  : Calls Tryz.prog 123 #[.pointer (some ⟨b.M, 0, none⟩), .int .i64 13] w fun e w' => e = .returned (.tuple #[]) ∧ RcIs w' b T F c { S with e := { S.e with count := 0 } } ∧ Turns w w' [b.M] := by
  obtain ⟨x, hx, hxo⟩ := h.card
  have e24 : w.cell? ⟨b.M, 24, none⟩ = some (.bool S.e.frm.isSome) := rcell hx 24 _ rfl
  have f24 := hx.frozen 24
  have e25 : w.cell? ⟨b.M, 25, none⟩ = some (.bool S.e.til.isSome) := rcell hx 25 _ rfl
  have f25 := hx.frozen 25
  have e19 : w.cell? ⟨b.M, 19, none⟩ = some (.int .i64 S.e.count) := rcell hx 19 _ rfl
  have f19 := hx.frozen 19
  have HF : Hid (RcIs ((w.setCell ⟨b.M, 19, none⟩ (.int .i64 0))) b T F c { S with e := { S.e with count := 0 } } ∧ Turns w ((w.setCell ⟨b.M, 19, none⟩ (.int .i64 0))) [b.M]) := by
    have hT : Turns w ((w.setCell ⟨b.M, 19, none⟩ (.int .i64 0))) [b.M] := by (repeat (refine Turns.setCell ?_ (by simp) _)); exact Turns.refl _ _
    have hr := hx.put 19 (.int .i64 ((0 : Nat) : Int))
    (try rw [rset_noF] at hr)
    (try rw [rset_noT] at hr)
    (try rw [rset_count] at hr)
    exact ⟨h.eng hT hr ⟨by first | exact hxo.1 | simp, by first | exact hxo.2.1 | simp, hxo.2.2⟩, hT⟩
  clear h hx hxo
  go_enter Tryz.func123, Tryz.ntmps123
  go_wp2
  go_end0
  exact ⟨rfl, HF.out⟩
theorem rforget_23 (h : RcIs w b T F c S)  : Calls Tryz.prog 123 #[.pointer (some ⟨b.M, 0, none⟩), .int .i64 23] w fun e w' => e = .returned (.tuple #[]) ∧ RcIs w' b T F c { S with e := { S.e with frm := Option.none, til := Option.none } } ∧ Turns w w' [b.M] := by
  obtain ⟨x, hx, hxo⟩ := h.card
  have e24 : w.cell? ⟨b.M, 24, none⟩ = some (.bool S.e.frm.isSome) := rcell hx 24 _ rfl
  have f24 := hx.frozen 24
  have e25 : w.cell? ⟨b.M, 25, none⟩ = some (.bool S.e.til.isSome) := rcell hx 25 _ rfl
  have f25 := hx.frozen 25
  have e19 : w.cell? ⟨b.M, 19, none⟩ = some (.int .i64 S.e.count) := rcell hx 19 _ rfl
  have f19 := hx.frozen 19
  have HF : Hid (RcIs (((w.setCell ⟨b.M, 24, none⟩ (.bool false)).setCell ⟨b.M, 25, none⟩ (.bool false))) b T F c { S with e := { S.e with frm := Option.none, til := Option.none } } ∧ Turns w (((w.setCell ⟨b.M, 24, none⟩ (.bool false)).setCell ⟨b.M, 25, none⟩ (.bool false))) [b.M]) := by
    have hT : Turns w (((w.setCell ⟨b.M, 24, none⟩ (.bool false)).setCell ⟨b.M, 25, none⟩ (.bool false))) [b.M] := by (repeat (refine Turns.setCell ?_ (by simp) _)); exact Turns.refl _ _
    have hr := (hx.put 24 (.bool false)).put 25 (.bool false)
    (try rw [rset_noF] at hr)
    (try rw [rset_noT] at hr)
    (try rw [rset_count] at hr)
    exact ⟨h.eng hT hr ⟨by first | exact hxo.1 | simp, by first | exact hxo.2.1 | simp, hxo.2.2⟩, hT⟩
  clear h hx hxo
  go_enter Tryz.func123, Tryz.ntmps123
  go_wp2
  go_end0
  exact ⟨rfl, HF.out⟩
theorem rforget_18 (h : RcIs w b T F c S)  : Calls Tryz.prog 123 #[.pointer (some ⟨b.M, 0, none⟩), .int .i64 18] w fun e w' => e = .returned (.tuple #[]) ∧ RcIs w' b T F c { S with e := { S.e with frm := Option.none, til := Option.none } } ∧ Turns w w' [b.M] := by
  obtain ⟨x, hx, hxo⟩ := h.card
  have e24 : w.cell? ⟨b.M, 24, none⟩ = some (.bool S.e.frm.isSome) := rcell hx 24 _ rfl
  have f24 := hx.frozen 24
  have e25 : w.cell? ⟨b.M, 25, none⟩ = some (.bool S.e.til.isSome) := rcell hx 25 _ rfl
  have f25 := hx.frozen 25
  have e19 : w.cell? ⟨b.M, 19, none⟩ = some (.int .i64 S.e.count) := rcell hx 19 _ rfl
  have f19 := hx.frozen 19
  have HF : Hid (RcIs (((w.setCell ⟨b.M, 24, none⟩ (.bool false)).setCell ⟨b.M, 25, none⟩ (.bool false))) b T F c { S with e := { S.e with frm := Option.none, til := Option.none } } ∧ Turns w (((w.setCell ⟨b.M, 24, none⟩ (.bool false)).setCell ⟨b.M, 25, none⟩ (.bool false))) [b.M]) := by
    have hT : Turns w (((w.setCell ⟨b.M, 24, none⟩ (.bool false)).setCell ⟨b.M, 25, none⟩ (.bool false))) [b.M] := by (repeat (refine Turns.setCell ?_ (by simp) _)); exact Turns.refl _ _
    have hr := (hx.put 24 (.bool false)).put 25 (.bool false)
    (try rw [rset_noF] at hr)
    (try rw [rset_noT] at hr)
    (try rw [rset_count] at hr)
    exact ⟨h.eng hT hr ⟨by first | exact hxo.1 | simp, by first | exact hxo.2.1 | simp, hxo.2.2⟩, hT⟩
  clear h hx hxo
  go_enter Tryz.func123, Tryz.ntmps123
  go_wp2
  go_end0
  exact ⟨rfl, HF.out⟩
theorem rforget_25 (h : RcIs w b T F c S)  : Calls Tryz.prog 123 #[.pointer (some ⟨b.M, 0, none⟩), .int .i64 25] w fun e w' => e = .returned (.tuple #[]) ∧ RcIs w' b T F c { S with e := { S.e with frm := Option.none, til := Option.none } } ∧ Turns w w' [b.M] := by
  obtain ⟨x, hx, hxo⟩ := h.card
  have e24 : w.cell? ⟨b.M, 24, none⟩ = some (.bool S.e.frm.isSome) := rcell hx 24 _ rfl
  have f24 := hx.frozen 24
  have e25 : w.cell? ⟨b.M, 25, none⟩ = some (.bool S.e.til.isSome) := rcell hx 25 _ rfl
  have f25 := hx.frozen 25
  have e19 : w.cell? ⟨b.M, 19, none⟩ = some (.int .i64 S.e.count) := rcell hx 19 _ rfl
  have f19 := hx.frozen 19
  have HF : Hid (RcIs (((w.setCell ⟨b.M, 24, none⟩ (.bool false)).setCell ⟨b.M, 25, none⟩ (.bool false))) b T F c { S with e := { S.e with frm := Option.none, til := Option.none } } ∧ Turns w (((w.setCell ⟨b.M, 24, none⟩ (.bool false)).setCell ⟨b.M, 25, none⟩ (.bool false))) [b.M]) := by
    have hT : Turns w (((w.setCell ⟨b.M, 24, none⟩ (.bool false)).setCell ⟨b.M, 25, none⟩ (.bool false))) [b.M] := by (repeat (refine Turns.setCell ?_ (by simp) _)); exact Turns.refl _ _
    have hr := (hx.put 24 (.bool false)).put 25 (.bool false)
    (try rw [rset_noF] at hr)
    (try rw [rset_noT] at hr)
    (try rw [rset_count] at hr)
    exact ⟨h.eng hT hr ⟨by first | exact hxo.1 | simp, by first | exact hxo.2.1 | simp, hxo.2.2⟩, hT⟩
  clear h hx hxo
  go_enter Tryz.func123, Tryz.ntmps123
  go_wp2
  go_end0
  exact ⟨rfl, HF.out⟩
theorem rforget_else (h : RcIs w b T F c S) (i : Int) (h1 : (i != 35) = true) (h2 : (i != 36) = true) (h3 : (i != 38) = true) (h4 : (i != 13) = true) (h5 : (i != 23) = true) (h6 : (i != 18) = true) (h7 : (i != 25) = true) : Calls Tryz.prog 123 #[.pointer (some ⟨b.M, 0, none⟩), .int .i64 i] w fun e w' => e = .returned (.tuple #[]) ∧ RcIs w' b T F c { S with e := { S.e with frm := Option.none, til := Option.none, count := 0 } } ∧ Turns w w' [b.M] := by
  obtain ⟨x, hx, hxo⟩ := h.card
  have e24 : w.cell? ⟨b.M, 24, none⟩ = some (.bool S.e.frm.isSome) := rcell hx 24 _ rfl
  have f24 := hx.frozen 24
  have e25 : w.cell? ⟨b.M, 25, none⟩ = some (.bool S.e.til.isSome) := rcell hx 25 _ rfl
  have f25 := hx.frozen 25
  have e19 : w.cell? ⟨b.M, 19, none⟩ = some (.int .i64 S.e.count) := rcell hx 19 _ rfl
  have f19 := hx.frozen 19
  have HF : Hid (RcIs ((((w.setCell ⟨b.M, 24, none⟩ (.bool false)).setCell ⟨b.M, 25, none⟩ (.bool false)).setCell ⟨b.M, 19, none⟩ (.int .i64 0))) b T F c { S with e := { S.e with frm := Option.none, til := Option.none, count := 0 } } ∧ Turns w ((((w.setCell ⟨b.M, 24, none⟩ (.bool false)).setCell ⟨b.M, 25, none⟩ (.bool false)).setCell ⟨b.M, 19, none⟩ (.int .i64 0))) [b.M]) := by
    have hT : Turns w ((((w.setCell ⟨b.M, 24, none⟩ (.bool false)).setCell ⟨b.M, 25, none⟩ (.bool false)).setCell ⟨b.M, 19, none⟩ (.int .i64 0))) [b.M] := by (repeat (refine Turns.setCell ?_ (by simp) _)); exact Turns.refl _ _
    have hr := ((hx.put 24 (.bool false)).put 25 (.bool false)).put 19 (.int .i64 ((0 : Nat) : Int))
    (try rw [rset_noF] at hr)
    (try rw [rset_noT] at hr)
    (try rw [rset_count] at hr)
    exact ⟨h.eng hT hr ⟨by first | exact hxo.1 | simp, by first | exact hxo.2.1 | simp, hxo.2.2⟩, hT⟩
  clear h hx hxo
  go_enter Tryz.func123, Tryz.ntmps123
  go_wp2
  go_end0
  exact ⟨rfl, HF.out⟩
theorem rforget_any (h : RcIs w b T F c S) (i : Int) : Calls Tryz.prog 123 #[.pointer (some ⟨b.M, 0, none⟩), .int .i64 i] w fun e w' => e = .returned (.tuple #[]) ∧ RcIs w' b T F c (S.forget i) ∧ Turns w w' [b.M] := by
  unfold Ab.forget
  by_cases ha : i = 35 ∨ i = 36 ∨ i = 38 ∨ i = 13
  · rw [if_pos ha]
    rcases ha with rfl | rfl | rfl | rfl
    · exact rforget_35 h
    · exact rforget_36 h
    · exact rforget_38 h
    · exact rforget_13 h
  rw [if_neg ha]
  by_cases hb : i = 23 ∨ i = 18 ∨ i = 25
  · rw [if_pos hb]
    rcases hb with rfl | rfl | rfl
    · exact rforget_23 h
    · exact rforget_18 h
    · exact rforget_25 h
  rw [if_neg hb]
  simp only [not_or] at ha hb
  exact rforget_else h i (by simpa using ha.1) (by simpa using ha.2.1) (by simpa using ha.2.2.1) (by simpa using ha.2.2.2) (by simpa using hb.1) (by simpa using hb.2.1) (by simpa using hb.2.2)
end
end Go.Proofs.YtclhhdodebdmjaaGreat

namespace Go.Proofs.YtclhhdodebdmjaaGreat
open Go.RowKit Go.MapKept Go.ChangeMaps
set_option linter.unusedVariables false
set_option linter.unusedSimpArgs false
set_option maxRecDepth 100000

/-- The card is S' now; what lies elsewhere stands; and it answers so. -/
def RxA (w w' : World) (b : Rn) (T F : List Nat) (c : Cf) (S' : Ab) (v : Value) (an : An) : Prop := ∃ b' T' F', RcIs w' b' T' F' c S' ∧ b'.M = b.M ∧ b'.P = b.P ∧ Turns w w' T ∧ (∀ k ∈ T, k ∈ T') ∧ (∀ k ∈ T', k ∈ T ∨ w.heap.size ≤ k) ∧ (∀ k ∈ F', k ∈ F ∨ w.heap.size ≤ k) ∧ AnIs w' w.heap.size T' v an
section
variable {w w' w'' : World} {b : Rn} {T F : List Nat} {c : Cf} {S S' : Ab} {v : Value} {an : An}
theorem RxA.after {b1 : Rn} {T1 F1 : List Nat} (ht : Turns w w' T) (hE : b1.M = b.M) (hn : b1.P = b.P) (hT : ∀ k ∈ T, k ∈ T1) (hTn : ∀ k ∈ T1, k ∈ T ∨ w.heap.size ≤ k) (hF : ∀ k ∈ F1, k ∈ F ∨ w.heap.size ≤ k) (h : RxA w' w'' b1 T1 F1 c S v an) : RxA w w'' b T F c S v an := by
  obtain ⟨b2, T2, F2, hA2, hE2, hn2, ht2, hT2, hTn2, hFn2, hAn⟩ := h
  have hs := ht.size
  refine ⟨b2, T2, F2, hA2, hE2.trans hE, hn2.trans hn, ht.trans ht2 hTn, fun k hk => hT2 k (hT k hk), fun k hk => ?_, fun k hk => ?_, hAn.mono hs (fun k hk => .inl hk)⟩
  · rcases hTn2 k hk with hk | hk
    · exact hTn k hk
    · exact .inr (by omega)
  · rcases hFn2 k hk with hk | hk
    · exact hF k hk
    · exact .inr (by omega)
/-- A command that leaves the card's blocks where they are, and answers with new memory. -/
theorem RxA.of (h : RcIs w' b T F c S) (hT : Turns w w' T) (hl : ∀ k ∈ T, k < w.heap.size) (ha : AnIs w' w.heap.size [] v an) : RxA w w' b T F c S v an :=
  ⟨b, T, F, h, rfl, rfl, hT, fun _ hk => hk, fun _ hk => .inl hk, fun _ hk => .inl hk, ha.mono (Nat.le_refl _) (fun k hk => .inr (hl k hk))⟩
/-- What a function does behind its own part in its own new memory does not touch the card. -/
theorem RxA.out {W : World} (h : RxA W w' b T F c S v an) (hB : Below w.heap.size w W) {U : List Nat} {w'' : World} (ht : Turns w' w'' U) (hU : ∀ k ∈ U, w.heap.size ≤ k ∧ k < W.heap.size) (hT : ∀ k ∈ T, k < w.heap.size) (hF : ∀ k ∈ F, k < w.heap.size) : RxA w w'' b T F c S v an := by
  obtain ⟨b', T', F', h1, h2, h3, h4, h5, h6, h7, h8⟩ := h
  have hs := hB.size
  refine ⟨b', T', F', h1.turns ht (fun k hk => ⟨fun hm => ?_, fun hm => ?_⟩), h2, h3, ((Turns.of_below hB T).trans h4 (fun k hk => .inl hk)).trans ht (fun k hk => .inr (hU k hk).1), h5, fun k hk => ?_, fun k hk => ?_, (h8.far ht (fun k hk => .inr (hU k hk).2)).mono hs (fun k hk => .inl hk)⟩
  · have := hU k hk
    rcases h6 _ hm with hm | hm
    · have := hT _ hm; omega
    · omega
  · have := hU k hk
    rcases h7 _ hm with hm | hm
    · have := hF _ hm; omega
    · omega
  · rcases h6 _ hk with hk | hk
    · exact .inl hk
    · exact .inr (by omega)
  · rcases h7 _ hk with hk | hk
    · exact .inl hk
    · exact .inr (by omega)
theorem RxA.turns (h : RxA w w' b T F c S v an) : Turns w w' T := by obtain ⟨_, _, _, _, _, _, h, _⟩ := h; exact h
end
theorem rCid_any (w : World) : Calls Tryz.prog 124 #[] w fun e w' => ∃ A n, e = .returned (.slice A 16 n) ∧ w'.ownsRow w.heap.size 5 1 (.slice A 16 n) 16 (intsV .u8 cidL) ∧ Below w.heap.size w w' := by
  obtain ⟨i0, hi, hz0, hz1, hz2⟩ := info_parts Grd.u8_info
  have hcv := conv_const w #[.int .u8 76, .int .u8 79, .int .u8 67, .int .u8 75, .int .u8 69, .int .u8 84] 6 6
  obtain ⟨wA, hwA⟩ : ∃ wA, wA = w.alloc (.cells #[.int .u8 76, .int .u8 79, .int .u8 67, .int .u8 75, .int .u8 69, .int .u8 84] 5 (6, 7)) := ⟨_, rfl⟩
  have HB : Hid (Below w.heap.size w wA) := by unfold Hid; rw [hwA]; exact (Below.refl _ _).alloc (Nat.le_refl _) _
  have hsz : wA.heap.size = w.heap.size + 1 := by rw [hwA]; simp
  have hrow : wA.heap[w.heap.size]? = some (.cells #[.int .u8 76, .int .u8 79, .int .u8 67, .int .u8 75, .int .u8 69, .int .u8 84] 5 (6, 7)) := by rw [hwA]; exact heap_alloc_new _ _
  have cc : ∀ j, j < 6 → wA.cell? ⟨w.heap.size, j, none⟩ = #[Value.int .u8 76, .int .u8 79, .int .u8 67, .int .u8 75, .int .u8 69, .int .u8 84][j]? := fun j hj => by
    simp [World.cell?, hrow]
  have c0 := cc 0 (by omega)
  have c1 := cc 1 (by omega)
  have c2 := cc 2 (by omega)
  have c3 := cc 3 (by omega)
  have c4 := cc 4 (by omega)
  have c5 := cc 5 (by omega)
  simp only [List.getElem?_toArray, List.getElem?_cons_zero, List.getElem?_cons_succ] at c0 c1 c2 c3 c4 c5
  rw [show ((#[Value.int .u8 76, .int .u8 79, .int .u8 67, .int .u8 75, .int .u8 69, .int .u8 84] : Array Value).size, (#[Value.int .u8 76, .int .u8 79, .int .u8 67, .int .u8 75, .int .u8 69, .int .u8 84] : Array Value).size + 1) = (6, 7) from rfl, ← hwA] at hcv
  clear hwA hrow cc
  go_enter Tryz.func124, Tryz.ntmps124
  have hge := grownCap_ge wA 16 6 5
  have hcm := grownCap_le_maxLen wA 16 6 5 (by decide)
  unfold grownCap at hge hcm
  have HG := Lib.hid (And.intro hge hcm)
  clear hge hcm
  go_wp2
  go_ret
  have hG := HG.out
  revert hG
  generalize (Question.appendCap 16 6 5).cut (wA.tape wA.drawn (Question.appendCap 16 6 5)) = K
  intro hG
  refine ⟨some ⟨w.heap.size + 1, 0, none⟩, K, rfl, ⟨by rfl, .inr ⟨w.heap.size + 1, K, _, rfl, by omega, (by rw [← hsz]; exact (heap_alloc_new wA _)), hG.1, hG.2, ?_, ?_⟩⟩, ?_⟩
  · simp [Builtin.zeroCells]; omega
  · have hz : (Builtin.zeroCells #[Value.int .u8 0] 10).toList = List.replicate 10 (Value.int .u8 0) := by kernel_rfl
    simp only [Array.toList_append, hz]
    rfl
  · exact (HB.out.alloc HB.out.size _).drew
end Go.Proofs.YtclhhdodebdmjaaGreat

namespace Go.Proofs.YtclhhdodebdmjaaGreat
open Go.RowKit Go.MapKept Go.ChangeMaps
set_option linter.unusedVariables false
set_option linter.unusedSimpArgs false
set_option maxRecDepth 100000

theorem goF_key (s j : Int) (x : Int × Int × Int) : ∀ d, goF d s j = some x → ∃ i ∈ d, keyI i = (s, j) ∧ valI i = x
  | [], h => by simp [goF] at h
  | i :: d, h => by
    unfold goF at h
    split at h
    · rename_i hk; injection h with h; exact ⟨i, by simp, hk.symm, h⟩
    · obtain ⟨k, hk, e⟩ := goF_key s j x d h
      exact ⟨k, by simp [hk], e⟩
theorem to_six {s i : Int} {own : Bool} (h : nextV s i own = (6, true)) : i = 24 ∨ i = 25 ∨ i = 13 := by
  unfold nextV at h
  split at h
  · injection h with h _; omega
  cases hw : waysV s i with
  | none => rw [hw] at h; simp at h
  | some x =>
    obtain ⟨a, t, o⟩ := x
    rw [hw] at h
    simp only at h
    unfold waysV at hw
    split at hw
    · rename_i hm; simp [writeL] at hm; omega
    split at hw
    · injection hw with hw; injection hw with h1 h2; injection h2 with h2 h3; subst h1; subst h2; subst h3
      simp at h
    obtain ⟨y, hy, hk, hv⟩ := goF_key s i (a, t, o) insI hw
    have key : ∀ y ∈ insI, ((valI y).2.1 = 6 → (keyI y).2 = 13) ∧ ((valI y).1 = 2 → (valI y).2.2 ≠ 6) := by decide
    have hk2 := key y hy
    rw [hv, hk] at hk2
    simp only at hk2
    split at h
    · simp at h
    · split at h
      · rename_i h2; injection h with h _; exact absurd h (hk2.2 h2.1)
      · injection h with h _; have := hk2.1 h; omega
section
variable {w w' : World} {b : Rn} {T F : List Nat} {c : Cf} {S S' : Ab} {v : Value} {an : An} {x : Rx}
/- A bit comes up. -/
/- Up to the state's own word on the command. -/
end
end Go.Proofs.YtclhhdodebdmjaaGreat

namespace Go.Proofs.YtclhhdodebdmjaaGreat
open Go.RowKit Go.MapKept Go.ChangeMaps
set_option linter.unusedVariables false
set_option linter.unusedSimpArgs false
set_option maxRecDepth 100000

section
variable {w w' : World} {b : Rn} {T F : List Nat} {c : Cf} {S S' : Ab} {v : Value} {an : An} {x : Rx}
theorem rwrote_nil (h : RcIs w b T F c S) : RcIs (w.setCell ⟨b.M, 30, none⟩ (.slice none 0 0)) { b with wr := none, nwr := 0, cwr := 0 } T F c S ∧ Turns w (w.setCell ⟨b.M, 30, none⟩ (.slice none 0 0)) [b.M] := by
  obtain ⟨x, hx, hxo⟩ := h.card
  have ht : Turns w (w.setCell ⟨b.M, 30, none⟩ (.slice none 0 0)) [b.M] := (Turns.refl _ _).setCell (by simp) _
  have hr := hx.put 30 (.slice none 0 0)
  rw [rset_wrote] at hr
  have hU : RowsOf w [b.M] [67] := RowsOf.one hx
  exact ⟨h.own (e' := S.e) (nx' := S.next) (A1 := b.nx) (c1 := b.cnx) (A2 := none) (n2 := 0) (c2 := 0) (T' := T) (xs' := []) ht hr hxo.1 hxo.2.1 hxo.2.2.1 hxo.2.2.2 (hU.own ht h.nx (by decide)) (World.ownsRow_nil _ _ _ _) (fun k hk => hk) (fun k hk => h.inT k (by simp [Rn.ts, hk])) (by simp [Vca.blk]) h.TF (fun k hk => Nat.lt_of_lt_of_le (h.Tlt k hk) ht.size), ht⟩
theorem rnext_nil (h : RcIs w b T F c S) : RcIs ((w.setCell ⟨b.M, 27, none⟩ (.slice none 0 0)).setCell ⟨b.M, 28, none⟩ (.int .i64 0)) { b with nx := none, cnx := 0 } T F c { S with next := [], e := { S.e with head := 0 } } ∧ Turns w ((w.setCell ⟨b.M, 27, none⟩ (.slice none 0 0)).setCell ⟨b.M, 28, none⟩ (.int .i64 0)) [b.M] := by
  obtain ⟨x, hx, hxo⟩ := h.card
  have ht : Turns w ((w.setCell ⟨b.M, 27, none⟩ (.slice none 0 0)).setCell ⟨b.M, 28, none⟩ (.int .i64 0)) [b.M] := ((Turns.refl _ _).setCell (by simp) _).setCell (by simp) _
  have hr := (hx.put 27 (.slice none 0 0)).put 28 (.int .i64 ((0 : Nat) : Int))
  rw [rset_next, rset_head] at hr
  have hU : RowsOf w [b.M] [67] := RowsOf.one hx
  obtain ⟨xs, hxs⟩ := h.wr
  exact ⟨h.own (e' := { S.e with head := 0 }) (nx' := []) (A1 := none) (c1 := 0) (A2 := b.wr) (n2 := b.nwr) (c2 := b.cwr) (T' := T) (xs' := xs) ht hr hxo.1 hxo.2.1 hxo.2.2.1 hxo.2.2.2 (World.ownsRow_nil _ _ _ _) (hU.own ht hxs (by decide)) (fun k hk => hk) (by simp [Vca.blk]) (fun k hk => h.inT k (by simp [Rn.ts, hk])) h.TF (fun k hk => Nat.lt_of_lt_of_le (h.Tlt k hk) ht.size), ht⟩
/- Up to the card's own part. -/
theorem rtaken_ok (h : AbOk c S) (i : Int) (arg : Nat) (harg : arg < 4294967296) : AbOk c (S.taken i arg) := by
  have h1 := go_ok h i arg harg
  have h2 : AbOk c ((S.go i arg).forget i) := by
    unfold Ab.forget
    split
    · exact { h1 with count := by simp }
    · split
      · exact { h1 with frm := by simp, til := by simp }
      · exact { h1 with frm := by simp, til := by simp, count := by simp }
  unfold Ab.taken Ab.calm
  split
  · exact h2
  · exact { h2 with next := by simp, nlen := by simp, head := by simp }
set_option maxHeartbeats 2000000 in
theorem rcmd_else3 (h : RcIs w b T F c S) (hok : AbOk c S) (arg : Nat) (harg : arg < 4294967296) (hleg : (nextV S.s 3 (ownB S.addr arg)).2 = true) : Calls Tryz.prog 64 #[.pointer (some ⟨b.M, 0, none⟩), .agg #[.int .i64 3, .int .u32 arg], .bool true] w fun e w' => ∃ v, e = .returned v ∧ RxA w w' b T F c (S.taken 3 arg).told v ⟨false, [], stN (S.taken 3 arg), []⟩ := by
  obtain ⟨s1, hs1⟩ : ∃ s1, nextV S.s 3 (ownB S.addr arg) = (s1, true) := ⟨_, Prod.ext rfl hleg⟩
  obtain ⟨W, hW⟩ : ∃ W, W = (w.alloc (.cells #[.int .i64 3, .int .u32 arg] 152)).alloc (.cells nilAn 56) := ⟨_, rfl⟩
  obtain ⟨Z, hZ⟩ : ∃ Z, Z = w.heap.size := ⟨_, rfl⟩
  have HBW : Hid (Below w.heap.size w W) := by unfold Hid; rw [hW]; (repeat (first | (with_reducible refine Below.drew ?_) | (with_reducible refine below_drewN0 ?_ _) | ((with_reducible refine Below.setCell ?_ ?_ _); rotate_left; focus (first | omega | (simp; done) | (simp; omega) | (simp at *; omega))) | ((with_reducible refine Below.alloc ?_ ?_ _); rotate_left; focus (first | omega | (simp; done) | (simp; omega) | (simp at *; omega))) | (with_reducible exact Below.refl _ _)))
  have HZ : Hid (Row W Z 152 #[.int .i64 3, .int .u32 arg]) := by unfold Hid; rw [hW, hZ]; exact (Row.fresh _ _ _).alloc _
  have HRr : Hid (Row W (Z + 1) 56 nilAn) := by
    unfold Hid; rw [hW, hZ]
    have := Row.fresh (w.alloc (.cells #[.int .i64 3, .int .u32 arg] 152)) 56 nilAn
    simpa using this
  have hA0 := h.below HBW.out
  have HA0 := Lib.hid hA0
  have HOk := Lib.hid hok
  have HTl := Lib.hid (And.intro h.Tlt h.Flt)
  have HZl : Hid (w.heap.size = Z ∧ Z + 1 < W.heap.size) := ⟨hZ.symm, HRr.out.lt⟩
  have z0 : W.cell? ⟨Z, 0, none⟩ = some (.int .i64 3) := by rw [HZ.out.cell]; rfl
  have z1 : W.cell? ⟨Z, 1, none⟩ = some (.int .u32 arg) := by rw [HZ.out.cell]; rfl
  have HMT : Hid (b.M ∈ T ∧ b.P ∈ T) := ⟨h.inT _ (by simp [Rn.ts]), h.inT _ (by simp [Rn.ts])⟩
  unfold nilAn at hW
  have hL := rLegal_ph hA0.drew.ph hok.st 3 arg hok.addr harg
  rw [hleg] at hL
  have HLg := Lib.hid hL
  have q1 : ∀ t : Kept W [], t.u.cell? ⟨b.M, 9, none⟩ = some (.pointer (some ⟨b.P, 0, none⟩)) := fun t => by obtain ⟨x, hx, _⟩ := (hA0.turns t.h (by simp)).card; exact rcell hx 9 _ rfl
  have q2 : ∀ t : Kept W [], t.u.cell? ⟨Z, 0, none⟩ = some (.int .i64 3) := fun t => by rw [(t.h.row HZ.out (by simp)).cell]; rfl
  have q3 : ∀ t : Kept W [], t.u.cell? ⟨Z, 1, none⟩ = some (.int .u32 arg) := fun t => by rw [(t.h.row HZ.out (by simp)).cell]; rfl
  clear h hA0 z0 z1 hL hok
  go_enter Tryz.func64, Tryz.ntmps64
  go_upto_region 1 with fail
  rw [← hZ]
  rw [hZ, ← hW, ← hZ]
  clear hW hZ
  go_wp2_with fail
  (refine wp_region_noPanic ?_; refine region_treeW (fun u => ∃ t : Kept W [], u = t.u) (Tn.takes [0, 1, 2, 3, 4, 5, 6, 7] (.one 8 (Tn.takes [9] .nil))) (by kernel_rfl) (by kernel_rfl) (fun _ _ _ _ _ h => h) ⟨⟨_, Turns.of_below (Below.refl _ _).drew _⟩, rfl⟩ ?_; simp only [Tn.takes])
  (repeat ((with_reducible refine wpTree_take (by with_unfolding_all exact rfl) ?_); (with_reducible (show wpQuiet _ _ _ _ (_ :: _) _)); go_big_quiet_step (fail); (with_reducible refine wpQuiet_nil ?_)))
  clear q1 q2 q3
  (with_reducible refine wpTree_one (by with_unfolding_all exact rfl) ?_)
  gi_wp2_with fail
  (first | refine ⟨trivial, ((callsIn_wide (n := 8)).2 (HLg.out)).mono ?_⟩ | refine ((callsIn_wide (n := 8)).2 (HLg.out)).mono ?_)
  rintro e w1 ⟨rfl, hb⟩
  have hb1 : Below W.heap.size W w1 := (Below.refl _ _).drew.trans hb
  have HA1 := Lib.hid (HA0.out.below hb1)
  have HZ1 := Lib.hid (HZ.out.below hb1 HZ.out.lt)
  have HB1 := Lib.hid hb1
  clear hb hb1 HLg HZ HA0
  gi_wp2_with fail
  ((with_reducible refine outQ_normal ?_ ?_); exact ⟨⟨_, Turns.of_below HB1.out _⟩, rfl⟩)
  (repeat ((with_reducible refine wpTree_take (by with_unfolding_all exact rfl) ?_); (with_reducible (show wpQuiet _ _ _ _ (_ :: _) _)); go_big_quiet_step (fail); (with_reducible refine wpQuiet_nil ?_)))
  with_reducible refine wpTree_nil ?_
  refine NoPanic.normal ?_
  have hGo := rGo_yes HA1.out.drew.ph HOk.out.st 3 arg HOk.out.addr harg s1 hs1
  have HGo := Lib.hid hGo
  have hS1 : S.go 3 arg = { S with s := s1, addr := addrTo 3 S.addr arg, left := leftTo S.s s1 S.left } := by unfold Ab.go; rw [hs1]
  have HS1 := Lib.hid hS1
  have HS6 := Lib.hid hs1
  have hP : b.M ≠ b.P := by obtain ⟨x, hx, _⟩ := HA1.out.card; exact hx.ne_type HA1.out.ph (by decide)
  have hZP : Z ≠ b.P := HZ1.out.ne_type HA1.out.ph (by decide)
  have q1 : ∀ t : Kept w1 [b.P], t.u.cell? ⟨b.M, 9, none⟩ = some (.pointer (some ⟨b.P, 0, none⟩)) := fun t => by obtain ⟨x, hx, _⟩ := HA1.out.card; exact t.h.cell (p := ⟨b.M, 9, none⟩) (rcell hx 9 _ rfl) (by simpa using hP)
  have q2 : ∀ t : Kept w1 [b.P], t.u.cell? ⟨Z, 0, none⟩ = some (.int .i64 3) := fun t => by rw [(t.h.row HZ1.out (by simpa using hZP)).cell]; rfl
  have q3 : ∀ t : Kept w1 [b.P], t.u.cell? ⟨Z, 1, none⟩ = some (.int .u32 arg) := fun t => by rw [(t.h.row HZ1.out (by simpa using hZP)).cell]; rfl
  clear hGo hS1 hP hs1 hleg
  go_wp2_with fail
  (refine wp_region_noPanic ?_; refine region_treeW (fun u => ∃ t : Kept w1 [b.P], u = t.u) (Tn.takes [0, 1, 2, 3, 4, 5, 6, 7] (.one 8 (Tn.takes [9, 10, 11, 12, 13] .nil))) (by kernel_rfl) (by kernel_rfl) (fun _ _ _ _ _ h => h) ⟨⟨_, Turns.of_below (Below.refl _ _).drew _⟩, rfl⟩ ?_; simp only [Tn.takes])
  (repeat ((with_reducible refine wpTree_take (by with_unfolding_all exact rfl) ?_); (with_reducible (show wpQuiet _ _ _ _ (_ :: _) _)); go_big_quiet_step (fail); (with_reducible refine wpQuiet_nil ?_)))
  clear q1 q2 q3
  (with_reducible refine wpTree_one (by with_unfolding_all exact rfl) ?_)
  gi_wp2_with fail
  (first | refine ⟨trivial, ((callsIn_wide (n := 8)).2 (HGo.out)).mono ?_⟩ | refine ((callsIn_wide (n := 8)).2 (HGo.out)).mono ?_)
  rintro e w2 ⟨rfl, hp, ht⟩
  have ht2 : Turns w1 w2 [b.P] := (Turns.refl w1 [b.P]).drew.trans ht (by simp)
  have hA2 : RcIs w2 b T F c (S.go 3 arg) := by
    rw [HS1.out]
    exact HA1.out.phase ht2 hp
  have HA2 := Lib.hid hA2
  have HT2 : Hid (Turns W w2 T) := (Turns.of_below HB1.out T).trans ht2 (fun k hk => .inl (by obtain rfl := List.mem_singleton.1 hk; exact HMT.out.2))
  have HTT2 := Lib.hid ht2
  have HZ2 := Lib.hid (ht2.row HZ1.out (by simpa using hZP))
  clear hp ht ht2 hA2 HGo HA1 HZ1 HB1 hZP
  gi_wp2_with fail
  ((with_reducible refine outQ_normal ?_ ?_); exact ⟨⟨_, HTT2.out⟩, rfl⟩)
  (repeat ((with_reducible refine wpTree_take (by with_unfolding_all exact rfl) ?_); (with_reducible (show wpQuiet _ _ _ _ (_ :: _) _)); go_big_quiet_step (fail); (with_reducible refine wpQuiet_nil ?_)))
  with_reducible refine wpTree_nil ?_
  refine NoPanic.normal ?_
  have HFo := Lib.hid (rforget_any HA2.out 3)
  have z0 : w2.cell? ⟨Z, 0, none⟩ = some (.int .i64 3) := by rw [HZ2.out.cell]; rfl
  clear HTT2
  go_wp2_with fail
  refine HFo.out.mono ?_
  rintro e w3 ⟨rfl, hA3, ht3⟩
  obtain ⟨S3, hS3⟩ : ∃ S3, S3 = (S.go 3 arg).forget 3 := ⟨_, rfl⟩
  have HS31 : Hid (S3.s = s1) := by unfold Hid; rw [hS3, HS1.out]; rfl
  rw [← hS3] at hA3
  have HS3 := Lib.hid hS3
  have hZM : Z ≠ b.M := by obtain ⟨x, hx, _⟩ := HA2.out.card; exact HZ2.out.ne_type hx (by decide)
  have HZ3 := Lib.hid (ht3.row HZ2.out (by simpa using hZM))
  have HT3 : Hid (Turns W w3 T) := HT2.out.trans ht3 (fun k hk => .inl (by obtain rfl := List.mem_singleton.1 hk; exact HMT.out.1))
  obtain ⟨w4, hw4⟩ : ∃ w4, w4 = w3.setCell ⟨b.M, 30, none⟩ (.slice none 0 0) := ⟨_, rfl⟩
  obtain ⟨x3, hx3, hxo3⟩ := hA3.card
  have e30 : w3.cell? ⟨b.M, 30, none⟩ = some (.slice b.wr b.nwr b.cwr) := rcell hx3 30 _ rfl
  have f30 := hx3.frozen 30
  obtain ⟨hA4, ht4⟩ := rwrote_nil hA3
  rw [← hw4] at hA4 ht4
  obtain ⟨b4, hb4⟩ : ∃ b4, b4 = { b with wr := none, nwr := 0, cwr := 0 } := ⟨_, rfl⟩
  rw [← hb4] at hA4
  have HE4 : Hid (b4.M = b.M ∧ b4.P = b.P) := by rw [hb4]; exact ⟨rfl, rfl⟩
  have HA4 := Lib.hid hA4
  have HZ4 := Lib.hid (ht4.row HZ3.out (by simpa using hZM))
  have HT4 : Hid (Turns W w4 T) := HT3.out.trans ht4 (fun k hk => .inl (by obtain rfl := List.mem_singleton.1 hk; exact HMT.out.1))
  have HW4 := Lib.hid hw4
  clear hA3 ht3 hS3 hw4 hA4 ht4 hb4 HFo z0 HA2 HZ2 HT2 HT3 HZ3 hx3 hxo3 HS1
  go_upto_region 10 with fail
  rw [← HW4.out]
  clear HW4 e30 f30
  clear w3
  have e9 : w4.cell? ⟨b.M, 9, none⟩ = some (.pointer (some ⟨b.P, 0, none⟩)) := by obtain ⟨x, hx, _⟩ := HA4.out.card; have h := rcell hx 9 (.pointer (some ⟨b4.P, 0, none⟩)) rfl; rw [HE4.out.1, HE4.out.2] at h; exact h
  have p0 : w4.cell? ⟨b.P, 0, none⟩ = some (.int .i64 S3.s) := by have h := HA4.out.ph; rw [HE4.out.2] at h; rw [h.cell]; rfl
  have h6 : ¬ S3.s = 6 := fun h => by
    have h1 := HS6.out
    rw [← HS31.out, h] at h1
    rcases to_six h1 with h | h | h <;> exact absurd h (by decide)
  have b6 : (S3.s != 6) = true := by simpa using h6
  obtain ⟨w5, hw5⟩ : ∃ w5, w5 = (w4.setCell ⟨b4.M, 27, none⟩ (.slice none 0 0)).setCell ⟨b4.M, 28, none⟩ (.int .i64 0) := ⟨_, rfl⟩
  obtain ⟨x4, hx4, hxo4⟩ := HA4.out.card
  obtain ⟨hA5, hT5⟩ := rnext_nil HA4.out
  have hET : b4.M = b.M := HE4.out.1
  rw [← hw5] at hA5 hT5
  rw [hET] at hx4 hT5 hw5
  have HA5 : Hid (RcIs w5 { b4 with nx := none, cnx := 0 } T F c (S.taken 3 arg)) := by
    unfold Hid Ab.taken
    rw [← HS3.out]
    unfold Ab.calm
    rw [if_neg h6]
    exact hA5
  have HT5 : Hid (Turns W w5 T) := HT4.out.trans hT5 (fun k hk => .inl (by obtain rfl := List.mem_singleton.1 hk; exact HMT.out.1))
  have HZ5 := Lib.hid (hT5.row HZ4.out (by simpa using hZM))
  have HE5 : Hid (({ b4 with nx := none, cnx := 0 } : Rn).M = b.M ∧ ({ b4 with nx := none, cnx := 0 } : Rn).P = b.P) := HE4.out
  have HW5 := Lib.hid hw5
  have e27 := hx4.cell 27
  have f27 := hx4.frozen 27
  have e28 := hx4.cell 28
  have f28 := hx4.frozen 28
  obtain ⟨b5, hb5⟩ : ∃ b5, b5 = ({ b4 with nx := none, cnx := 0 } : Rn) := ⟨_, rfl⟩
  rw [← hb5] at HA5 HE5
  clear h6 hb5 hT5 hET hA5 hx4 hxo4 hw5 HA4 HT4 HZ4 HE4 HS3 HS31 HS6
  go_upto_region 13 with fail
  rw [← HW5.out]
  clear HW5 e27 f27 e28 f28 e9 p0
  clear w4
  have z0 : w5.cell? ⟨Z, 0, none⟩ = some (.int .i64 3) := by rw [HZ5.out.cell]; rfl
  have hSt := rstatus_any HA5.out (rtaken_ok HOk.out 3 arg harg)
  rw [HE5.out.1] at hSt
  have HSt := Lib.hid hSt
  clear hSt
  go_wp2_with fail
  refine HSt.out.mono ?_
  rintro e w6 ⟨rfl, hA6, ht6⟩
  obtain ⟨n6, hn6⟩ : ∃ n6, n6 = stN (S.taken 3 arg) := ⟨_, rfl⟩
  have HX : Hid (RxA W w6 b T F c (S.taken 3 arg).told (.agg #[.bool false, .slice none 0 0, .int .u32 (n6 : Nat), .slice none 0 0]) ⟨false, [], stN (S.taken 3 arg), []⟩) := by
    unfold Hid
    rw [hn6]
    exact RxA.after HT5.out HE5.out.1 HE5.out.2 (fun _ hk => hk) (fun _ hk => .inl hk) (fun _ hk => .inl hk) (RxA.of hA6 (ht6.mono (fun k hk => by obtain rfl := List.mem_singleton.1 hk; exact HMT.out.1)) HA5.out.Tlt (AnIs.word _ _ _ _ _))
  rw [← hn6]
  clear hA6 ht6 HSt hn6 z0 HA5 HT5 HE5 HZ5
  clear w2
  obtain ⟨w2, hw2'⟩ : ∃ w2, w2 = w6 := ⟨_, rfl⟩
  subst hw2'
  have HR2 : Hid (Row w2 (Z + 1) 56 nilAn) := HX.out.turns.row HRr.out (fun hm => by have := HTl.out.1 _ hm; have := HZl.out; omega)
  have m0 : w2.cell? ⟨Z + 1, 0, none⟩ = some (.bool false) := by rw [HR2.out.cell]; rfl
  have m1 : w2.cell? ⟨Z + 1, 1, none⟩ = some (.slice none 0 0) := by rw [HR2.out.cell]; rfl
  have m2 : w2.cell? ⟨Z + 1, 2, none⟩ = some (.int .u32 0) := by rw [HR2.out.cell]; rfl
  have m3 : w2.cell? ⟨Z + 1, 3, none⟩ = some (.slice none 0 0) := by rw [HR2.out.cell]; rfl
  have g0 := HR2.out.frozen 0
  have g1 := HR2.out.frozen 1
  have g2 := HR2.out.frozen 2
  have g3 := HR2.out.frozen 3
  have hT9 : Turns w2 ((((w2.setCell ⟨Z + 1, 0, none⟩ (.bool false)).setCell ⟨Z + 1, 1, none⟩ (.slice none 0 0)).setCell ⟨Z + 1, 2, none⟩ (.int .u32 n6)).setCell ⟨Z + 1, 3, none⟩ (.slice none 0 0)) [Z + 1] := ((((Turns.refl _ _).setCell (by simp) _).setCell (by simp) _).setCell (by simp) _).setCell (by simp) _
  have HZ9 : Hid (Row ((((w2.setCell ⟨Z + 1, 0, none⟩ (.bool false)).setCell ⟨Z + 1, 1, none⟩ (.slice none 0 0)).setCell ⟨Z + 1, 2, none⟩ (.int .u32 n6)).setCell ⟨Z + 1, 3, none⟩ (.slice none 0 0)) (Z + 1) 56 #[.bool false, .slice none 0 0, .int .u32 n6, .slice none 0 0]) := by
    have := (((HR2.out.put 0 (.bool false)).put 1 (.slice none 0 0)).put 2 (.int .u32 n6)).put 3 (.slice none 0 0)
    unfold Hid; simpa [nilAn] using this
  have HX9 := Lib.hid (HX.out.out HBW.out hT9 (fun k hk => by obtain rfl := List.mem_singleton.1 hk; have := HZl.out; omega) HTl.out.1 HTl.out.2)
  clear hT9 HR2 HX
  go_wp2
  exact bodyPost_ret (v := .agg #[.bool false, .slice none 0 0, .int .u32 (n6 : Nat), .slice none 0 0]) (results_cell_row rfl _ _ (Z + 1) 56 _ (0, 0) _ rfl HZ9.out Tryz.underlying56 rfl (by kernel_rfl)) rfl ⟨_, rfl, HX9.out⟩
set_option maxHeartbeats 2000000 in
theorem rcmd_else7 (h : RcIs w b T F c S) (hok : AbOk c S) (arg : Nat) (harg : arg < 4294967296) (hleg : (nextV S.s 7 (ownB S.addr arg)).2 = true) (hans : answersB 7 (ownB S.addr arg) = true) : Calls Tryz.prog 64 #[.pointer (some ⟨b.M, 0, none⟩), .agg #[.int .i64 7, .int .u32 arg], .bool true] w fun e w' => ∃ v, e = .returned v ∧ RxA w w' b T F c (S.taken 7 arg).told v ⟨false, [], stN (S.taken 7 arg), []⟩ := by
  obtain ⟨s1, hs1⟩ : ∃ s1, nextV S.s 7 (ownB S.addr arg) = (s1, true) := ⟨_, Prod.ext rfl hleg⟩
  obtain ⟨W, hW⟩ : ∃ W, W = (w.alloc (.cells #[.int .i64 7, .int .u32 arg] 152)).alloc (.cells nilAn 56) := ⟨_, rfl⟩
  obtain ⟨Z, hZ⟩ : ∃ Z, Z = w.heap.size := ⟨_, rfl⟩
  have HBW : Hid (Below w.heap.size w W) := by unfold Hid; rw [hW]; (repeat (first | (with_reducible refine Below.drew ?_) | (with_reducible refine below_drewN0 ?_ _) | ((with_reducible refine Below.setCell ?_ ?_ _); rotate_left; focus (first | omega | (simp; done) | (simp; omega) | (simp at *; omega))) | ((with_reducible refine Below.alloc ?_ ?_ _); rotate_left; focus (first | omega | (simp; done) | (simp; omega) | (simp at *; omega))) | (with_reducible exact Below.refl _ _)))
  have HZ : Hid (Row W Z 152 #[.int .i64 7, .int .u32 arg]) := by unfold Hid; rw [hW, hZ]; exact (Row.fresh _ _ _).alloc _
  have HRr : Hid (Row W (Z + 1) 56 nilAn) := by
    unfold Hid; rw [hW, hZ]
    have := Row.fresh (w.alloc (.cells #[.int .i64 7, .int .u32 arg] 152)) 56 nilAn
    simpa using this
  have hA0 := h.below HBW.out
  have HA0 := Lib.hid hA0
  have HOk := Lib.hid hok
  have HTl := Lib.hid (And.intro h.Tlt h.Flt)
  have HZl : Hid (w.heap.size = Z ∧ Z + 1 < W.heap.size) := ⟨hZ.symm, HRr.out.lt⟩
  have z0 : W.cell? ⟨Z, 0, none⟩ = some (.int .i64 7) := by rw [HZ.out.cell]; rfl
  have z1 : W.cell? ⟨Z, 1, none⟩ = some (.int .u32 arg) := by rw [HZ.out.cell]; rfl
  have HMT : Hid (b.M ∈ T ∧ b.P ∈ T) := ⟨h.inT _ (by simp [Rn.ts]), h.inT _ (by simp [Rn.ts])⟩
  unfold nilAn at hW
  have hL := rLegal_ph hA0.drew.ph hok.st 7 arg hok.addr harg
  rw [hleg] at hL
  have HLg := Lib.hid hL
  have q1 : ∀ t : Kept W [], t.u.cell? ⟨b.M, 9, none⟩ = some (.pointer (some ⟨b.P, 0, none⟩)) := fun t => by obtain ⟨x, hx, _⟩ := (hA0.turns t.h (by simp)).card; exact rcell hx 9 _ rfl
  have q2 : ∀ t : Kept W [], t.u.cell? ⟨Z, 0, none⟩ = some (.int .i64 7) := fun t => by rw [(t.h.row HZ.out (by simp)).cell]; rfl
  have q3 : ∀ t : Kept W [], t.u.cell? ⟨Z, 1, none⟩ = some (.int .u32 arg) := fun t => by rw [(t.h.row HZ.out (by simp)).cell]; rfl
  clear h hA0 z0 z1 hL hok
  go_enter Tryz.func64, Tryz.ntmps64
  go_upto_region 1 with fail
  rw [← hZ]
  rw [hZ, ← hW, ← hZ]
  clear hW hZ
  go_wp2_with fail
  (refine wp_region_noPanic ?_; refine region_treeW (fun u => ∃ t : Kept W [], u = t.u) (Tn.takes [0, 1, 2, 3, 4, 5, 6, 7] (.one 8 (Tn.takes [9] .nil))) (by kernel_rfl) (by kernel_rfl) (fun _ _ _ _ _ h => h) ⟨⟨_, Turns.of_below (Below.refl _ _).drew _⟩, rfl⟩ ?_; simp only [Tn.takes])
  (repeat ((with_reducible refine wpTree_take (by with_unfolding_all exact rfl) ?_); (with_reducible (show wpQuiet _ _ _ _ (_ :: _) _)); go_big_quiet_step (fail); (with_reducible refine wpQuiet_nil ?_)))
  clear q1 q2 q3
  (with_reducible refine wpTree_one (by with_unfolding_all exact rfl) ?_)
  gi_wp2_with fail
  (first | refine ⟨trivial, ((callsIn_wide (n := 8)).2 (HLg.out)).mono ?_⟩ | refine ((callsIn_wide (n := 8)).2 (HLg.out)).mono ?_)
  rintro e w1 ⟨rfl, hb⟩
  have hb1 : Below W.heap.size W w1 := (Below.refl _ _).drew.trans hb
  have HA1 := Lib.hid (HA0.out.below hb1)
  have HZ1 := Lib.hid (HZ.out.below hb1 HZ.out.lt)
  have HB1 := Lib.hid hb1
  clear hb hb1 HLg HZ HA0
  gi_wp2_with fail
  ((with_reducible refine outQ_normal ?_ ?_); exact ⟨⟨_, Turns.of_below HB1.out _⟩, rfl⟩)
  (repeat ((with_reducible refine wpTree_take (by with_unfolding_all exact rfl) ?_); (with_reducible (show wpQuiet _ _ _ _ (_ :: _) _)); go_big_quiet_step (fail); (with_reducible refine wpQuiet_nil ?_)))
  with_reducible refine wpTree_nil ?_
  refine NoPanic.normal ?_
  have hGo := rGo_yes HA1.out.drew.ph HOk.out.st 7 arg HOk.out.addr harg s1 hs1
  have HGo := Lib.hid hGo
  have hS1 : S.go 7 arg = { S with s := s1, addr := addrTo 7 S.addr arg, left := leftTo S.s s1 S.left } := by unfold Ab.go; rw [hs1]
  have HS1 := Lib.hid hS1
  have HS6 := Lib.hid hs1
  have hP : b.M ≠ b.P := by obtain ⟨x, hx, _⟩ := HA1.out.card; exact hx.ne_type HA1.out.ph (by decide)
  have hZP : Z ≠ b.P := HZ1.out.ne_type HA1.out.ph (by decide)
  have q1 : ∀ t : Kept w1 [b.P], t.u.cell? ⟨b.M, 9, none⟩ = some (.pointer (some ⟨b.P, 0, none⟩)) := fun t => by obtain ⟨x, hx, _⟩ := HA1.out.card; exact t.h.cell (p := ⟨b.M, 9, none⟩) (rcell hx 9 _ rfl) (by simpa using hP)
  have q2 : ∀ t : Kept w1 [b.P], t.u.cell? ⟨Z, 0, none⟩ = some (.int .i64 7) := fun t => by rw [(t.h.row HZ1.out (by simpa using hZP)).cell]; rfl
  have q3 : ∀ t : Kept w1 [b.P], t.u.cell? ⟨Z, 1, none⟩ = some (.int .u32 arg) := fun t => by rw [(t.h.row HZ1.out (by simpa using hZP)).cell]; rfl
  clear hGo hS1 hP hs1 hleg
  go_wp2_with fail
  (refine wp_region_noPanic ?_; refine region_treeW (fun u => ∃ t : Kept w1 [b.P], u = t.u) (Tn.takes [0, 1, 2, 3, 4, 5, 6, 7] (.one 8 (Tn.takes [9, 10, 11, 12, 13] .nil))) (by kernel_rfl) (by kernel_rfl) (fun _ _ _ _ _ h => h) ⟨⟨_, Turns.of_below (Below.refl _ _).drew _⟩, rfl⟩ ?_; simp only [Tn.takes])
  (repeat ((with_reducible refine wpTree_take (by with_unfolding_all exact rfl) ?_); (with_reducible (show wpQuiet _ _ _ _ (_ :: _) _)); go_big_quiet_step (fail); (with_reducible refine wpQuiet_nil ?_)))
  clear q1 q2 q3
  (with_reducible refine wpTree_one (by with_unfolding_all exact rfl) ?_)
  gi_wp2_with fail
  (first | refine ⟨trivial, ((callsIn_wide (n := 8)).2 (HGo.out)).mono ?_⟩ | refine ((callsIn_wide (n := 8)).2 (HGo.out)).mono ?_)
  rintro e w2 ⟨rfl, hp, ht⟩
  have ht2 : Turns w1 w2 [b.P] := (Turns.refl w1 [b.P]).drew.trans ht (by simp)
  have hA2 : RcIs w2 b T F c (S.go 7 arg) := by
    rw [HS1.out]
    exact HA1.out.phase ht2 hp
  have HA2 := Lib.hid hA2
  have HT2 : Hid (Turns W w2 T) := (Turns.of_below HB1.out T).trans ht2 (fun k hk => .inl (by obtain rfl := List.mem_singleton.1 hk; exact HMT.out.2))
  have HTT2 := Lib.hid ht2
  have HZ2 := Lib.hid (ht2.row HZ1.out (by simpa using hZP))
  clear hp ht ht2 hA2 HGo HA1 HZ1 HB1 hZP
  gi_wp2_with fail
  ((with_reducible refine outQ_normal ?_ ?_); exact ⟨⟨_, HTT2.out⟩, rfl⟩)
  (repeat ((with_reducible refine wpTree_take (by with_unfolding_all exact rfl) ?_); (with_reducible (show wpQuiet _ _ _ _ (_ :: _) _)); go_big_quiet_step (fail); (with_reducible refine wpQuiet_nil ?_)))
  with_reducible refine wpTree_nil ?_
  refine NoPanic.normal ?_
  have HFo := Lib.hid (rforget_any HA2.out 7)
  have z0 : w2.cell? ⟨Z, 0, none⟩ = some (.int .i64 7) := by rw [HZ2.out.cell]; rfl
  clear HTT2
  go_wp2_with fail
  refine HFo.out.mono ?_
  rintro e w3 ⟨rfl, hA3, ht3⟩
  obtain ⟨S3, hS3⟩ : ∃ S3, S3 = (S.go 7 arg).forget 7 := ⟨_, rfl⟩
  have HS31 : Hid (S3.s = s1) := by unfold Hid; rw [hS3, HS1.out]; rfl
  rw [← hS3] at hA3
  have HS3 := Lib.hid hS3
  have hZM : Z ≠ b.M := by obtain ⟨x, hx, _⟩ := HA2.out.card; exact HZ2.out.ne_type hx (by decide)
  have HZ3 := Lib.hid (ht3.row HZ2.out (by simpa using hZM))
  have HT3 : Hid (Turns W w3 T) := HT2.out.trans ht3 (fun k hk => .inl (by obtain rfl := List.mem_singleton.1 hk; exact HMT.out.1))
  obtain ⟨w4, hw4⟩ : ∃ w4, w4 = w3.setCell ⟨b.M, 30, none⟩ (.slice none 0 0) := ⟨_, rfl⟩
  obtain ⟨x3, hx3, hxo3⟩ := hA3.card
  have e30 : w3.cell? ⟨b.M, 30, none⟩ = some (.slice b.wr b.nwr b.cwr) := rcell hx3 30 _ rfl
  have f30 := hx3.frozen 30
  obtain ⟨hA4, ht4⟩ := rwrote_nil hA3
  rw [← hw4] at hA4 ht4
  obtain ⟨b4, hb4⟩ : ∃ b4, b4 = { b with wr := none, nwr := 0, cwr := 0 } := ⟨_, rfl⟩
  rw [← hb4] at hA4
  have HE4 : Hid (b4.M = b.M ∧ b4.P = b.P) := by rw [hb4]; exact ⟨rfl, rfl⟩
  have HA4 := Lib.hid hA4
  have HZ4 := Lib.hid (ht4.row HZ3.out (by simpa using hZM))
  have HT4 : Hid (Turns W w4 T) := HT3.out.trans ht4 (fun k hk => .inl (by obtain rfl := List.mem_singleton.1 hk; exact HMT.out.1))
  have HW4 := Lib.hid hw4
  clear hA3 ht3 hS3 hw4 hA4 ht4 hb4 HFo z0 HA2 HZ2 HT2 HT3 HZ3 hx3 hxo3 HS1
  go_upto_region 10 with fail
  rw [← HW4.out]
  clear HW4 e30 f30
  clear w3
  have e9 : w4.cell? ⟨b.M, 9, none⟩ = some (.pointer (some ⟨b.P, 0, none⟩)) := by obtain ⟨x, hx, _⟩ := HA4.out.card; have h := rcell hx 9 (.pointer (some ⟨b4.P, 0, none⟩)) rfl; rw [HE4.out.1, HE4.out.2] at h; exact h
  have p0 : w4.cell? ⟨b.P, 0, none⟩ = some (.int .i64 S3.s) := by have h := HA4.out.ph; rw [HE4.out.2] at h; rw [h.cell]; rfl
  have h6 : ¬ S3.s = 6 := fun h => by
    have h1 := HS6.out
    rw [← HS31.out, h] at h1
    rcases to_six h1 with h | h | h <;> exact absurd h (by decide)
  have b6 : (S3.s != 6) = true := by simpa using h6
  obtain ⟨w5, hw5⟩ : ∃ w5, w5 = (w4.setCell ⟨b4.M, 27, none⟩ (.slice none 0 0)).setCell ⟨b4.M, 28, none⟩ (.int .i64 0) := ⟨_, rfl⟩
  obtain ⟨x4, hx4, hxo4⟩ := HA4.out.card
  obtain ⟨hA5, hT5⟩ := rnext_nil HA4.out
  have hET : b4.M = b.M := HE4.out.1
  rw [← hw5] at hA5 hT5
  rw [hET] at hx4 hT5 hw5
  have HA5 : Hid (RcIs w5 { b4 with nx := none, cnx := 0 } T F c (S.taken 7 arg)) := by
    unfold Hid Ab.taken
    rw [← HS3.out]
    unfold Ab.calm
    rw [if_neg h6]
    exact hA5
  have HT5 : Hid (Turns W w5 T) := HT4.out.trans hT5 (fun k hk => .inl (by obtain rfl := List.mem_singleton.1 hk; exact HMT.out.1))
  have HZ5 := Lib.hid (hT5.row HZ4.out (by simpa using hZM))
  have HE5 : Hid (({ b4 with nx := none, cnx := 0 } : Rn).M = b.M ∧ ({ b4 with nx := none, cnx := 0 } : Rn).P = b.P) := HE4.out
  have HW5 := Lib.hid hw5
  have e27 := hx4.cell 27
  have f27 := hx4.frozen 27
  have e28 := hx4.cell 28
  have f28 := hx4.frozen 28
  obtain ⟨b5, hb5⟩ : ∃ b5, b5 = ({ b4 with nx := none, cnx := 0 } : Rn) := ⟨_, rfl⟩
  rw [← hb5] at HA5 HE5
  clear h6 hb5 hT5 hET hA5 hx4 hxo4 hw5 HA4 HT4 HZ4 HE4 HS3 HS31 HS6
  go_upto_region 13 with fail
  rw [← HW5.out]
  clear HW5 e27 f27 e28 f28 e9 p0
  clear w4
  have z0 : w5.cell? ⟨Z, 0, none⟩ = some (.int .i64 7) := by rw [HZ5.out.cell]; rfl
  have hSt := rstatus_any HA5.out (rtaken_ok HOk.out 7 arg harg)
  rw [HE5.out.1] at hSt
  have HSt := Lib.hid hSt
  clear hSt
  go_wp2_with fail
  refine HSt.out.mono ?_
  rintro e w6 ⟨rfl, hA6, ht6⟩
  obtain ⟨n6, hn6⟩ : ∃ n6, n6 = stN (S.taken 7 arg) := ⟨_, rfl⟩
  have HX : Hid (RxA W w6 b T F c (S.taken 7 arg).told (.agg #[.bool false, .slice none 0 0, .int .u32 (n6 : Nat), .slice none 0 0]) ⟨false, [], stN (S.taken 7 arg), []⟩) := by
    unfold Hid
    rw [hn6]
    exact RxA.after HT5.out HE5.out.1 HE5.out.2 (fun _ hk => hk) (fun _ hk => .inl hk) (fun _ hk => .inl hk) (RxA.of hA6 (ht6.mono (fun k hk => by obtain rfl := List.mem_singleton.1 hk; exact HMT.out.1)) HA5.out.Tlt (AnIs.word _ _ _ _ _))
  rw [← hn6]
  clear hA6 ht6 HSt hn6 z0 HA5 HT5 HE5 HZ5
  clear w2
  obtain ⟨w2, hw2'⟩ : ∃ w2, w2 = w6 := ⟨_, rfl⟩
  subst hw2'
  have HR2 : Hid (Row w2 (Z + 1) 56 nilAn) := HX.out.turns.row HRr.out (fun hm => by have := HTl.out.1 _ hm; have := HZl.out; omega)
  have m0 : w2.cell? ⟨Z + 1, 0, none⟩ = some (.bool false) := by rw [HR2.out.cell]; rfl
  have m1 : w2.cell? ⟨Z + 1, 1, none⟩ = some (.slice none 0 0) := by rw [HR2.out.cell]; rfl
  have m2 : w2.cell? ⟨Z + 1, 2, none⟩ = some (.int .u32 0) := by rw [HR2.out.cell]; rfl
  have m3 : w2.cell? ⟨Z + 1, 3, none⟩ = some (.slice none 0 0) := by rw [HR2.out.cell]; rfl
  have g0 := HR2.out.frozen 0
  have g1 := HR2.out.frozen 1
  have g2 := HR2.out.frozen 2
  have g3 := HR2.out.frozen 3
  have hT9 : Turns w2 ((((w2.setCell ⟨Z + 1, 0, none⟩ (.bool false)).setCell ⟨Z + 1, 1, none⟩ (.slice none 0 0)).setCell ⟨Z + 1, 2, none⟩ (.int .u32 n6)).setCell ⟨Z + 1, 3, none⟩ (.slice none 0 0)) [Z + 1] := ((((Turns.refl _ _).setCell (by simp) _).setCell (by simp) _).setCell (by simp) _).setCell (by simp) _
  have HZ9 : Hid (Row ((((w2.setCell ⟨Z + 1, 0, none⟩ (.bool false)).setCell ⟨Z + 1, 1, none⟩ (.slice none 0 0)).setCell ⟨Z + 1, 2, none⟩ (.int .u32 n6)).setCell ⟨Z + 1, 3, none⟩ (.slice none 0 0)) (Z + 1) 56 #[.bool false, .slice none 0 0, .int .u32 n6, .slice none 0 0]) := by
    have := (((HR2.out.put 0 (.bool false)).put 1 (.slice none 0 0)).put 2 (.int .u32 n6)).put 3 (.slice none 0 0)
    unfold Hid; simpa [nilAn] using this
  have HX9 := Lib.hid (HX.out.out HBW.out hT9 (fun k hk => by obtain rfl := List.mem_singleton.1 hk; have := HZl.out; omega) HTl.out.1 HTl.out.2)
  clear hT9 HR2 HX
  go_wp2
  exact bodyPost_ret (v := .agg #[.bool false, .slice none 0 0, .int .u32 (n6 : Nat), .slice none 0 0]) (results_cell_row rfl _ _ (Z + 1) 56 _ (0, 0) _ rfl HZ9.out Tryz.underlying56 rfl (by kernel_rfl)) rfl ⟨_, rfl, HX9.out⟩
set_option maxHeartbeats 2000000 in
theorem rcmd_opcond (h : RcIs w b T F c S) (hok : AbOk c S) (arg : Nat) (harg : arg < 4294967296) (hleg : (nextV S.s 1 (ownB S.addr arg)).2 = true) : Calls Tryz.prog 64 #[.pointer (some ⟨b.M, 0, none⟩), .agg #[.int .i64 1, .int .u32 arg], .bool true] w fun e w' => ∃ v, e = .returned v ∧ RxA w w' b T F c (S.taken 1 arg) v ⟨false, [], 2164228224, []⟩ := by
  obtain ⟨s1, hs1⟩ : ∃ s1, nextV S.s 1 (ownB S.addr arg) = (s1, true) := ⟨_, Prod.ext rfl hleg⟩
  obtain ⟨W, hW⟩ : ∃ W, W = (w.alloc (.cells #[.int .i64 1, .int .u32 arg] 152)).alloc (.cells nilAn 56) := ⟨_, rfl⟩
  obtain ⟨Z, hZ⟩ : ∃ Z, Z = w.heap.size := ⟨_, rfl⟩
  have HBW : Hid (Below w.heap.size w W) := by unfold Hid; rw [hW]; (repeat (first | (with_reducible refine Below.drew ?_) | (with_reducible refine below_drewN0 ?_ _) | ((with_reducible refine Below.setCell ?_ ?_ _); rotate_left; focus (first | omega | (simp; done) | (simp; omega) | (simp at *; omega))) | ((with_reducible refine Below.alloc ?_ ?_ _); rotate_left; focus (first | omega | (simp; done) | (simp; omega) | (simp at *; omega))) | (with_reducible exact Below.refl _ _)))
  have HZ : Hid (Row W Z 152 #[.int .i64 1, .int .u32 arg]) := by unfold Hid; rw [hW, hZ]; exact (Row.fresh _ _ _).alloc _
  have HRr : Hid (Row W (Z + 1) 56 nilAn) := by
    unfold Hid; rw [hW, hZ]
    have := Row.fresh (w.alloc (.cells #[.int .i64 1, .int .u32 arg] 152)) 56 nilAn
    simpa using this
  have hA0 := h.below HBW.out
  have HA0 := Lib.hid hA0
  have HOk := Lib.hid hok
  have HTl := Lib.hid (And.intro h.Tlt h.Flt)
  have HZl : Hid (w.heap.size = Z ∧ Z + 1 < W.heap.size) := ⟨hZ.symm, HRr.out.lt⟩
  have z0 : W.cell? ⟨Z, 0, none⟩ = some (.int .i64 1) := by rw [HZ.out.cell]; rfl
  have z1 : W.cell? ⟨Z, 1, none⟩ = some (.int .u32 arg) := by rw [HZ.out.cell]; rfl
  have HMT : Hid (b.M ∈ T ∧ b.P ∈ T) := ⟨h.inT _ (by simp [Rn.ts]), h.inT _ (by simp [Rn.ts])⟩
  unfold nilAn at hW
  have hL := rLegal_ph hA0.drew.ph hok.st 1 arg hok.addr harg
  rw [hleg] at hL
  have HLg := Lib.hid hL
  have q1 : ∀ t : Kept W [], t.u.cell? ⟨b.M, 9, none⟩ = some (.pointer (some ⟨b.P, 0, none⟩)) := fun t => by obtain ⟨x, hx, _⟩ := (hA0.turns t.h (by simp)).card; exact rcell hx 9 _ rfl
  have q2 : ∀ t : Kept W [], t.u.cell? ⟨Z, 0, none⟩ = some (.int .i64 1) := fun t => by rw [(t.h.row HZ.out (by simp)).cell]; rfl
  have q3 : ∀ t : Kept W [], t.u.cell? ⟨Z, 1, none⟩ = some (.int .u32 arg) := fun t => by rw [(t.h.row HZ.out (by simp)).cell]; rfl
  clear h hA0 z0 z1 hL hok
  go_enter Tryz.func64, Tryz.ntmps64
  go_upto_region 1 with fail
  rw [← hZ]
  rw [hZ, ← hW, ← hZ]
  clear hW hZ
  go_wp2_with fail
  (refine wp_region_noPanic ?_; refine region_treeW (fun u => ∃ t : Kept W [], u = t.u) (Tn.takes [0, 1, 2, 3, 4, 5, 6, 7] (.one 8 (Tn.takes [9] .nil))) (by kernel_rfl) (by kernel_rfl) (fun _ _ _ _ _ h => h) ⟨⟨_, Turns.of_below (Below.refl _ _).drew _⟩, rfl⟩ ?_; simp only [Tn.takes])
  (repeat ((with_reducible refine wpTree_take (by with_unfolding_all exact rfl) ?_); (with_reducible (show wpQuiet _ _ _ _ (_ :: _) _)); go_big_quiet_step (fail); (with_reducible refine wpQuiet_nil ?_)))
  clear q1 q2 q3
  (with_reducible refine wpTree_one (by with_unfolding_all exact rfl) ?_)
  gi_wp2_with fail
  (first | refine ⟨trivial, ((callsIn_wide (n := 8)).2 (HLg.out)).mono ?_⟩ | refine ((callsIn_wide (n := 8)).2 (HLg.out)).mono ?_)
  rintro e w1 ⟨rfl, hb⟩
  have hb1 : Below W.heap.size W w1 := (Below.refl _ _).drew.trans hb
  have HA1 := Lib.hid (HA0.out.below hb1)
  have HZ1 := Lib.hid (HZ.out.below hb1 HZ.out.lt)
  have HB1 := Lib.hid hb1
  clear hb hb1 HLg HZ HA0
  gi_wp2_with fail
  ((with_reducible refine outQ_normal ?_ ?_); exact ⟨⟨_, Turns.of_below HB1.out _⟩, rfl⟩)
  (repeat ((with_reducible refine wpTree_take (by with_unfolding_all exact rfl) ?_); (with_reducible (show wpQuiet _ _ _ _ (_ :: _) _)); go_big_quiet_step (fail); (with_reducible refine wpQuiet_nil ?_)))
  with_reducible refine wpTree_nil ?_
  refine NoPanic.normal ?_
  have hGo := rGo_yes HA1.out.drew.ph HOk.out.st 1 arg HOk.out.addr harg s1 hs1
  have HGo := Lib.hid hGo
  have hS1 : S.go 1 arg = { S with s := s1, addr := addrTo 1 S.addr arg, left := leftTo S.s s1 S.left } := by unfold Ab.go; rw [hs1]
  have HS1 := Lib.hid hS1
  have HS6 := Lib.hid hs1
  have hP : b.M ≠ b.P := by obtain ⟨x, hx, _⟩ := HA1.out.card; exact hx.ne_type HA1.out.ph (by decide)
  have hZP : Z ≠ b.P := HZ1.out.ne_type HA1.out.ph (by decide)
  have q1 : ∀ t : Kept w1 [b.P], t.u.cell? ⟨b.M, 9, none⟩ = some (.pointer (some ⟨b.P, 0, none⟩)) := fun t => by obtain ⟨x, hx, _⟩ := HA1.out.card; exact t.h.cell (p := ⟨b.M, 9, none⟩) (rcell hx 9 _ rfl) (by simpa using hP)
  have q2 : ∀ t : Kept w1 [b.P], t.u.cell? ⟨Z, 0, none⟩ = some (.int .i64 1) := fun t => by rw [(t.h.row HZ1.out (by simpa using hZP)).cell]; rfl
  have q3 : ∀ t : Kept w1 [b.P], t.u.cell? ⟨Z, 1, none⟩ = some (.int .u32 arg) := fun t => by rw [(t.h.row HZ1.out (by simpa using hZP)).cell]; rfl
  clear hGo hS1 hP hs1 hleg
  go_wp2_with fail
  (refine wp_region_noPanic ?_; refine region_treeW (fun u => ∃ t : Kept w1 [b.P], u = t.u) (Tn.takes [0, 1, 2, 3, 4, 5, 6, 7] (.one 8 (Tn.takes [9, 10, 11, 12, 13] .nil))) (by kernel_rfl) (by kernel_rfl) (fun _ _ _ _ _ h => h) ⟨⟨_, Turns.of_below (Below.refl _ _).drew _⟩, rfl⟩ ?_; simp only [Tn.takes])
  (repeat ((with_reducible refine wpTree_take (by with_unfolding_all exact rfl) ?_); (with_reducible (show wpQuiet _ _ _ _ (_ :: _) _)); go_big_quiet_step (fail); (with_reducible refine wpQuiet_nil ?_)))
  clear q1 q2 q3
  (with_reducible refine wpTree_one (by with_unfolding_all exact rfl) ?_)
  gi_wp2_with fail
  (first | refine ⟨trivial, ((callsIn_wide (n := 8)).2 (HGo.out)).mono ?_⟩ | refine ((callsIn_wide (n := 8)).2 (HGo.out)).mono ?_)
  rintro e w2 ⟨rfl, hp, ht⟩
  have ht2 : Turns w1 w2 [b.P] := (Turns.refl w1 [b.P]).drew.trans ht (by simp)
  have hA2 : RcIs w2 b T F c (S.go 1 arg) := by
    rw [HS1.out]
    exact HA1.out.phase ht2 hp
  have HA2 := Lib.hid hA2
  have HT2 : Hid (Turns W w2 T) := (Turns.of_below HB1.out T).trans ht2 (fun k hk => .inl (by obtain rfl := List.mem_singleton.1 hk; exact HMT.out.2))
  have HTT2 := Lib.hid ht2
  have HZ2 := Lib.hid (ht2.row HZ1.out (by simpa using hZP))
  clear hp ht ht2 hA2 HGo HA1 HZ1 HB1 hZP
  gi_wp2_with fail
  ((with_reducible refine outQ_normal ?_ ?_); exact ⟨⟨_, HTT2.out⟩, rfl⟩)
  (repeat ((with_reducible refine wpTree_take (by with_unfolding_all exact rfl) ?_); (with_reducible (show wpQuiet _ _ _ _ (_ :: _) _)); go_big_quiet_step (fail); (with_reducible refine wpQuiet_nil ?_)))
  with_reducible refine wpTree_nil ?_
  refine NoPanic.normal ?_
  have HFo := Lib.hid (rforget_any HA2.out 1)
  have z0 : w2.cell? ⟨Z, 0, none⟩ = some (.int .i64 1) := by rw [HZ2.out.cell]; rfl
  clear HTT2
  go_wp2_with fail
  refine HFo.out.mono ?_
  rintro e w3 ⟨rfl, hA3, ht3⟩
  obtain ⟨S3, hS3⟩ : ∃ S3, S3 = (S.go 1 arg).forget 1 := ⟨_, rfl⟩
  have HS31 : Hid (S3.s = s1) := by unfold Hid; rw [hS3, HS1.out]; rfl
  rw [← hS3] at hA3
  have HS3 := Lib.hid hS3
  have hZM : Z ≠ b.M := by obtain ⟨x, hx, _⟩ := HA2.out.card; exact HZ2.out.ne_type hx (by decide)
  have HZ3 := Lib.hid (ht3.row HZ2.out (by simpa using hZM))
  have HT3 : Hid (Turns W w3 T) := HT2.out.trans ht3 (fun k hk => .inl (by obtain rfl := List.mem_singleton.1 hk; exact HMT.out.1))
  obtain ⟨w4, hw4⟩ : ∃ w4, w4 = w3.setCell ⟨b.M, 30, none⟩ (.slice none 0 0) := ⟨_, rfl⟩
  obtain ⟨x3, hx3, hxo3⟩ := hA3.card
  have e30 : w3.cell? ⟨b.M, 30, none⟩ = some (.slice b.wr b.nwr b.cwr) := rcell hx3 30 _ rfl
  have f30 := hx3.frozen 30
  obtain ⟨hA4, ht4⟩ := rwrote_nil hA3
  rw [← hw4] at hA4 ht4
  obtain ⟨b4, hb4⟩ : ∃ b4, b4 = { b with wr := none, nwr := 0, cwr := 0 } := ⟨_, rfl⟩
  rw [← hb4] at hA4
  have HE4 : Hid (b4.M = b.M ∧ b4.P = b.P) := by rw [hb4]; exact ⟨rfl, rfl⟩
  have HA4 := Lib.hid hA4
  have HZ4 := Lib.hid (ht4.row HZ3.out (by simpa using hZM))
  have HT4 : Hid (Turns W w4 T) := HT3.out.trans ht4 (fun k hk => .inl (by obtain rfl := List.mem_singleton.1 hk; exact HMT.out.1))
  have HW4 := Lib.hid hw4
  clear hA3 ht3 hS3 hw4 hA4 ht4 hb4 HFo z0 HA2 HZ2 HT2 HT3 HZ3 hx3 hxo3 HS1
  go_upto_region 10 with fail
  rw [← HW4.out]
  clear HW4 e30 f30
  clear w3
  have e9 : w4.cell? ⟨b.M, 9, none⟩ = some (.pointer (some ⟨b.P, 0, none⟩)) := by obtain ⟨x, hx, _⟩ := HA4.out.card; have h := rcell hx 9 (.pointer (some ⟨b4.P, 0, none⟩)) rfl; rw [HE4.out.1, HE4.out.2] at h; exact h
  have p0 : w4.cell? ⟨b.P, 0, none⟩ = some (.int .i64 S3.s) := by have h := HA4.out.ph; rw [HE4.out.2] at h; rw [h.cell]; rfl
  have h6 : ¬ S3.s = 6 := fun h => by
    have h1 := HS6.out
    rw [← HS31.out, h] at h1
    rcases to_six h1 with h | h | h <;> exact absurd h (by decide)
  have b6 : (S3.s != 6) = true := by simpa using h6
  obtain ⟨w5, hw5⟩ : ∃ w5, w5 = (w4.setCell ⟨b4.M, 27, none⟩ (.slice none 0 0)).setCell ⟨b4.M, 28, none⟩ (.int .i64 0) := ⟨_, rfl⟩
  obtain ⟨x4, hx4, hxo4⟩ := HA4.out.card
  obtain ⟨hA5, hT5⟩ := rnext_nil HA4.out
  have hET : b4.M = b.M := HE4.out.1
  rw [← hw5] at hA5 hT5
  rw [hET] at hx4 hT5 hw5
  have HA5 : Hid (RcIs w5 { b4 with nx := none, cnx := 0 } T F c (S.taken 1 arg)) := by
    unfold Hid Ab.taken
    rw [← HS3.out]
    unfold Ab.calm
    rw [if_neg h6]
    exact hA5
  have HT5 : Hid (Turns W w5 T) := HT4.out.trans hT5 (fun k hk => .inl (by obtain rfl := List.mem_singleton.1 hk; exact HMT.out.1))
  have HZ5 := Lib.hid (hT5.row HZ4.out (by simpa using hZM))
  have HE5 : Hid (({ b4 with nx := none, cnx := 0 } : Rn).M = b.M ∧ ({ b4 with nx := none, cnx := 0 } : Rn).P = b.P) := HE4.out
  have HW5 := Lib.hid hw5
  have e27 := hx4.cell 27
  have f27 := hx4.frozen 27
  have e28 := hx4.cell 28
  have f28 := hx4.frozen 28
  obtain ⟨b5, hb5⟩ : ∃ b5, b5 = ({ b4 with nx := none, cnx := 0 } : Rn) := ⟨_, rfl⟩
  rw [← hb5] at HA5 HE5
  clear h6 hb5 hT5 hET hA5 hx4 hxo4 hw5 HA4 HT4 HZ4 HE4 HS3 HS31 HS6
  go_upto_region 13 with fail
  rw [← HW5.out]
  clear HW5 e27 f27 e28 f28 e9 p0
  clear w4
  have z0 : w5.cell? ⟨Z, 0, none⟩ = some (.int .i64 1) := by rw [HZ5.out.cell]; rfl
  have hw : AnIs w5 w5.heap.size [] (.agg #[.bool false, .slice none 0 0, .int .u32 2164228224, .slice none 0 0]) ⟨false, [], 2164228224, []⟩ := AnIs.word w5 w5.heap.size [] false 2164228224
  have HX : Hid (RxA W w5 b T F c (S.taken 1 arg) (.agg #[.bool false, .slice none 0 0, .int .u32 2164228224, .slice none 0 0]) ⟨false, [], 2164228224, []⟩) := RxA.after HT5.out HE5.out.1 HE5.out.2 (fun _ hk => hk) (fun _ hk => .inl hk) (fun _ hk => .inl hk) (RxA.of HA5.out (Turns.refl _ _) HA5.out.Tlt hw)
  clear hw
  clear HA5 HT5 HE5 HZ5
  clear w2
  obtain ⟨w2, hw2'⟩ : ∃ w2, w2 = w5 := ⟨_, rfl⟩
  subst hw2'
  have HR2 : Hid (Row w2 (Z + 1) 56 nilAn) := HX.out.turns.row HRr.out (fun hm => by have := HTl.out.1 _ hm; have := HZl.out; omega)
  have m0 : w2.cell? ⟨Z + 1, 0, none⟩ = some (.bool false) := by rw [HR2.out.cell]; rfl
  have m1 : w2.cell? ⟨Z + 1, 1, none⟩ = some (.slice none 0 0) := by rw [HR2.out.cell]; rfl
  have m2 : w2.cell? ⟨Z + 1, 2, none⟩ = some (.int .u32 0) := by rw [HR2.out.cell]; rfl
  have m3 : w2.cell? ⟨Z + 1, 3, none⟩ = some (.slice none 0 0) := by rw [HR2.out.cell]; rfl
  have g0 := HR2.out.frozen 0
  have g1 := HR2.out.frozen 1
  have g2 := HR2.out.frozen 2
  have g3 := HR2.out.frozen 3
  have hT9 : Turns w2 ((((w2.setCell ⟨Z + 1, 0, none⟩ (.bool false)).setCell ⟨Z + 1, 1, none⟩ (.slice none 0 0)).setCell ⟨Z + 1, 2, none⟩ (.int .u32 2164228224)).setCell ⟨Z + 1, 3, none⟩ (.slice none 0 0)) [Z + 1] := ((((Turns.refl _ _).setCell (by simp) _).setCell (by simp) _).setCell (by simp) _).setCell (by simp) _
  have HZ9 : Hid (Row ((((w2.setCell ⟨Z + 1, 0, none⟩ (.bool false)).setCell ⟨Z + 1, 1, none⟩ (.slice none 0 0)).setCell ⟨Z + 1, 2, none⟩ (.int .u32 2164228224)).setCell ⟨Z + 1, 3, none⟩ (.slice none 0 0)) (Z + 1) 56 #[.bool false, .slice none 0 0, .int .u32 2164228224, .slice none 0 0]) := by
    have := (((HR2.out.put 0 (.bool false)).put 1 (.slice none 0 0)).put 2 (.int .u32 2164228224)).put 3 (.slice none 0 0)
    unfold Hid; simpa [nilAn] using this
  have HX9 := Lib.hid (HX.out.out HBW.out hT9 (fun k hk => by obtain rfl := List.mem_singleton.1 hk; have := HZl.out; omega) HTl.out.1 HTl.out.2)
  clear hT9 HR2 HX
  go_wp2
  exact bodyPost_ret (v := .agg #[.bool false, .slice none 0 0, .int .u32 2164228224, .slice none 0 0]) (results_cell_row rfl _ _ (Z + 1) 56 _ (0, 0) _ rfl HZ9.out Tryz.underlying56 rfl (by kernel_rfl)) rfl ⟨_, rfl, HX9.out⟩
set_option maxHeartbeats 2000000 in
theorem rcmd_allcid (h : RcIs w b T F c S) (hok : AbOk c S) (arg : Nat) (harg : arg < 4294967296) (hleg : (nextV S.s 2 (ownB S.addr arg)).2 = true) : Calls Tryz.prog 64 #[.pointer (some ⟨b.M, 0, none⟩), .agg #[.int .i64 2, .int .u32 arg], .bool true] w fun e w' => ∃ v, e = .returned v ∧ RxA w w' b T F c (S.taken 2 arg) v ⟨false, cidL, 0, []⟩ := by
  obtain ⟨s1, hs1⟩ : ∃ s1, nextV S.s 2 (ownB S.addr arg) = (s1, true) := ⟨_, Prod.ext rfl hleg⟩
  obtain ⟨W, hW⟩ : ∃ W, W = (w.alloc (.cells #[.int .i64 2, .int .u32 arg] 152)).alloc (.cells nilAn 56) := ⟨_, rfl⟩
  obtain ⟨Z, hZ⟩ : ∃ Z, Z = w.heap.size := ⟨_, rfl⟩
  have HBW : Hid (Below w.heap.size w W) := by unfold Hid; rw [hW]; (repeat (first | (with_reducible refine Below.drew ?_) | (with_reducible refine below_drewN0 ?_ _) | ((with_reducible refine Below.setCell ?_ ?_ _); rotate_left; focus (first | omega | (simp; done) | (simp; omega) | (simp at *; omega))) | ((with_reducible refine Below.alloc ?_ ?_ _); rotate_left; focus (first | omega | (simp; done) | (simp; omega) | (simp at *; omega))) | (with_reducible exact Below.refl _ _)))
  have HZ : Hid (Row W Z 152 #[.int .i64 2, .int .u32 arg]) := by unfold Hid; rw [hW, hZ]; exact (Row.fresh _ _ _).alloc _
  have HRr : Hid (Row W (Z + 1) 56 nilAn) := by
    unfold Hid; rw [hW, hZ]
    have := Row.fresh (w.alloc (.cells #[.int .i64 2, .int .u32 arg] 152)) 56 nilAn
    simpa using this
  have hA0 := h.below HBW.out
  have HA0 := Lib.hid hA0
  have HOk := Lib.hid hok
  have HTl := Lib.hid (And.intro h.Tlt h.Flt)
  have HZl : Hid (w.heap.size = Z ∧ Z + 1 < W.heap.size) := ⟨hZ.symm, HRr.out.lt⟩
  have z0 : W.cell? ⟨Z, 0, none⟩ = some (.int .i64 2) := by rw [HZ.out.cell]; rfl
  have z1 : W.cell? ⟨Z, 1, none⟩ = some (.int .u32 arg) := by rw [HZ.out.cell]; rfl
  have HMT : Hid (b.M ∈ T ∧ b.P ∈ T) := ⟨h.inT _ (by simp [Rn.ts]), h.inT _ (by simp [Rn.ts])⟩
  unfold nilAn at hW
  have hL := rLegal_ph hA0.drew.ph hok.st 2 arg hok.addr harg
  rw [hleg] at hL
  have HLg := Lib.hid hL
  have q1 : ∀ t : Kept W [], t.u.cell? ⟨b.M, 9, none⟩ = some (.pointer (some ⟨b.P, 0, none⟩)) := fun t => by obtain ⟨x, hx, _⟩ := (hA0.turns t.h (by simp)).card; exact rcell hx 9 _ rfl
  have q2 : ∀ t : Kept W [], t.u.cell? ⟨Z, 0, none⟩ = some (.int .i64 2) := fun t => by rw [(t.h.row HZ.out (by simp)).cell]; rfl
  have q3 : ∀ t : Kept W [], t.u.cell? ⟨Z, 1, none⟩ = some (.int .u32 arg) := fun t => by rw [(t.h.row HZ.out (by simp)).cell]; rfl
  clear h hA0 z0 z1 hL hok
  go_enter Tryz.func64, Tryz.ntmps64
  go_upto_region 1 with fail
  rw [← hZ]
  rw [hZ, ← hW, ← hZ]
  clear hW hZ
  go_wp2_with fail
  (refine wp_region_noPanic ?_; refine region_treeW (fun u => ∃ t : Kept W [], u = t.u) (Tn.takes [0, 1, 2, 3, 4, 5, 6, 7] (.one 8 (Tn.takes [9] .nil))) (by kernel_rfl) (by kernel_rfl) (fun _ _ _ _ _ h => h) ⟨⟨_, Turns.of_below (Below.refl _ _).drew _⟩, rfl⟩ ?_; simp only [Tn.takes])
  (repeat ((with_reducible refine wpTree_take (by with_unfolding_all exact rfl) ?_); (with_reducible (show wpQuiet _ _ _ _ (_ :: _) _)); go_big_quiet_step (fail); (with_reducible refine wpQuiet_nil ?_)))
  clear q1 q2 q3
  (with_reducible refine wpTree_one (by with_unfolding_all exact rfl) ?_)
  gi_wp2_with fail
  (first | refine ⟨trivial, ((callsIn_wide (n := 8)).2 (HLg.out)).mono ?_⟩ | refine ((callsIn_wide (n := 8)).2 (HLg.out)).mono ?_)
  rintro e w1 ⟨rfl, hb⟩
  have hb1 : Below W.heap.size W w1 := (Below.refl _ _).drew.trans hb
  have HA1 := Lib.hid (HA0.out.below hb1)
  have HZ1 := Lib.hid (HZ.out.below hb1 HZ.out.lt)
  have HB1 := Lib.hid hb1
  clear hb hb1 HLg HZ HA0
  gi_wp2_with fail
  ((with_reducible refine outQ_normal ?_ ?_); exact ⟨⟨_, Turns.of_below HB1.out _⟩, rfl⟩)
  (repeat ((with_reducible refine wpTree_take (by with_unfolding_all exact rfl) ?_); (with_reducible (show wpQuiet _ _ _ _ (_ :: _) _)); go_big_quiet_step (fail); (with_reducible refine wpQuiet_nil ?_)))
  with_reducible refine wpTree_nil ?_
  refine NoPanic.normal ?_
  have hGo := rGo_yes HA1.out.drew.ph HOk.out.st 2 arg HOk.out.addr harg s1 hs1
  have HGo := Lib.hid hGo
  have hS1 : S.go 2 arg = { S with s := s1, addr := addrTo 2 S.addr arg, left := leftTo S.s s1 S.left } := by unfold Ab.go; rw [hs1]
  have HS1 := Lib.hid hS1
  have HS6 := Lib.hid hs1
  have hP : b.M ≠ b.P := by obtain ⟨x, hx, _⟩ := HA1.out.card; exact hx.ne_type HA1.out.ph (by decide)
  have hZP : Z ≠ b.P := HZ1.out.ne_type HA1.out.ph (by decide)
  have q1 : ∀ t : Kept w1 [b.P], t.u.cell? ⟨b.M, 9, none⟩ = some (.pointer (some ⟨b.P, 0, none⟩)) := fun t => by obtain ⟨x, hx, _⟩ := HA1.out.card; exact t.h.cell (p := ⟨b.M, 9, none⟩) (rcell hx 9 _ rfl) (by simpa using hP)
  have q2 : ∀ t : Kept w1 [b.P], t.u.cell? ⟨Z, 0, none⟩ = some (.int .i64 2) := fun t => by rw [(t.h.row HZ1.out (by simpa using hZP)).cell]; rfl
  have q3 : ∀ t : Kept w1 [b.P], t.u.cell? ⟨Z, 1, none⟩ = some (.int .u32 arg) := fun t => by rw [(t.h.row HZ1.out (by simpa using hZP)).cell]; rfl
  clear hGo hS1 hP hs1 hleg
  go_wp2_with fail
  (refine wp_region_noPanic ?_; refine region_treeW (fun u => ∃ t : Kept w1 [b.P], u = t.u) (Tn.takes [0, 1, 2, 3, 4, 5, 6, 7] (.one 8 (Tn.takes [9, 10, 11, 12, 13] .nil))) (by kernel_rfl) (by kernel_rfl) (fun _ _ _ _ _ h => h) ⟨⟨_, Turns.of_below (Below.refl _ _).drew _⟩, rfl⟩ ?_; simp only [Tn.takes])
  (repeat ((with_reducible refine wpTree_take (by with_unfolding_all exact rfl) ?_); (with_reducible (show wpQuiet _ _ _ _ (_ :: _) _)); go_big_quiet_step (fail); (with_reducible refine wpQuiet_nil ?_)))
  clear q1 q2 q3
  (with_reducible refine wpTree_one (by with_unfolding_all exact rfl) ?_)
  gi_wp2_with fail
  (first | refine ⟨trivial, ((callsIn_wide (n := 8)).2 (HGo.out)).mono ?_⟩ | refine ((callsIn_wide (n := 8)).2 (HGo.out)).mono ?_)
  rintro e w2 ⟨rfl, hp, ht⟩
  have ht2 : Turns w1 w2 [b.P] := (Turns.refl w1 [b.P]).drew.trans ht (by simp)
  have hA2 : RcIs w2 b T F c (S.go 2 arg) := by
    rw [HS1.out]
    exact HA1.out.phase ht2 hp
  have HA2 := Lib.hid hA2
  have HT2 : Hid (Turns W w2 T) := (Turns.of_below HB1.out T).trans ht2 (fun k hk => .inl (by obtain rfl := List.mem_singleton.1 hk; exact HMT.out.2))
  have HTT2 := Lib.hid ht2
  have HZ2 := Lib.hid (ht2.row HZ1.out (by simpa using hZP))
  clear hp ht ht2 hA2 HGo HA1 HZ1 HB1 hZP
  gi_wp2_with fail
  ((with_reducible refine outQ_normal ?_ ?_); exact ⟨⟨_, HTT2.out⟩, rfl⟩)
  (repeat ((with_reducible refine wpTree_take (by with_unfolding_all exact rfl) ?_); (with_reducible (show wpQuiet _ _ _ _ (_ :: _) _)); go_big_quiet_step (fail); (with_reducible refine wpQuiet_nil ?_)))
  with_reducible refine wpTree_nil ?_
  refine NoPanic.normal ?_
  have HFo := Lib.hid (rforget_any HA2.out 2)
  have z0 : w2.cell? ⟨Z, 0, none⟩ = some (.int .i64 2) := by rw [HZ2.out.cell]; rfl
  clear HTT2
  go_wp2_with fail
  refine HFo.out.mono ?_
  rintro e w3 ⟨rfl, hA3, ht3⟩
  obtain ⟨S3, hS3⟩ : ∃ S3, S3 = (S.go 2 arg).forget 2 := ⟨_, rfl⟩
  have HS31 : Hid (S3.s = s1) := by unfold Hid; rw [hS3, HS1.out]; rfl
  rw [← hS3] at hA3
  have HS3 := Lib.hid hS3
  have hZM : Z ≠ b.M := by obtain ⟨x, hx, _⟩ := HA2.out.card; exact HZ2.out.ne_type hx (by decide)
  have HZ3 := Lib.hid (ht3.row HZ2.out (by simpa using hZM))
  have HT3 : Hid (Turns W w3 T) := HT2.out.trans ht3 (fun k hk => .inl (by obtain rfl := List.mem_singleton.1 hk; exact HMT.out.1))
  obtain ⟨w4, hw4⟩ : ∃ w4, w4 = w3.setCell ⟨b.M, 30, none⟩ (.slice none 0 0) := ⟨_, rfl⟩
  obtain ⟨x3, hx3, hxo3⟩ := hA3.card
  have e30 : w3.cell? ⟨b.M, 30, none⟩ = some (.slice b.wr b.nwr b.cwr) := rcell hx3 30 _ rfl
  have f30 := hx3.frozen 30
  obtain ⟨hA4, ht4⟩ := rwrote_nil hA3
  rw [← hw4] at hA4 ht4
  obtain ⟨b4, hb4⟩ : ∃ b4, b4 = { b with wr := none, nwr := 0, cwr := 0 } := ⟨_, rfl⟩
  rw [← hb4] at hA4
  have HE4 : Hid (b4.M = b.M ∧ b4.P = b.P) := by rw [hb4]; exact ⟨rfl, rfl⟩
  have HA4 := Lib.hid hA4
  have HZ4 := Lib.hid (ht4.row HZ3.out (by simpa using hZM))
  have HT4 : Hid (Turns W w4 T) := HT3.out.trans ht4 (fun k hk => .inl (by obtain rfl := List.mem_singleton.1 hk; exact HMT.out.1))
  have HW4 := Lib.hid hw4
  clear hA3 ht3 hS3 hw4 hA4 ht4 hb4 HFo z0 HA2 HZ2 HT2 HT3 HZ3 hx3 hxo3 HS1
  go_upto_region 10 with fail
  rw [← HW4.out]
  clear HW4 e30 f30
  clear w3
  have e9 : w4.cell? ⟨b.M, 9, none⟩ = some (.pointer (some ⟨b.P, 0, none⟩)) := by obtain ⟨x, hx, _⟩ := HA4.out.card; have h := rcell hx 9 (.pointer (some ⟨b4.P, 0, none⟩)) rfl; rw [HE4.out.1, HE4.out.2] at h; exact h
  have p0 : w4.cell? ⟨b.P, 0, none⟩ = some (.int .i64 S3.s) := by have h := HA4.out.ph; rw [HE4.out.2] at h; rw [h.cell]; rfl
  have h6 : ¬ S3.s = 6 := fun h => by
    have h1 := HS6.out
    rw [← HS31.out, h] at h1
    rcases to_six h1 with h | h | h <;> exact absurd h (by decide)
  have b6 : (S3.s != 6) = true := by simpa using h6
  obtain ⟨w5, hw5⟩ : ∃ w5, w5 = (w4.setCell ⟨b4.M, 27, none⟩ (.slice none 0 0)).setCell ⟨b4.M, 28, none⟩ (.int .i64 0) := ⟨_, rfl⟩
  obtain ⟨x4, hx4, hxo4⟩ := HA4.out.card
  obtain ⟨hA5, hT5⟩ := rnext_nil HA4.out
  have hET : b4.M = b.M := HE4.out.1
  rw [← hw5] at hA5 hT5
  rw [hET] at hx4 hT5 hw5
  have HA5 : Hid (RcIs w5 { b4 with nx := none, cnx := 0 } T F c (S.taken 2 arg)) := by
    unfold Hid Ab.taken
    rw [← HS3.out]
    unfold Ab.calm
    rw [if_neg h6]
    exact hA5
  have HT5 : Hid (Turns W w5 T) := HT4.out.trans hT5 (fun k hk => .inl (by obtain rfl := List.mem_singleton.1 hk; exact HMT.out.1))
  have HZ5 := Lib.hid (hT5.row HZ4.out (by simpa using hZM))
  have HE5 : Hid (({ b4 with nx := none, cnx := 0 } : Rn).M = b.M ∧ ({ b4 with nx := none, cnx := 0 } : Rn).P = b.P) := HE4.out
  have HW5 := Lib.hid hw5
  have e27 := hx4.cell 27
  have f27 := hx4.frozen 27
  have e28 := hx4.cell 28
  have f28 := hx4.frozen 28
  obtain ⟨b5, hb5⟩ : ∃ b5, b5 = ({ b4 with nx := none, cnx := 0 } : Rn) := ⟨_, rfl⟩
  rw [← hb5] at HA5 HE5
  clear h6 hb5 hT5 hET hA5 hx4 hxo4 hw5 HA4 HT4 HZ4 HE4 HS3 HS31 HS6
  go_upto_region 13 with fail
  rw [← HW5.out]
  clear HW5 e27 f27 e28 f28 e9 p0
  clear w4
  have z0 : w5.cell? ⟨Z, 0, none⟩ = some (.int .i64 2) := by rw [HZ5.out.cell]; rfl
  have HCi := Lib.hid (rCid_any w5)
  go_wp2_with fail
  refine HCi.out.mono ?_
  rintro e w6 ⟨A1, n1, rfl, hown, hb⟩
  have HX : Hid (RxA W w6 b T F c (S.taken 2 arg) (.agg #[.bool false, .slice A1 16 n1, .int .u32 0, .slice none 0 0]) ⟨false, cidL, 0, []⟩) := RxA.after HT5.out HE5.out.1 HE5.out.2 (fun _ hk => hk) (fun _ hk => .inl hk) (fun _ hk => .inl hk) (RxA.of (HA5.out.below hb) (Turns.of_below hb T) HA5.out.Tlt ⟨_, _, rfl, ⟨A1, n1, rfl, hown, by simp⟩, BlsIs.nil _ _ _⟩)
  clear HA5 HT5 HE5 HZ5 hown hb HCi z0
  clear w2
  obtain ⟨w2, hw2'⟩ : ∃ w2, w2 = w6 := ⟨_, rfl⟩
  subst hw2'
  have HR2 : Hid (Row w2 (Z + 1) 56 nilAn) := HX.out.turns.row HRr.out (fun hm => by have := HTl.out.1 _ hm; have := HZl.out; omega)
  have m0 : w2.cell? ⟨Z + 1, 0, none⟩ = some (.bool false) := by rw [HR2.out.cell]; rfl
  have m1 : w2.cell? ⟨Z + 1, 1, none⟩ = some (.slice none 0 0) := by rw [HR2.out.cell]; rfl
  have m2 : w2.cell? ⟨Z + 1, 2, none⟩ = some (.int .u32 0) := by rw [HR2.out.cell]; rfl
  have m3 : w2.cell? ⟨Z + 1, 3, none⟩ = some (.slice none 0 0) := by rw [HR2.out.cell]; rfl
  have g0 := HR2.out.frozen 0
  have g1 := HR2.out.frozen 1
  have g2 := HR2.out.frozen 2
  have g3 := HR2.out.frozen 3
  have hT9 : Turns w2 ((((w2.setCell ⟨Z + 1, 0, none⟩ (.bool false)).setCell ⟨Z + 1, 1, none⟩ (.slice A1 16 n1)).setCell ⟨Z + 1, 2, none⟩ (.int .u32 0)).setCell ⟨Z + 1, 3, none⟩ (.slice none 0 0)) [Z + 1] := ((((Turns.refl _ _).setCell (by simp) _).setCell (by simp) _).setCell (by simp) _).setCell (by simp) _
  have HZ9 : Hid (Row ((((w2.setCell ⟨Z + 1, 0, none⟩ (.bool false)).setCell ⟨Z + 1, 1, none⟩ (.slice A1 16 n1)).setCell ⟨Z + 1, 2, none⟩ (.int .u32 0)).setCell ⟨Z + 1, 3, none⟩ (.slice none 0 0)) (Z + 1) 56 #[.bool false, .slice A1 16 n1, .int .u32 0, .slice none 0 0]) := by
    have := (((HR2.out.put 0 (.bool false)).put 1 (.slice A1 16 n1)).put 2 (.int .u32 0)).put 3 (.slice none 0 0)
    unfold Hid; simpa [nilAn] using this
  have HX9 := Lib.hid (HX.out.out HBW.out hT9 (fun k hk => by obtain rfl := List.mem_singleton.1 hk; have := HZl.out; omega) HTl.out.1 HTl.out.2)
  clear hT9 HR2 HX
  go_wp2
  exact bodyPost_ret (v := .agg #[.bool false, .slice A1 16 n1, .int .u32 0, .slice none 0 0]) (results_cell_row rfl _ _ (Z + 1) 56 _ (0, 0) _ rfl HZ9.out Tryz.underlying56 rfl (by kernel_rfl)) rfl ⟨_, rfl, HX9.out⟩
end
end Go.Proofs.YtclhhdodebdmjaaGreat
