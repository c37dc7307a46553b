/- What follows is laid together from several texts of mine, in their order. -/
import Derived.Test.YtclhhdodebdmjaaGreatQ18
import Derived.Test.YtclhhdodebdmjaaGreatQ10
import Derived.Test.YtclhhdodebdmjaaGreatQ12
import Derived.Test.YtclhhdodebdmjaaGreatQ5

namespace Go.Proofs.YtclhhdodebdmjaaGreat.Grd
open Go.RowKit
set_option linter.unusedVariables false
set_option linter.unusedSimpArgs false
set_option maxRecDepth 100000

theorem int_info : (Tryz.prog.info? 3).map (fun i => (i.zero, i.size, i.bytes)) = some (some (.int .i64 0), 1, 8) := by kernel_rfl

theorem refNew_yes (n : Nat) (h1 : 1 ≤ n) (h2 : n ≤ 256) (w : World) : Calls Tryz.prog 55 #[.int .i64 n] w fun e w' => ∃ G L c, e = .returned (.tuple #[.pointer (some ⟨G, 0, none⟩), .int .i64 0]) ∧ RHeld w' w.heap.size G L c (List.replicate n 0) ∧ Below w.heap.size w w' := by
  obtain ⟨i0, hi, hz0, hz1, hz2⟩ := info_parts int_info
  have b1 : Hid (i0.bytes * n ≤ 281474976710656) := by unfold Hid; rw [hz2]; omega
  have b2 : Hid (n ≤ maxLen) := by unfold Hid maxLen; omega
  go_enter Tryz.func55, Tryz.ntmps55
  go_wp2_with (refine wpList_make_full _ rfl _ _ 46 rfl w.heap.size 3 i0 (.int .i64 0) 1 Tryz.underlying46 hi hz0 hz1 .i64 .i64 _ _ n rfl rfl rfl rfl b1.out b2.out (Nat.le_refl _) ?_; intro w1 hown hgrow)
  have hb : Below w.heap.size w w1 := (Below.refl _ w).grown hgrow (Nat.le_refl _) (by simp)
  have hs := hb.size
  have hz : intsV .i64 (List.replicate n 0) = (madeCells (Value.int .i64 0).cells (n * 1)).toList := by
    rw [show (Value.int .i64 0).cells = #[Value.int .i64 0] from rfl, toList_madeCells_one, Nat.mul_one]; simp [intsV]
  rw [← hz] at hown
  have hown := Lib.hid hown
  clear hz
  go_wp2
  refine bodyPost_ret (v := .tuple #[.pointer (some ⟨w1.heap.size, 0, none⟩), .int .i64 0]) (by simp [results, Tryz.results55, go_sem]) rfl ?_
  have ho : w1.ownsRow w.heap.size 3 1 (.slice (some ⟨w.heap.size, 0, none⟩) (List.replicate n 0).length n) (List.replicate n 0).length (intsV .i64 (List.replicate n 0)) := by rw [List.length_replicate]; exact hown.out
  refine ⟨w1.heap.size, w.heap.size, n, rfl, ⟨hs, ?_, own_below ho (by (repeat (first | (with_reducible refine Below.drew ?_) | (with_reducible refine below_drewN0 ?_ _) | ((with_reducible refine Below.setCell ?_ ?_ _); rotate_left; focus (first | omega | (simp; done) | (simp; omega) | (simp at *; omega))) | ((with_reducible refine Below.alloc ?_ ?_ _); rotate_left; focus (first | omega | (simp; done) | (simp; omega) | (simp at *; omega))) | (with_reducible exact Below.refl _ _))))⟩, by (have hsz0 := Below.size hb; repeat (first | (with_reducible refine Below.drew ?_) | (with_reducible refine below_drewN0 ?_ _) | ((with_reducible refine Below.setCell ?_ ?_ _); rotate_left; focus (first | omega | (simp; done) | (simp; omega) | (simp at *; omega))) | ((with_reducible refine Below.alloc ?_ ?_ _); rotate_left; focus (first | omega | (simp; done) | (simp; omega) | (simp at *; omega))) | ((with_reducible refine Below.trans ?_ (Below.mono hb ?_)); rotate_left; focus (first | omega | (simp; done) | (simp; omega) | (simp at *; omega))) | (with_reducible exact Below.refl _ _)))⟩
  rw [List.length_replicate]
  exact Row.fresh _ _ _

end Go.Proofs.YtclhhdodebdmjaaGreat.Grd

namespace Go.Proofs.YtclhhdodebdmjaaGreat.Grd
open Go.RowKit
set_option linter.unusedVariables false
set_option linter.unusedSimpArgs false
set_option maxRecDepth 100000

end Go.Proofs.YtclhhdodebdmjaaGreat.Grd

namespace Go.Proofs.YtclhhdodebdmjaaGreat
open Go.RowKit Go.MapKept Go.ChangeMaps
set_option linter.unusedVariables false
set_option linter.unusedSimpArgs false
set_option maxRecDepth 100000

theorem regRow_zero : regRow (fun _ => 0) = Array.replicate 64 (Value.int .u8 0) := by
  apply Array.ext
  · simp [regRow]
  · intro i h1 h2; simp [regRow]
theorem RegsNew_any (w : World) : Calls Tryz.prog 54 #[] w fun e w' => e = .returned (.pointer (some ⟨w.heap.size, 0, none⟩)) ∧ RgIs w' w.heap.size (fun _ => 0) ∧ Below w.heap.size w w' := by
  go_enter Tryz.func54, Tryz.ntmps54
  go_wp2
  go_ret
  refine ⟨rfl, ?_, by (repeat (first | (with_reducible refine Below.drew ?_) | (with_reducible refine below_drewN0 ?_ _) | ((with_reducible refine Below.setCell ?_ ?_ _); rotate_left; focus (first | omega | (simp; done) | (simp; omega) | (simp at *; omega))) | ((with_reducible refine Below.alloc ?_ ?_ _); rotate_left; focus (first | omega | (simp; done) | (simp; omega) | (simp at *; omega))) | (with_reducible exact Below.refl _ _)))⟩
  unfold RgIs; rw [regRow_zero]
  exact Row.fresh _ _ _
/-- What registers say of areas. -/
def setOf (V : Rv) : St := if V 13 = 0 then .none else ⟨V 8, V 9, V 10, V 11, V 12, true⟩
theorem Setting_zero (R : Nat) (V : Rv) (w : World) (h : RgIs w R V) (hz : V 13 = 0) : Calls Tryz.prog 115 #[.pointer (some ⟨R, 0, none⟩)] w fun e w' => e = .returned (.agg St.none.l.toArray) ∧ Below w.heap.size w w' := by
  have hg0 : getV V 13 = 0 := by
    have : kindV 13 = 3 := by decide
    unfold getV; rw [this]; simp [hz]
  have HG := fun o => Lib.hid (Get_rg (h.alloc o) 13)
  rw [hg0] at HG
  have hR := fun o => Lib.hid (Row.fresh w 184 o)
  clear h hz hg0
  go_enter Tryz.func115, Tryz.ntmps115
  go_wp2_with fail
  refine (HG _).out.mono ?_
  rintro e w' ⟨rfl, rfl⟩
  go_wp2
  refine bodyPost_ret (v := .agg #[.int .i64 0, .int .i64 0, .int .i64 0, .int .i64 0, .int .u8 0, .bool false]) (results_cell_row rfl _ _ w.heap.size 184 _ (0, 0) _ rfl (hR _).out Tryz.underlying184 rfl (by kernel_rfl)) rfl ⟨rfl, ?_⟩
  (repeat (first | (with_reducible refine Below.drew ?_) | (with_reducible refine below_drewN0 ?_ _) | ((with_reducible refine Below.setCell ?_ ?_ _); rotate_left; focus (first | omega | (simp; done) | (simp; omega) | (simp at *; omega))) | ((with_reducible refine Below.alloc ?_ ?_ _); rotate_left; focus (first | omega | (simp; done) | (simp; omega) | (simp at *; omega))) | (with_reducible exact Below.refl _ _)))
end Go.Proofs.YtclhhdodebdmjaaGreat

namespace Go.Proofs.YtclhhdodebdmjaaGreat
open Go.RowKit Go.MapKept Go.ChangeMaps
set_option linter.unusedVariables false
set_option linter.unusedSimpArgs false
set_option maxRecDepth 100000

/-- Where an engine's parts lie. -/
structure En where
  P : Nat
  D : Nat
  M : Nat
  R : Nat
  G : Nat
  T : Nat
  K : Nat
  C : Nat
/-- An engine's cells. -/
def engRow (c : Cf) (n : En) (up : Nat) (count : Int) (rel pack : Bool) (frm til area : Int) (next : Value) (head : Int) (sure : Bool) (wrote : Value) (down : Bool) : Array Value :=
  (Value.pointer (some ⟨n.P, 0, none⟩) :: (c.l ++ [Value.iface 133 (.agg #[.pointer (some ⟨n.D, 0, none⟩), .pointer (some ⟨n.M, 0, none⟩)]), .pointer (some ⟨n.R, 0, none⟩), .pointer (some ⟨n.G, 0, none⟩), .pointer (some ⟨n.T, 0, none⟩), .pointer (some ⟨n.K, 0, none⟩), .pointer (some ⟨n.C, 0, none⟩),
    .int .u32 (up : Int), .int .i64 count, .bool rel, .bool pack, .int .i64 frm, .int .i64 til, .int .i64 area, next, .int .i64 head, .bool sure, wrote, .bool down])).toArray
set_option maxHeartbeats 4000000 in
theorem Start_ok (c : Cf) (h : OkC c) (D M R G : Nat) (V : Rv) (hV : V 13 = 0) (w : World) (hR : RgIs w R V) :
    Calls Tryz.prog 53 #[.agg c.l.toArray, .iface 133 (.agg #[.pointer (some ⟨D, 0, none⟩), .pointer (some ⟨M, 0, none⟩)]), .pointer (some ⟨R, 0, none⟩), .pointer (some ⟨G, 0, none⟩), .agg (stL .new).toArray] w
      fun e w' => ∃ E P T K C mb, e = .returned (.tuple #[.pointer (some ⟨E, 0, none⟩), .int .i64 0]) ∧ Row w' E 49 (engRow c ⟨P, D, M, R, G, T, K, C⟩ 0 0 false false (-1) (-1) 0 (.slice none 0 0) 0 false (.slice none 0 0) false) ∧
        PhIs w' P 0 0 0 ∧ Row w' T 197 (tabV c .none .none false) ∧ RpIs w' K c.rpa .new ∧ Vca.CHeld w' w.heap.size C mb c.cache.toNat none 0 [] 0 ∧ w.heap.size ≤ E ∧ w.heap.size ≤ P ∧ w.heap.size ≤ T ∧ w.heap.size ≤ K ∧ Below w.heap.size w w' := by
  obtain ⟨sA, hsA⟩ : ∃ sA, sA = (stL .new).toArray := ⟨_, rfl⟩
  rw [← hsA]
  have HSA := Lib.hid hsA
  have hrp := h.1.rpa
  have hca := h.1.cache
  have HAN := fun W => Lib.hid (ANew_ok c h 0 0 0 0 0 W)
  have HRN := fun W => Lib.hid (RNew_any c.rpa hrp .new ⟨by simp [Rk.new], by simp [Rk.new], by simp [Rk.new], fun _ => ⟨rfl, rfl⟩⟩ W)
  have HVN := fun W => Lib.hid (Vca.New_yes c.cache.toNat (by omega) W)
  simp only [← hsA] at HRN
  rw [show ((c.cache.toNat : Nat) : Int) = c.cache by omega] at HVN
  have hsz : sA.size = 34 := by rw [hsA]; simp [stL, b8, Rk.new]
  have HSz : Hid ((Tryz.prog.info? 137).map (·.size) = some sA.size) := by unfold Hid; rw [hsz]; kernel_rfl
  obtain ⟨cb, cp, cs, cu, co, cr, cg, ca, cz⟩ := c
  simp only [Cf.l] at *
  clear hsA hsz h
  obtain ⟨W, hW⟩ : ∃ W, W = (w.alloc (.cells #[.int .i64 cb, .int .i64 cp, .int .i64 cs, .int .i64 cu, .int .i64 co, .int .i64 cr, .int .i64 cg, .int .i64 ca, .int .i64 cz] 23)).alloc (.cells sA 137) := ⟨_, rfl⟩
  have HB : Hid (Below w.heap.size w W) := by unfold Hid; rw [hW]; (repeat (first | (with_reducible refine Below.drew ?_) | (with_reducible refine below_drewN0 ?_ _) | ((with_reducible refine Below.setCell ?_ ?_ _); rotate_left; focus (first | omega | (simp; done) | (simp; omega) | (simp at *; omega))) | ((with_reducible refine Below.alloc ?_ ?_ _); rotate_left; focus (first | omega | (simp; done) | (simp; omega) | (simp at *; omega))) | (with_reducible exact Below.refl _ _)))
  have HR1 : Hid (Row W w.heap.size 23 #[.int .i64 cb, .int .i64 cp, .int .i64 cs, .int .i64 cu, .int .i64 co, .int .i64 cr, .int .i64 cg, .int .i64 ca, .int .i64 cz]) := by unfold Hid; rw [hW]; exact (Row.fresh w _ _).alloc _
  have HR2 : Hid (Row W (w.heap.size + 1) 137 sA) := by
    unfold Hid; rw [hW]
    have := Row.fresh (w.alloc (.cells #[.int .i64 cb, .int .i64 cp, .int .i64 cs, .int .i64 cu, .int .i64 co, .int .i64 cr, .int .i64 cg, .int .i64 ca, .int .i64 cz] 23)) 137 sA
    simpa using this
  have hWs : w.heap.size + 2 ≤ W.heap.size := by rw [hW]; simp
  have HRR := Lib.hid (hR.below HB.out hR.lt)
  clear hR
  go_enter Tryz.func53, Tryz.ntmps53
  go_wp2_with fail
  rw [← hW]
  clear hW
  refine wp_region_noPanic ?_
  have hKR : ∀ t : Kept W [], Row t.u w.heap.size 23 #[.int .i64 cb, .int .i64 cp, .int .i64 cs, .int .i64 cu, .int .i64 co, .int .i64 cr, .int .i64 cg, .int .i64 ca, .int .i64 cz] := fun t => t.h.row HR1.out (by simp)
  have q0 : ∀ t : Kept W [], t.u.cell? ⟨w.heap.size, 0, none⟩ = some (.int .i64 cb) := fun t => by rw [(hKR t).cell]; rfl
  have q1 : ∀ t : Kept W [], t.u.cell? ⟨w.heap.size, 1, none⟩ = some (.int .i64 cp) := fun t => by rw [(hKR t).cell]; rfl
  have q2 : ∀ t : Kept W [], t.u.cell? ⟨w.heap.size, 2, none⟩ = some (.int .i64 cs) := fun t => by rw [(hKR t).cell]; rfl
  have q3 : ∀ t : Kept W [], t.u.cell? ⟨w.heap.size, 3, none⟩ = some (.int .i64 cu) := fun t => by rw [(hKR t).cell]; rfl
  have q4 : ∀ t : Kept W [], t.u.cell? ⟨w.heap.size, 4, none⟩ = some (.int .i64 co) := fun t => by rw [(hKR t).cell]; rfl
  have q5 : ∀ t : Kept W [], t.u.cell? ⟨w.heap.size, 5, none⟩ = some (.int .i64 cr) := fun t => by rw [(hKR t).cell]; rfl
  have q6 : ∀ t : Kept W [], t.u.cell? ⟨w.heap.size, 6, none⟩ = some (.int .i64 cg) := fun t => by rw [(hKR t).cell]; rfl
  have q7 : ∀ t : Kept W [], t.u.cell? ⟨w.heap.size, 7, none⟩ = some (.int .i64 ca) := fun t => by rw [(hKR t).cell]; rfl
  have q8 : ∀ t : Kept W [], t.u.cell? ⟨w.heap.size, 8, none⟩ = some (.int .i64 cz) := fun t => by rw [(hKR t).cell]; rfl
  clear hKR
  (refine region_kept ([]) [1, 2, 3, 4] [0, 5, 6, 7] (by kernel_rfl) (by kernel_rfl) (fun _ _ _ _ _ h => h) ?_; simp only [List.filterMap_cons, List.getElem?_cons_zero, List.getElem?_cons_succ, List.filterMap_nil]; (repeat ((show wpQuiet _ _ _ _ (_ :: _) _); go_big_quiet_step (fail))); refine wpQuiet_nil ?_)
  clear q0 q1 q2 q3 q4 q5 q6 q7 q8
  refine wpSeqS_step ?_
  go_wp2_with fail
  refine (New_ph _).mono ?_
  rintro e w1 ⟨rfl, hp, hb⟩
  obtain ⟨P, hP⟩ : ∃ P, P = W.drew.heap.size := ⟨_, rfl⟩
  rw [← hP] at hp ⊢
  have hPl : W.heap.size ≤ P := by rw [hP]; exact Nat.le_refl _
  clear hP
  have hb1 : Below W.heap.size W w1 := (Below.refl _ _).drew.trans hb
  have HB1 : Hid (Below w.heap.size w w1) := HB.out.trans (hb1.mono HB.out.size)
  have HP1 := Lib.hid hp
  have HR11 := Lib.hid (HR1.out.below hb1 HR1.out.lt)
  have HR21 := Lib.hid (HR2.out.below hb1 HR2.out.lt)
  have HRR1 := Lib.hid (HRR.out.below hb1 HRR.out.lt)
  have hPs := hp.lt
  have hb1' := hb1
  clear hb hb1 hp
  go_wp2_with fail
  refine outQ_normal (Turns.of_below hb1' _) ?_
  refine wpSeqS_step ?_
  go_wp2_with fail
  refine outQ_normal (Turns.of_below hb1' _) ?_
  refine wpSeqS_step ?_
  go_wp2_with fail
  refine outQ_normal ((Turns.of_below hb1' _).alloc _) ?_
  refine wpSeqS_last ?_
  go_wp2_with fail
  refine NoPanic.normal ?_
  clear hb1'
  obtain ⟨E, hE⟩ : ∃ E, E = w1.heap.size := ⟨_, rfl⟩
  rw [← hE]
  have HE2 : Hid (Row (w1.alloc (.cells #[.pointer (some ⟨P, 0, none⟩), .int .i64 cb, .int .i64 cp, .int .i64 cs, .int .i64 cu, .int .i64 co, .int .i64 cr, .int .i64 cg, .int .i64 ca, .int .i64 cz, .iface 133 (.agg #[.pointer (some ⟨D, 0, none⟩), .pointer (some ⟨M, 0, none⟩)]), .pointer (some ⟨R, 0, none⟩), .pointer (some ⟨G, 0, none⟩), (.pointer none), (.pointer none), (.pointer none), .int .u32 0, .int .i64 0, .bool false, .bool false, .int .i64 (-1), .int .i64 (-1), .int .i64 0, .slice none 0 0, .int .i64 0, .bool false, .slice none 0 0, .bool false] 49)) E 49 #[.pointer (some ⟨P, 0, none⟩), .int .i64 cb, .int .i64 cp, .int .i64 cs, .int .i64 cu, .int .i64 co, .int .i64 cr, .int .i64 cg, .int .i64 ca, .int .i64 cz, .iface 133 (.agg #[.pointer (some ⟨D, 0, none⟩), .pointer (some ⟨M, 0, none⟩)]), .pointer (some ⟨R, 0, none⟩), .pointer (some ⟨G, 0, none⟩), (.pointer none), (.pointer none), (.pointer none), .int .u32 0, .int .i64 0, .bool false, .bool false, .int .i64 (-1), .int .i64 (-1), .int .i64 0, .slice none 0 0, .int .i64 0, .bool false, .slice none 0 0, .bool false]) := by unfold Hid; rw [hE]; exact Row.fresh _ _ _
  have HP2 := Lib.hid (HP1.out.alloc (.cells #[.pointer (some ⟨P, 0, none⟩), .int .i64 cb, .int .i64 cp, .int .i64 cs, .int .i64 cu, .int .i64 co, .int .i64 cr, .int .i64 cg, .int .i64 ca, .int .i64 cz, .iface 133 (.agg #[.pointer (some ⟨D, 0, none⟩), .pointer (some ⟨M, 0, none⟩)]), .pointer (some ⟨R, 0, none⟩), .pointer (some ⟨G, 0, none⟩), (.pointer none), (.pointer none), (.pointer none), .int .u32 0, .int .i64 0, .bool false, .bool false, .int .i64 (-1), .int .i64 (-1), .int .i64 0, .slice none 0 0, .int .i64 0, .bool false, .slice none 0 0, .bool false] 49))
  have HR12 := Lib.hid (HR11.out.alloc (.cells #[.pointer (some ⟨P, 0, none⟩), .int .i64 cb, .int .i64 cp, .int .i64 cs, .int .i64 cu, .int .i64 co, .int .i64 cr, .int .i64 cg, .int .i64 ca, .int .i64 cz, .iface 133 (.agg #[.pointer (some ⟨D, 0, none⟩), .pointer (some ⟨M, 0, none⟩)]), .pointer (some ⟨R, 0, none⟩), .pointer (some ⟨G, 0, none⟩), (.pointer none), (.pointer none), (.pointer none), .int .u32 0, .int .i64 0, .bool false, .bool false, .int .i64 (-1), .int .i64 (-1), .int .i64 0, .slice none 0 0, .int .i64 0, .bool false, .slice none 0 0, .bool false] 49))
  have HR22 := Lib.hid (HR21.out.alloc (.cells #[.pointer (some ⟨P, 0, none⟩), .int .i64 cb, .int .i64 cp, .int .i64 cs, .int .i64 cu, .int .i64 co, .int .i64 cr, .int .i64 cg, .int .i64 ca, .int .i64 cz, .iface 133 (.agg #[.pointer (some ⟨D, 0, none⟩), .pointer (some ⟨M, 0, none⟩)]), .pointer (some ⟨R, 0, none⟩), .pointer (some ⟨G, 0, none⟩), (.pointer none), (.pointer none), (.pointer none), .int .u32 0, .int .i64 0, .bool false, .bool false, .int .i64 (-1), .int .i64 (-1), .int .i64 0, .slice none 0 0, .int .i64 0, .bool false, .slice none 0 0, .bool false] 49))
  have HRR2 := Lib.hid (HRR1.out.alloc (.cells #[.pointer (some ⟨P, 0, none⟩), .int .i64 cb, .int .i64 cp, .int .i64 cs, .int .i64 cu, .int .i64 co, .int .i64 cr, .int .i64 cg, .int .i64 ca, .int .i64 cz, .iface 133 (.agg #[.pointer (some ⟨D, 0, none⟩), .pointer (some ⟨M, 0, none⟩)]), .pointer (some ⟨R, 0, none⟩), .pointer (some ⟨G, 0, none⟩), (.pointer none), (.pointer none), (.pointer none), .int .u32 0, .int .i64 0, .bool false, .bool false, .int .i64 (-1), .int .i64 (-1), .int .i64 0, .slice none 0 0, .int .i64 0, .bool false, .slice none 0 0, .bool false] 49))
  have HB2 := Lib.hid (HB1.out.alloc HB1.out.size (.cells #[.pointer (some ⟨P, 0, none⟩), .int .i64 cb, .int .i64 cp, .int .i64 cs, .int .i64 cu, .int .i64 co, .int .i64 cr, .int .i64 cg, .int .i64 ca, .int .i64 cz, .iface 133 (.agg #[.pointer (some ⟨D, 0, none⟩), .pointer (some ⟨M, 0, none⟩)]), .pointer (some ⟨R, 0, none⟩), .pointer (some ⟨G, 0, none⟩), (.pointer none), (.pointer none), (.pointer none), .int .u32 0, .int .i64 0, .bool false, .bool false, .int .i64 (-1), .int .i64 (-1), .int .i64 0, .slice none 0 0, .int .i64 0, .bool false, .slice none 0 0, .bool false] 49))
  have hEl : w.heap.size ≤ E := by rw [hE]; exact HB1.out.size
  have hEn : w.heap.size ≠ E := by have := HR11.out.lt; omega
  have hEn1 : w.heap.size + 1 ≠ E := by have := HR21.out.lt; omega
  have hEP : P ≠ E := by omega
  clear HP1 HR11 HR21 HRR1 HB1 HR1 HR2 HRR HB hE hPs
  generalize w1.alloc (.cells #[.pointer (some ⟨P, 0, none⟩), .int .i64 cb, .int .i64 cp, .int .i64 cs, .int .i64 cu, .int .i64 co, .int .i64 cr, .int .i64 cg, .int .i64 ca, .int .i64 cz, .iface 133 (.agg #[.pointer (some ⟨D, 0, none⟩), .pointer (some ⟨M, 0, none⟩)]), .pointer (some ⟨R, 0, none⟩), .pointer (some ⟨G, 0, none⟩), (.pointer none), (.pointer none), (.pointer none), .int .u32 0, .int .i64 0, .bool false, .bool false, .int .i64 (-1), .int .i64 (-1), .int .i64 0, .slice none 0 0, .int .i64 0, .bool false, .slice none 0 0, .bool false] 49) = w2 at *
  go_wp2
  refine wp_region_noPanic ?_
  have hKR : ∀ t : Kept w2 [E], Row t.u w.heap.size 23 #[.int .i64 cb, .int .i64 cp, .int .i64 cs, .int .i64 cu, .int .i64 co, .int .i64 cr, .int .i64 cg, .int .i64 ca, .int .i64 cz] := fun t => t.h.row HR12.out (by simp; exact hEn)
  have q0 : ∀ t : Kept w2 [E], t.u.cell? ⟨w.heap.size, 0, none⟩ = some (.int .i64 cb) := fun t => by rw [(hKR t).cell]; rfl
  have q1 : ∀ t : Kept w2 [E], t.u.cell? ⟨w.heap.size, 1, none⟩ = some (.int .i64 cp) := fun t => by rw [(hKR t).cell]; rfl
  have q2 : ∀ t : Kept w2 [E], t.u.cell? ⟨w.heap.size, 2, none⟩ = some (.int .i64 cs) := fun t => by rw [(hKR t).cell]; rfl
  have q3 : ∀ t : Kept w2 [E], t.u.cell? ⟨w.heap.size, 3, none⟩ = some (.int .i64 cu) := fun t => by rw [(hKR t).cell]; rfl
  have q4 : ∀ t : Kept w2 [E], t.u.cell? ⟨w.heap.size, 4, none⟩ = some (.int .i64 co) := fun t => by rw [(hKR t).cell]; rfl
  have q5 : ∀ t : Kept w2 [E], t.u.cell? ⟨w.heap.size, 5, none⟩ = some (.int .i64 cr) := fun t => by rw [(hKR t).cell]; rfl
  have q6 : ∀ t : Kept w2 [E], t.u.cell? ⟨w.heap.size, 6, none⟩ = some (.int .i64 cg) := fun t => by rw [(hKR t).cell]; rfl
  have q7 : ∀ t : Kept w2 [E], t.u.cell? ⟨w.heap.size, 7, none⟩ = some (.int .i64 ca) := fun t => by rw [(hKR t).cell]; rfl
  have q8 : ∀ t : Kept w2 [E], t.u.cell? ⟨w.heap.size, 8, none⟩ = some (.int .i64 cz) := fun t => by rw [(hKR t).cell]; rfl
  clear hKR
  refine region_treeW (fun u => ∃ t : Kept w2 [E], u = t.u) (Tn.takes [0, 1, 2] (.one 3 (.one 4 (Tn.takes [5, 6, 7, 8, 9] (.one 10 (Tn.takes [11] .nil)))))) (by kernel_rfl) (by kernel_rfl) (fun _ _ _ _ _ h => h) ⟨⟨_, Turns.of_below (Below.refl _ _).drew _⟩, rfl⟩ ?_
  simp only [Tn.takes]
  (repeat ((with_reducible refine wpTree_take (by with_unfolding_all exact rfl) ?_); (with_reducible (show wpQuiet _ _ _ _ (_ :: _) _)); go_big_quiet_step (fail); (with_reducible refine wpQuiet_nil ?_)))
  clear q0 q1 q2 q3 q4 q5 q6 q7 q8
  (with_reducible refine wpTree_one (by with_unfolding_all exact rfl) ?_)
  gi_wp2_with fail
  (first | refine ⟨trivial, ((callsIn_wide (n := 8)).2 (Setting_zero R V _ (HRR2.out.drewN 1) hV)).mono ?_⟩ | refine ((callsIn_wide (n := 8)).2 (Setting_zero R V _ (HRR2.out.drewN 1) hV)).mono ?_)
  rintro e w3 ⟨rfl, hb3'⟩
  have hb3 : Below w2.heap.size w2 w3 := (Below.refl _ _).drew.trans hb3'
  have HE3 := Lib.hid (HE2.out.below hb3 HE2.out.lt)
  have HP3 := Lib.hid (HP2.out.below hb3 HP2.out.lt)
  have HR13 := Lib.hid (HR12.out.below hb3 HR12.out.lt)
  have HR23 := Lib.hid (HR22.out.below hb3 HR22.out.lt)
  have HB3 : Hid (Below w.heap.size w w3) := HB2.out.trans (hb3.mono HB2.out.size)
  have HK3 := Lib.hid hb3
  clear hb3' hb3 HE2 HP2 HR12 HR22 HRR2
  simp only [St.none, St.l]
  gi_wp2_with fail
  ((with_reducible refine outQ_normal ?_ ?_); exact ⟨⟨_, Turns.of_below HK3.out _⟩, rfl⟩)
  (with_reducible refine wpTree_one (by with_unfolding_all exact rfl) ?_)
  gi_wp2_with fail
  (first | refine ⟨trivial, ((callsIn_wide (n := 8)).2 ((HAN _).out)).mono ?_⟩ | refine ((callsIn_wide (n := 8)).2 ((HAN _).out)).mono ?_)
  rintro e w4 ⟨T, rfl, hT, hTl, hb4⟩
  have HE4 := Lib.hid (HE3.out.below hb4 HE3.out.lt)
  have HP4 := Lib.hid (HP3.out.below hb4 HP3.out.lt)
  have HR14 := Lib.hid (HR13.out.below hb4 HR13.out.lt)
  have HR24 := Lib.hid (HR23.out.below hb4 HR23.out.lt)
  have HB4 : Hid (Below w.heap.size w w4) := HB3.out.trans (hb4.mono HB3.out.size)
  have HK4 : Hid (Below w2.heap.size w2 w4) := HK3.out.trans (hb4.mono HK3.out.size)
  have hT2 : w.heap.size ≤ T := by have := HB3.out.size; omega
  have HT4 := Lib.hid hT
  clear hb4 HE3 HP3 HR13 HR23 HB3 HK3 hT hTl HAN
  gi_wp2_with fail
  ((with_reducible refine outQ_normal ?_ ?_); exact ⟨⟨_, Turns.of_below HK4.out _⟩, rfl⟩)
  (repeat ((with_reducible refine wpTree_take (by with_unfolding_all exact rfl) ?_); (with_reducible (show wpQuiet _ _ _ _ (_ :: _) _)); go_big_quiet_step (fail); (with_reducible refine wpQuiet_nil ?_)))
  (with_reducible refine wpTree_one (by with_unfolding_all exact rfl) ?_)
  have x13 : w4.cell? ⟨E, 13, none⟩ = some (.pointer none) := by rw [HE4.out.cell]; rfl
  have z13 := HE4.out.frozen 13
  gi_wp2_with fail
  ((with_reducible refine outQ_normal ?_ ?_); exact ⟨⟨_, ((Turns.of_below HK4.out _).setCell (by simp) _)⟩, rfl⟩)
  (repeat ((with_reducible refine wpTree_take (by with_unfolding_all exact rfl) ?_); (with_reducible (show wpQuiet _ _ _ _ (_ :: _) _)); go_big_quiet_step (fail); (with_reducible refine wpQuiet_nil ?_)))
  with_reducible refine wpTree_nil ?_
  refine NoPanic.normal ?_
  have hTE : T ≠ E := HT4.out.ne_type HE4.out (by decide)
  have HE5 : Hid (Row (w4.setCell ⟨E, 13, none⟩ (.pointer (some ⟨T, 0, none⟩))) E 49 #[.pointer (some ⟨P, 0, none⟩), .int .i64 cb, .int .i64 cp, .int .i64 cs, .int .i64 cu, .int .i64 co, .int .i64 cr, .int .i64 cg, .int .i64 ca, .int .i64 cz, .iface 133 (.agg #[.pointer (some ⟨D, 0, none⟩), .pointer (some ⟨M, 0, none⟩)]), .pointer (some ⟨R, 0, none⟩), .pointer (some ⟨G, 0, none⟩), (.pointer (some ⟨T, 0, none⟩)), (.pointer none), (.pointer none), .int .u32 0, .int .i64 0, .bool false, .bool false, .int .i64 (-1), .int .i64 (-1), .int .i64 0, .slice none 0 0, .int .i64 0, .bool false, .slice none 0 0, .bool false]) := by
    have := HE4.out.put 13 (.pointer (some ⟨T, 0, none⟩))
    unfold Hid; simpa using this
  have HP5 := Lib.hid (HP4.out.far (p := ⟨E, 13, none⟩) hEP (.pointer (some ⟨T, 0, none⟩)))
  have HR15 := Lib.hid (HR14.out.far (p := ⟨E, 13, none⟩) hEn (.pointer (some ⟨T, 0, none⟩)))
  have HR25 := Lib.hid (HR24.out.far (p := ⟨E, 13, none⟩) hEn1 (.pointer (some ⟨T, 0, none⟩)))
  have HT5 := Lib.hid (HT4.out.far (p := ⟨E, 13, none⟩) hTE (.pointer (some ⟨T, 0, none⟩)))
  have HB5 : Hid (Below w.heap.size w (w4.setCell ⟨E, 13, none⟩ (.pointer (some ⟨T, 0, none⟩)))) := HB4.out.setCell hEl _
  clear x13 z13 HE4 HP4 HR14 HR24 HT4 HB4 HK4 HB2
  generalize w4.setCell ⟨E, 13, none⟩ (.pointer (some ⟨T, 0, none⟩)) = w5 at *
  have y5 : w5.cell? ⟨w.heap.size, 5, none⟩ = some (.int .i64 cr) := by rw [HR15.out.cell]; rfl
  have x14 : w5.cell? ⟨E, 14, none⟩ = some (.pointer none) := by rw [HE5.out.cell]; rfl
  have z14 := HE5.out.frozen 14
  go_wp2_with (with_reducible refine wpList_load_rowR (o := ⟨some 38, .load 137 (.tmp 9), _, _, _, _⟩) rfl 137 (.tmp 9) rfl (w.heap.size + 1) rfl 137 sA HR25.out _ Tryz.underlying137 rfl HSz.out ?_)
  refine (HRN _).out.mono ?_
  rintro e w6 ⟨K, rfl, hK, hKl, hb6⟩
  have hK6 : RpIs w6 K cr .new := hK
  have HE6 := Lib.hid (HE5.out.below hb6 HE5.out.lt)
  have HP6 := Lib.hid (HP5.out.below hb6 HP5.out.lt)
  have HR16 := Lib.hid (HR15.out.below hb6 HR15.out.lt)
  have HT6 := Lib.hid (HT5.out.below hb6 HT5.out.lt)
  have HB6 : Hid (Below w.heap.size w w6) := HB5.out.trans (hb6.mono HB5.out.size)
  have hKw : w.heap.size ≤ K := by have := HB5.out.size; omega
  have HK6 := Lib.hid hK6
  have hKE : K ≠ E := HK6.out.ne_type HE6.out (by decide)
  have HE7 : Hid (Row (w6.setCell ⟨E, 14, none⟩ (.pointer (some ⟨K, 0, none⟩))) E 49 #[.pointer (some ⟨P, 0, none⟩), .int .i64 cb, .int .i64 cp, .int .i64 cs, .int .i64 cu, .int .i64 co, .int .i64 cr, .int .i64 cg, .int .i64 ca, .int .i64 cz, .iface 133 (.agg #[.pointer (some ⟨D, 0, none⟩), .pointer (some ⟨M, 0, none⟩)]), .pointer (some ⟨R, 0, none⟩), .pointer (some ⟨G, 0, none⟩), (.pointer (some ⟨T, 0, none⟩)), (.pointer (some ⟨K, 0, none⟩)), (.pointer none), .int .u32 0, .int .i64 0, .bool false, .bool false, .int .i64 (-1), .int .i64 (-1), .int .i64 0, .slice none 0 0, .int .i64 0, .bool false, .slice none 0 0, .bool false]) := by
    have := HE6.out.put 14 (.pointer (some ⟨K, 0, none⟩))
    unfold Hid; simpa using this
  have HP7 := Lib.hid (HP6.out.far (p := ⟨E, 14, none⟩) hEP (.pointer (some ⟨K, 0, none⟩)))
  have HR17 := Lib.hid (HR16.out.far (p := ⟨E, 14, none⟩) hEn (.pointer (some ⟨K, 0, none⟩)))
  have HT7 := Lib.hid (HT6.out.far (p := ⟨E, 14, none⟩) hTE (.pointer (some ⟨K, 0, none⟩)))
  have HK7 := Lib.hid (Row.far HK6.out (p := ⟨E, 14, none⟩) hKE (.pointer (some ⟨K, 0, none⟩)))
  have HB7 : Hid (Below w.heap.size w (w6.setCell ⟨E, 14, none⟩ (.pointer (some ⟨K, 0, none⟩)))) := HB6.out.setCell hEl _
  have y7 : (w6.setCell ⟨E, 14, none⟩ (.pointer (some ⟨K, 0, none⟩))).cell? ⟨w.heap.size, 7, none⟩ = some (.int .i64 ca) := by rw [HR17.out.cell]; rfl
  have x14' : w6.cell? ⟨E, 14, none⟩ = some (.pointer none) := by rw [HE6.out.cell]; rfl
  have z14' := HE6.out.frozen 14
  clear y5 x14 z14 HE5 HP5 HR15 HR25 HT5 HB5 hK hKl hb6 hK6 HE6 HP6 HR16 HT6 HB6 HRN HK6
  go_wp2_with fail
  refine (HVN _).out.mono ?_
  rintro e w8 ⟨C, mb, rfl, hC, hb8⟩
  have HE8 := Lib.hid (HE7.out.below hb8 HE7.out.lt)
  have HP8 := Lib.hid (HP7.out.below hb8 HP7.out.lt)
  have HT8 := Lib.hid (HT7.out.below hb8 HT7.out.lt)
  have HK8 := Lib.hid (HK7.out.below hb8 HK7.out.lt)
  have HB8 : Hid (Below w.heap.size w w8) := HB7.out.trans (hb8.mono HB7.out.size)
  have hC' := hC.mono HB7.out.size
  have hCE : C ≠ E := hC.row.ne_type HE8.out (by decide)
  have hmE : mb ≠ E := fun e => hC.cnt.not_row _ _ (e ▸ HE8.out)
  have HE9 : Hid (Row (w8.setCell ⟨E, 15, none⟩ (.pointer (some ⟨C, 0, none⟩))) E 49 #[.pointer (some ⟨P, 0, none⟩), .int .i64 cb, .int .i64 cp, .int .i64 cs, .int .i64 cu, .int .i64 co, .int .i64 cr, .int .i64 cg, .int .i64 ca, .int .i64 cz, .iface 133 (.agg #[.pointer (some ⟨D, 0, none⟩), .pointer (some ⟨M, 0, none⟩)]), .pointer (some ⟨R, 0, none⟩), .pointer (some ⟨G, 0, none⟩), (.pointer (some ⟨T, 0, none⟩)), (.pointer (some ⟨K, 0, none⟩)), (.pointer (some ⟨C, 0, none⟩)), .int .u32 0, .int .i64 0, .bool false, .bool false, .int .i64 (-1), .int .i64 (-1), .int .i64 0, .slice none 0 0, .int .i64 0, .bool false, .slice none 0 0, .bool false]) := by
    have := HE8.out.put 15 (.pointer (some ⟨C, 0, none⟩))
    unfold Hid; simpa using this
  have HP9 := Lib.hid (HP8.out.far (p := ⟨E, 15, none⟩) hEP (.pointer (some ⟨C, 0, none⟩)))
  have HT9 := Lib.hid (HT8.out.far (p := ⟨E, 15, none⟩) hTE (.pointer (some ⟨C, 0, none⟩)))
  have HK9 := Lib.hid (Row.far HK8.out (p := ⟨E, 15, none⟩) hKE (.pointer (some ⟨C, 0, none⟩)))
  have HC9 := Lib.hid (hC'.turns ((Turns.refl w8 [E]).setCell (by simp) (.pointer (some ⟨C, 0, none⟩)) (p := ⟨E, 15, none⟩)) (fun k hk => by
    obtain rfl : k = E := by simpa using hk
    refine ⟨by simp [Vca.blk, Ne.symm hCE, Ne.symm hmE], fun cur hr => HE8.out.ne_type hr (by decide) rfl⟩))
  have HB9 : Hid (Below w.heap.size w (w8.setCell ⟨E, 15, none⟩ (.pointer (some ⟨C, 0, none⟩)))) := HB8.out.setCell hEl _
  have x15 : w8.cell? ⟨E, 15, none⟩ = some (.pointer none) := by rw [HE8.out.cell]; rfl
  have z15 := HE8.out.frozen 15
  have hPw : w.heap.size ≤ P := by omega
  clear y7 x14' z14' HE7 HP7 HR17 HT7 HK7 HB7 hC hb8 hC' HE8 HP8 HT8 HK8 HB8 HVN
  go_wp2
  go_ret2
  exact ⟨E, P, T, K, C, mb, rfl, HE9.out, HP9.out, HT9.out, HK9.out, HC9.out, hEl, hPw, hT2, hKw, HB9.out⟩
end Go.Proofs.YtclhhdodebdmjaaGreat

namespace Go.Proofs.YtclhhdodebdmjaaGreat
open Go.RowKit Go.MapKept Go.ChangeMaps
set_option linter.unusedVariables false
set_option linter.unusedSimpArgs false
set_option maxRecDepth 100000

def optI : Option Nat → Int
  | Option.none => -1
  | some n => (n : Int)
/-- A slice that holds these bytes, in blocks that are read alone. -/
structure Dat (w : World) (F : List Nat) (v : Value) (l : List Nat) : Prop where
  small : ∀ x ∈ l, x < 256
  short : l.length ≤ reachBytes
  own : w.ownsRow 0 5 1 v l.length (intsV .u8 l)
  inF : ∀ g, v.ownBlock = some g → g ∈ F
theorem Dat.turns {w w' : World} {F T : List Nat} {v : Value} {l : List Nat} (h : Dat w F v l) (ht : Turns w w' T) (hT : ∀ k ∈ T, k ∉ F) : Dat w' F v l :=
  ⟨h.small, h.short, ht.own h.own (fun g hg hm => hT g hm (h.inF g hg)), h.inF⟩
theorem Dat.mono {w : World} {F F' : List Nat} {v : Value} {l : List Nat} (h : Dat w F v l) (hF : ∀ k ∈ F, k ∈ F') : Dat w F' v l := ⟨h.small, h.short, h.own, fun g hg => hF g (h.inF g hg)⟩
/-- Where a card's parts lie. -/
structure Bn where
  n : En
  E : Nat
  L : Nat
  Lc : Nat
  mb : Nat
  A : Option Addr
  cA : Nat
  LB : Nat
  wm : Nat
  nx : Option Addr
  cnx : Nat
  wr : Option Addr
  nwr : Nat
  cwr : Nat
/-- The blocks that may be turned. -/
def Bn.ts (b : Bn) : List Nat := [b.n.M, b.n.P, b.n.D, b.n.M, b.n.R, b.n.G, b.n.T, b.n.K, b.n.C, b.E, b.L, b.mb, b.LB, b.wm] ++ (Vca.blk b.A ++ (Vca.blk b.nx ++ Vca.blk b.wr))
def kxOf (x : Vca.It) : Kx := ⟨x.a, x.s, x.l, x.g⟩
/-- What is held of a place. -/
def HasOk (w : World) (F : List Nat) (c : Cf) (v : Value) : Option (List Nat) → Prop
  | Option.none => v = .slice none 0 0
  | some l => Dat w F v l ∧ (l.length : Int) = c.sector
/-- What loose ones were. -/
structure WasOk (w : World) (F : List Nat) (c : Cf) (f : Value → Option Value) (was : Nat → Option (List Nat)) : Prop where
  keys : ∀ key v, f key = some v → ∃ p l, key = .int .i64 ((p : Nat) : Int) ∧ was p = some l
  yes : ∀ (p : Nat) l, was p = some l → ∃ v, f (.int .i64 (p : Int)) = some v ∧ Dat w F v l ∧ (l.length : Int) = c.sector
/-- What holds of a card's state. -/
structure AbOk (c : Cf) (S : Ab) : Prop where
  cfg : OkC c
  st : S.s ∈ statesL
  addr : S.addr < 65536
  V : ∀ i, S.V i < 256
  G : Grd.Kinds (c.user / c.group).toNat S.G
  now : StOk c S.now
  set : StOk c S.set
  K : RkOk S.K
  qg : 0 ≤ S.qg
  qlen : (S.q.length : Int) ≤ c.cache
  qok : ∀ x ∈ S.q, 0 ≤ x.a ∧ x.a < 8 ∧ 0 ≤ x.s ∧ x.s ≤ 16384 ∧ (x.l.length : Int) = c.sector
  hasLt : ∀ p l, S.has p = some l → (p : Int) < totalI c
  wasLt : ∀ p l, S.was p = some l → (p : Int) < totalI c
  up : S.e.up < 4294967296
  count : S.e.count ≤ 64
  frm : ∀ n, S.e.frm = some n → n < 4294967296
  til : ∀ n, S.e.til = some n → n < 4294967296
  area : 0 ≤ S.e.area ∧ S.e.area < 8
  head : S.e.head ≤ 64
  recv : S.s = 6 → 1 ≤ S.left ∧ S.left ≤ 64
  next : ∀ x ∈ S.next, x < 4294967360
  ra : S.V 0 < 8
  nlen : S.next.length ≤ 64
def abRow (c : Cf) (b : Bn) (S : Ab) : Array Value :=
  engRow c b.n S.e.up (S.e.count : Int) S.e.rel S.e.pack (optI S.e.frm) (optI S.e.til) S.e.area (.slice b.nx S.next.length b.cnx) (S.e.head : Int) S.e.sure (.slice b.wr b.nwr b.cwr) false
structure AbIs (w : World) (b : Bn) (T F : List Nat) (c : Cf) (S : Ab) : Prop where
  ok : AbOk c S
  rM : Row w b.n.M 36 #[.pointer (some ⟨b.E, 0, none⟩), .pointer (some ⟨b.n.D, 0, none⟩)]
  rE : Row w b.E 49 (abRow c b S)
  rD : Row w b.n.D 123 #[.int .i64 c.sector, .slice (some ⟨b.LB, 0, none⟩) (totalI c).toNat (totalI c).toNat, .map (some b.wm), .func (.func 52) #[] #[]]
  ph : PhIs w b.n.P S.s S.addr S.left
  rg : RgIs w b.n.R S.V
  gd : Grd.GHeld w 0 b.n.G b.L b.Lc S.G
  tb : TbIs w b.n.T c S.set S.now
  kk : RpIs w b.n.K c.rpa S.K
  q : ∃ items, Vca.CHeld w 0 b.n.C b.mb c.cache.toNat b.A b.cA items S.qg ∧ items.map kxOf = S.q ∧ ∀ x ∈ items, ∀ g ∈ Vca.blk x.A, g ∈ F
  lb : ∃ dv : Nat → Value, Row w b.LB 53 ((List.range (totalI c).toNat).map dv).toArray ∧ ∀ p, p < (totalI c).toNat → HasOk w F c (dv p) (S.has p)
  wm : ∃ m f, MapIs Tryz.prog 3 w b.wm m f ∧ WasOk w F c f S.was
  nx : w.ownsRow 0 3 1 (.slice b.nx S.next.length b.cnx) S.next.length (intsV .i64 S.next)
  wr : ∃ xs, w.ownsRow 0 166 3 (.slice b.wr b.nwr b.cwr) b.nwr xs
  inT : ∀ k ∈ b.ts, k ∈ T
  TF : ∀ k ∈ T, k ∉ F
  Tlt : ∀ k ∈ T, k < w.heap.size
  Flt : ∀ k ∈ F, k < w.heap.size
  mw : b.mb ≠ b.wm
theorem made_nil (n : Nat) : madeCells #[Value.slice none 0 0] n = ((List.range n).map fun _ => Value.slice none 0 0).toArray := by
  apply Array.ext
  · simp [madeCells]
  · intro i h1 h2; simp [madeCells, Nat.mod_one]
theorem AbOk.new {c : Cf} (h : OkC c) : AbOk c (Ab.new c) := by
  have hg := h.1.group
  have hu := h.1.user
  have hz : StOk c .none := ⟨by decide, by decide, by decide, by decide, by simp [St.none]; omega, by decide⟩
  have hk : RkOk .new := ⟨by simp [Rk.new], by simp [Rk.new], by simp [Rk.new], fun _ => ⟨rfl, rfl⟩⟩
  refine ⟨h, by simp [Ab.new, statesL], by simp [Ab.new], by simp [Ab.new], ⟨by simp [Ab.new], by simp [Ab.new]⟩, hz, hz, hk, by simp [Ab.new], by have := h.1.cache; simp [Ab.new]; omega, by simp [Ab.new], by simp [Ab.new], by simp [Ab.new], by simp [Ab.new], by simp [Ab.new], by simp [Ab.new], by simp [Ab.new], by simp [Ab.new], by simp [Ab.new], by simp [Ab.new], by simp [Ab.new], by simp [Ab.new], by simp [Ab.new]⟩
end Go.Proofs.YtclhhdodebdmjaaGreat

namespace Go.Proofs.YtclhhdodebdmjaaGreat
open Go.RowKit Go.MapKept Go.ChangeMaps
set_option linter.unusedVariables false
set_option linter.unusedSimpArgs false
set_option maxRecDepth 100000

/-- All blocks of a list are rows, of these types. -/
def RowsOf (w : World) (U : List Nat) (ts : List TypeId) : Prop := ∀ k ∈ U, ∃ t cs, Row w k t cs ∧ t ∈ ts
theorem RowsOf.one {w : World} {g : Nat} {t : TypeId} {cs : Array Value} (h : Row w g t cs) : RowsOf w [g] [t] := fun k hk => by
  obtain rfl := List.mem_singleton.1 hk
  exact ⟨t, cs, h, List.mem_singleton.2 rfl⟩
theorem RowsOf.not {w : World} {U : List Nat} {ts : List TypeId} (h : RowsOf w U ts) {g : Nat} {t : TypeId} {cs : Array Value} (hr : Row w g t cs) (ht : t ∉ ts) : g ∉ U := fun hm => by
  obtain ⟨t', cs', hr', ht'⟩ := h g hm
  have : t = t' := Classical.byContradiction fun hne => hr.ne_type hr' hne rfl
  exact ht (this ▸ ht')
theorem RowsOf.row {w w' : World} {U : List Nat} {ts : List TypeId} (h : RowsOf w U ts) (hT : Turns w w' U) {g : Nat} {t : TypeId} {cs : Array Value} (hr : Row w g t cs) (ht : t ∉ ts) : Row w' g t cs := hT.row hr (h.not hr ht)
theorem RowsOf.notOwn {w : World} {U : List Nat} {ts : List TypeId} (h : RowsOf w U ts) {B : Nat} {t : TypeId} {sz n : Nat} {v : Value} {xs : List Value} (ho : w.ownsRow B t sz v n xs) (ht : t ∉ ts) : ∀ g, v.ownBlock = some g → g ∉ U := fun g hg => by
  rcases ho.2 with ⟨rfl, _⟩ | ⟨g', cap, cur, rfl, hB, hl, _⟩
  · cases hg
  · injection hg with hg; subst hg
    exact h.not hl ht
theorem RowsOf.own {w w' : World} {U : List Nat} {ts : List TypeId} (h : RowsOf w U ts) (hT : Turns w w' U) {B : Nat} {t : TypeId} {sz n : Nat} {v : Value} {xs : List Value} (ho : w.ownsRow B t sz v n xs) (ht : t ∉ ts) : w'.ownsRow B t sz v n xs := hT.own ho (h.notOwn ho ht)
theorem RowsOf.notMap {w : World} {U : List Nat} {ts : List TypeId} (h : RowsOf w U ts) {P : Program} {k : TypeId} {b m : Nat} {f : Value → Option Value} (hm : MapIs P k w b m f) : b ∉ U := fun hb => by
  obtain ⟨t, cs, hr, _⟩ := h b hb
  obtain ⟨es, cl, he, _⟩ := hm
  rw [show w.heap[b]? = some (.cells cs t (0, 0)) from hr] at he
  cases he
theorem RowsOf.map {w w' : World} {U : List Nat} {ts : List TypeId} (h : RowsOf w U ts) (hT : Turns w w' U) {P : Program} {k : TypeId} {b m : Nat} {f : Value → Option Value} (hm : MapIs P k w b m f) : MapIs P k w' b m f := hm.turns hT (h.notMap hm)
theorem RowsOf.notCnt {w : World} {U : List Nat} {ts : List TypeId} (h : RowsOf w U ts) {b : Nat} {c : Int → Int → Int} (hm : Vca.CntIs w b c) : b ∉ U := by
  obtain ⟨n, f, h1, _⟩ := hm
  exact h.notMap h1
/-- The cache, where its own blocks and its bytes stand. -/
theorem held_turns {w w' : World} {B C mb most c : Nat} {A : Option Addr} {items : List Vca.It} {g : Int} {S : List Nat} (h : Vca.CHeld w B C mb most A c items g) (ht : Turns w w' S) (hS : ∀ k ∈ S, k ∉ C :: mb :: Vca.blk A) (hF : ∀ x ∈ items, ∀ k ∈ Vca.blk x.A, k ∉ S) : Vca.CHeld w' B C mb most A c items g :=
  ⟨h.hC, ht.row h.row (fun hm => hS _ hm (by simp)), Vca.OwnI.turns h.own ht (fun k hk hm => hS k hm (by simp [hk])), fun x hx => ⟨(h.dat x hx).small, (h.dat x hx).short, ht.own (h.dat x hx).own (fun k hk hm => by
    have hb : k ∈ Vca.blk x.A := by
      cases hA : x.A with
      | none => rw [hA] at hk; simp [Value.ownBlock] at hk
      | some a => rw [hA] at hk; simp [Value.ownBlock] at hk; simp [Vca.blk]; exact hk.symm
    exact hF x hx k hb hm)⟩, h.wf, h.hm, h.cnt.turns ht (fun hm => hS _ hm (by simp)), h.few⟩
theorem held_rows {w w' : World} {U : List Nat} {ts : List TypeId} (hU : RowsOf w U ts) (hT : Turns w w' U) {B C mb most c : Nat} {A : Option Addr} {items : List Vca.It} {g : Int} (h : Vca.CHeld w B C mb most A c items g) (h1 : 247 ∉ ts) (h2 : 244 ∉ ts) (hF : ∀ x ∈ items, ∀ k ∈ Vca.blk x.A, k ∉ U) : Vca.CHeld w' B C mb most A c items g :=
  held_turns h hT (fun k hk hm => by
    simp only [List.mem_cons] at hm
    rcases hm with rfl | rfl | hm
    · exact hU.not h.row h1 hk
    · exact hU.notCnt h.cnt hk
    · obtain ⟨_, cur, hr⟩ := Vca.OwnI.block_row h.own k hm
      exact hU.not hr h2 hk) hF
theorem HasOk.turns {w w' : World} {F U : List Nat} {c : Cf} {v : Value} {o : Option (List Nat)} (h : HasOk w F c v o) (hT : Turns w w' U) (hF : ∀ k ∈ U, k ∉ F) : HasOk w' F c v o := by
  cases o with
  | none => exact h
  | some l => exact ⟨h.1.turns hT hF, h.2⟩
theorem HasOk.mono {w : World} {F F' : List Nat} {c : Cf} {v : Value} {o : Option (List Nat)} (h : HasOk w F c v o) (hF : ∀ k ∈ F, k ∈ F') : HasOk w F' c v o := by
  cases o with
  | none => exact h
  | some l => exact ⟨h.1.mono hF, h.2⟩
theorem WasOk.turns {w w' : World} {F U : List Nat} {c : Cf} {f : Value → Option Value} {was : Nat → Option (List Nat)} (h : WasOk w F c f was) (hT : Turns w w' U) (hF : ∀ k ∈ U, k ∉ F) : WasOk w' F c f was :=
  ⟨h.keys, fun p l hp => by obtain ⟨v, h1, h2, h3⟩ := h.yes p l hp; exact ⟨v, h1, h2.turns hT hF, h3⟩⟩
theorem WasOk.mono {w : World} {F F' : List Nat} {c : Cf} {f : Value → Option Value} {was : Nat → Option (List Nat)} (h : WasOk w F c f was) (hF : ∀ k ∈ F, k ∈ F') : WasOk w F' c f was :=
  ⟨h.keys, fun p l hp => by obtain ⟨v, h1, h2, h3⟩ := h.yes p l hp; exact ⟨v, h1, h2.mono hF, h3⟩⟩
theorem TbIs.rows {w w' : World} {U : List Nat} {ts : List TypeId} (hU : RowsOf w U ts) (hT : Turns w w' U) {g : Nat} {c : Cf} {s now : St} (h : TbIs w g c s now) (h1 : 197 ∉ ts) : TbIs w' g c s now := by
  obtain ⟨r, h⟩ := h
  exact ⟨r, hU.row hT h h1⟩
theorem guard_rows {w w' : World} {U : List Nat} {ts : List TypeId} (hU : RowsOf w U ts) (hT : Turns w w' U) {B G L cc : Nat} {ks : List Nat} (h : Grd.GHeld w B G L cc ks) (h1 : 221 ∉ ts) (h2 : L ∉ U) : Grd.GHeld w' B G L cc ks :=
  h.turns hT (hU.not h.row h1) h2
section
variable {w w' : World} {b : Bn} {T F : List Nat} {c : Cf} {S : Ab}
/-- The card stands where none of its blocks is turned. -/
theorem AbIs.turns (h : AbIs w b T F c S) {U : List Nat} (ht : Turns w w' U) (hU : ∀ k ∈ U, k ∉ T ∧ k ∉ F) : AbIs w' b T F c S := by
  have hin : ∀ k, k ∈ b.ts → k ∉ U := fun k hk hm => (hU k hm).1 (h.inT k hk)
  have hF : ∀ k ∈ U, k ∉ F := fun k hk => (hU k hk).2
  obtain ⟨items, hq, he, hqF⟩ := h.q
  obtain ⟨dv, hd, hh⟩ := h.lb
  obtain ⟨m, f, hm, hw⟩ := h.wm
  obtain ⟨xs, hx⟩ := h.wr
  obtain ⟨r, htb⟩ := h.tb
  have hb : ∀ A : Option Addr, ∀ n cc : Nat, ∀ k, (Value.slice A n cc).ownBlock = some k → k ∈ Vca.blk A := fun A n cc k hk => by
    cases A with
    | none => simp [Value.ownBlock] at hk
    | some a => simp [Value.ownBlock] at hk; simp [Vca.blk]; exact hk.symm
  refine ⟨h.ok, ht.row h.rM (hin _ (by simp [Bn.ts])), ht.row h.rE (hin _ (by simp [Bn.ts])), ht.row h.rD (hin _ (by simp [Bn.ts])), ht.row h.ph (hin _ (by simp [Bn.ts])), ht.row h.rg (hin _ (by simp [Bn.ts])), h.gd.turns ht (hin _ (by simp [Bn.ts])) (hin _ (by simp [Bn.ts])),
    ⟨r, ht.row htb (hin _ (by simp [Bn.ts]))⟩, ht.row h.kk (hin _ (by simp [Bn.ts])), ⟨items, held_turns hq ht (fun k hk hm => ?_) (fun x hx' k hk hm => hF k hm (hqF x hx' k hk)), he, hqF⟩, ⟨dv, ht.row hd (hin _ (by simp [Bn.ts])), fun p hp => (hh p hp).turns ht hF⟩,
    ⟨m, f, hm.turns ht (hin _ (by simp [Bn.ts])), hw.turns ht hF⟩, ht.own h.nx (fun k hk => hin _ (by have := hb _ _ _ k hk; simp [Bn.ts, this])), ⟨xs, ht.own hx (fun k hk => hin _ (by have := hb _ _ _ k hk; simp [Bn.ts, this]))⟩, h.inT, h.TF, fun k hk => Nat.lt_of_lt_of_le (h.Tlt k hk) ht.size, fun k hk => Nat.lt_of_lt_of_le (h.Flt k hk) ht.size, h.mw⟩
  simp only [List.mem_cons] at hm
  rcases hm with rfl | rfl | hm
  · exact hin _ (by simp [Bn.ts]) hk
  · exact hin _ (by simp [Bn.ts]) hk
  · exact hin k (by simp [Bn.ts, hm]) hk
theorem AbIs.below (h : AbIs w b T F c S) (hb : Below w.heap.size w w') : AbIs w' b T F c S := h.turns (Turns.of_below hb []) (by simp)
theorem AbIs.drewN (h : AbIs w b T F c S) (n : Nat) : AbIs (w.drewN n) b T F c S := h.turns ((Turns.refl w []).drewN n) (by simp)
theorem AbIs.drew (h : AbIs w b T F c S) : AbIs w.drew b T F c S := h.turns (Turns.refl w []).drew (by simp)
/-- An engine's own numbers are written. -/
theorem AbIs.eng (h : AbIs w b T F c S) {e' : Es} (ht : Turns w w' [b.E]) (hr : Row w' b.E 49 (abRow c b { S with e := e' })) (hok : AbOk c { S with e := e' }) : AbIs w' b T F c { S with e := e' } := by
  have hU := RowsOf.one h.rE
  have hin : ∀ k ∈ [b.E], k ∈ T := fun k hk => h.inT k (by simp only [List.mem_cons, List.not_mem_nil, or_false] at hk; rcases hk with rfl <;> simp [Bn.ts])
  have hF : ∀ k ∈ [b.E], k ∉ F := fun k hk => h.TF k (hin k hk)
  obtain ⟨items, hq, he, hqF⟩ := h.q
  obtain ⟨dv, hd, hh⟩ := h.lb
  obtain ⟨m, f, hm, hw⟩ := h.wm
  obtain ⟨xs, hx⟩ := h.wr
  have hL : b.L ∉ [b.E] := hU.notOwn h.gd.own (by decide) _ rfl
  exact ⟨hok, hU.row ht h.rM (by decide), hr, hU.row ht h.rD (by decide), hU.row ht h.ph (by decide), hU.row ht h.rg (by decide), guard_rows hU ht h.gd (by decide) hL, h.tb.rows hU ht (by decide), hU.row ht h.kk (by decide), ⟨items, held_rows hU ht hq (by decide) (by decide) (fun x hx' k hk hm => hF k hm (hqF x hx' k hk)), he, hqF⟩, ⟨dv, hU.row ht hd (by decide), fun p hp => (hh p hp).turns ht hF⟩, ⟨m, f, hU.map ht hm, hw.turns ht hF⟩, hU.own ht h.nx (by decide), ⟨xs, hU.own ht hx (by decide)⟩, h.inT, h.TF, fun k hk => Nat.lt_of_lt_of_le (h.Tlt k hk) ht.size, fun k hk => Nat.lt_of_lt_of_le (h.Flt k hk) ht.size, h.mw⟩
theorem AbIs.tabl (h : AbIs w b T F c S) {s n : St} (ht : Turns w w' [b.n.T]) (hr : TbIs w' b.n.T c s n) (hok : AbOk c { S with set := s, now := n }) : AbIs w' b T F c { S with set := s, now := n } := by
  obtain ⟨r, htb⟩ := h.tb
  have hU := RowsOf.one htb
  have hin : ∀ k ∈ [b.n.T], k ∈ T := fun k hk => h.inT k (by simp only [List.mem_cons, List.not_mem_nil, or_false] at hk; rcases hk with rfl <;> simp [Bn.ts])
  have hF : ∀ k ∈ [b.n.T], k ∉ F := fun k hk => h.TF k (hin k hk)
  obtain ⟨items, hq, he, hqF⟩ := h.q
  obtain ⟨dv, hd, hh⟩ := h.lb
  obtain ⟨m, f, hm, hw⟩ := h.wm
  obtain ⟨xs, hx⟩ := h.wr
  have hL : b.L ∉ [b.n.T] := hU.notOwn h.gd.own (by decide) _ rfl
  exact ⟨hok, hU.row ht h.rM (by decide), hU.row ht h.rE (by decide), hU.row ht h.rD (by decide), hU.row ht h.ph (by decide), hU.row ht h.rg (by decide), guard_rows hU ht h.gd (by decide) hL, hr, hU.row ht h.kk (by decide), ⟨items, held_rows hU ht hq (by decide) (by decide) (fun x hx' k hk hm => hF k hm (hqF x hx' k hk)), he, hqF⟩, ⟨dv, hU.row ht hd (by decide), fun p hp => (hh p hp).turns ht hF⟩, ⟨m, f, hU.map ht hm, hw.turns ht hF⟩, hU.own ht h.nx (by decide), ⟨xs, hU.own ht hx (by decide)⟩, h.inT, h.TF, fun k hk => Nat.lt_of_lt_of_le (h.Tlt k hk) ht.size, fun k hk => Nat.lt_of_lt_of_le (h.Flt k hk) ht.size, h.mw⟩
theorem AbIs.phase (h : AbIs w b T F c S) {s : Int} {a : Nat} {l : Int} (ht : Turns w w' [b.n.P]) (hr : PhIs w' b.n.P s a l) (hok : AbOk c { S with s := s, addr := a, left := l }) : AbIs w' b T F c { S with s := s, addr := a, left := l } := by
  have hU := RowsOf.one h.ph
  have hin : ∀ k ∈ [b.n.P], k ∈ T := fun k hk => h.inT k (by simp only [List.mem_cons, List.not_mem_nil, or_false] at hk; rcases hk with rfl <;> simp [Bn.ts])
  have hF : ∀ k ∈ [b.n.P], k ∉ F := fun k hk => h.TF k (hin k hk)
  obtain ⟨items, hq, he, hqF⟩ := h.q
  obtain ⟨dv, hd, hh⟩ := h.lb
  obtain ⟨m, f, hm, hw⟩ := h.wm
  obtain ⟨xs, hx⟩ := h.wr
  have hL : b.L ∉ [b.n.P] := hU.notOwn h.gd.own (by decide) _ rfl
  exact ⟨hok, hU.row ht h.rM (by decide), hU.row ht h.rE (by decide), hU.row ht h.rD (by decide), hr, hU.row ht h.rg (by decide), guard_rows hU ht h.gd (by decide) hL, h.tb.rows hU ht (by decide), hU.row ht h.kk (by decide), ⟨items, held_rows hU ht hq (by decide) (by decide) (fun x hx' k hk hm => hF k hm (hqF x hx' k hk)), he, hqF⟩, ⟨dv, hU.row ht hd (by decide), fun p hp => (hh p hp).turns ht hF⟩, ⟨m, f, hU.map ht hm, hw.turns ht hF⟩, hU.own ht h.nx (by decide), ⟨xs, hU.own ht hx (by decide)⟩, h.inT, h.TF, fun k hk => Nat.lt_of_lt_of_le (h.Tlt k hk) ht.size, fun k hk => Nat.lt_of_lt_of_le (h.Flt k hk) ht.size, h.mw⟩
theorem AbIs.regs (h : AbIs w b T F c S) {V : Rv} (ht : Turns w w' [b.n.R]) (hr : RgIs w' b.n.R V) (hok : AbOk c { S with V := V }) : AbIs w' b T F c { S with V := V } := by
  have hU := RowsOf.one h.rg
  have hin : ∀ k ∈ [b.n.R], k ∈ T := fun k hk => h.inT k (by simp only [List.mem_cons, List.not_mem_nil, or_false] at hk; rcases hk with rfl <;> simp [Bn.ts])
  have hF : ∀ k ∈ [b.n.R], k ∉ F := fun k hk => h.TF k (hin k hk)
  obtain ⟨items, hq, he, hqF⟩ := h.q
  obtain ⟨dv, hd, hh⟩ := h.lb
  obtain ⟨m, f, hm, hw⟩ := h.wm
  obtain ⟨xs, hx⟩ := h.wr
  have hL : b.L ∉ [b.n.R] := hU.notOwn h.gd.own (by decide) _ rfl
  exact ⟨hok, hU.row ht h.rM (by decide), hU.row ht h.rE (by decide), hU.row ht h.rD (by decide), hU.row ht h.ph (by decide), hr, guard_rows hU ht h.gd (by decide) hL, h.tb.rows hU ht (by decide), hU.row ht h.kk (by decide), ⟨items, held_rows hU ht hq (by decide) (by decide) (fun x hx' k hk hm => hF k hm (hqF x hx' k hk)), he, hqF⟩, ⟨dv, hU.row ht hd (by decide), fun p hp => (hh p hp).turns ht hF⟩, ⟨m, f, hU.map ht hm, hw.turns ht hF⟩, hU.own ht h.nx (by decide), ⟨xs, hU.own ht hx (by decide)⟩, h.inT, h.TF, fun k hk => Nat.lt_of_lt_of_le (h.Tlt k hk) ht.size, fun k hk => Nat.lt_of_lt_of_le (h.Flt k hk) ht.size, h.mw⟩
theorem AbIs.guard (h : AbIs w b T F c S) {G : List Nat} (ht : Turns w w' [b.L]) (hr : Grd.GHeld w' 0 b.n.G b.L b.Lc G) (hok : AbOk c { S with G := G }) : AbIs w' b T F c { S with G := G } := by
  obtain ⟨cur, hLr⟩ := (own_row h.gd.own).2
  have hU := RowsOf.one hLr.1
  have hin : ∀ k ∈ [b.L], k ∈ T := fun k hk => h.inT k (by simp only [List.mem_cons, List.not_mem_nil, or_false] at hk; rcases hk with rfl <;> simp [Bn.ts])
  have hF : ∀ k ∈ [b.L], k ∉ F := fun k hk => h.TF k (hin k hk)
  obtain ⟨items, hq, he, hqF⟩ := h.q
  obtain ⟨dv, hd, hh⟩ := h.lb
  obtain ⟨m, f, hm, hw⟩ := h.wm
  obtain ⟨xs, hx⟩ := h.wr
  exact ⟨hok, hU.row ht h.rM (by decide), hU.row ht h.rE (by decide), hU.row ht h.rD (by decide), hU.row ht h.ph (by decide), hU.row ht h.rg (by decide), hr, h.tb.rows hU ht (by decide), hU.row ht h.kk (by decide), ⟨items, held_rows hU ht hq (by decide) (by decide) (fun x hx' k hk hm => hF k hm (hqF x hx' k hk)), he, hqF⟩, ⟨dv, hU.row ht hd (by decide), fun p hp => (hh p hp).turns ht hF⟩, ⟨m, f, hU.map ht hm, hw.turns ht hF⟩, hU.own ht h.nx (by decide), ⟨xs, hU.own ht hx (by decide)⟩, h.inT, h.TF, fun k hk => Nat.lt_of_lt_of_le (h.Tlt k hk) ht.size, fun k hk => Nat.lt_of_lt_of_le (h.Flt k hk) ht.size, h.mw⟩
theorem AbIs.next (h : AbIs w b T F c S) {e' : Es} {nx' : List Nat} {A' : Option Addr} {c' : Nat} {T' : List Nat} (ht : Turns w w' [b.E]) (hr : Row w' b.E 49 (abRow c { b with nx := A', cnx := c' } { S with e := e', next := nx' })) (hok : AbOk c { S with e := e', next := nx' }) (hnx : w'.ownsRow 0 3 1 (.slice A' nx'.length c') nx'.length (intsV .i64 nx')) (hT : ∀ k ∈ T, k ∈ T') (hA : ∀ k ∈ Vca.blk A', k ∈ T') (hTF : ∀ k ∈ T', k ∉ F) (hTl : ∀ k ∈ T', k < w'.heap.size) : AbIs w' { b with nx := A', cnx := c' } T' F c { S with e := e', next := nx' } := by
  have hU := RowsOf.one h.rE
  have hin : ∀ k ∈ [b.E], k ∈ T := fun k hk => h.inT k (by simp only [List.mem_cons, List.not_mem_nil, or_false] at hk; rcases hk with rfl <;> simp [Bn.ts])
  have hF : ∀ k ∈ [b.E], k ∉ F := fun k hk => h.TF k (hin k hk)
  obtain ⟨items, hq, he, hqF⟩ := h.q
  obtain ⟨dv, hd, hh⟩ := h.lb
  obtain ⟨m, f, hm, hw⟩ := h.wm
  obtain ⟨xs, hx⟩ := h.wr
  have hL : b.L ∉ [b.E] := hU.notOwn h.gd.own (by decide) _ rfl
  exact ⟨hok, hU.row ht h.rM (by decide), hr, hU.row ht h.rD (by decide), hU.row ht h.ph (by decide), hU.row ht h.rg (by decide), guard_rows hU ht h.gd (by decide) hL, h.tb.rows hU ht (by decide), hU.row ht h.kk (by decide), ⟨items, held_rows hU ht hq (by decide) (by decide) (fun x hx' k hk hm => hF k hm (hqF x hx' k hk)), he, hqF⟩, ⟨dv, hU.row ht hd (by decide), fun p hp => (hh p hp).turns ht hF⟩, ⟨m, f, hU.map ht hm, hw.turns ht hF⟩, hnx, ⟨xs, hU.own ht hx (by decide)⟩, fun k hk => by
    have : k ∈ b.ts ∨ k ∈ Vca.blk A' := by
      simp only [Bn.ts, List.mem_append, List.mem_cons, List.not_mem_nil, or_false] at hk ⊢
      rcases hk with hk | hk | hk | hk
      · exact .inl (.inl hk)
      · exact .inl (.inr (.inl hk))
      · exact .inr hk
      · exact .inl (.inr (.inr (.inr hk)))
    rcases this with hk | hk
    · exact hT k (h.inT k hk)
    · exact hA k hk, hTF, hTl, fun k hk => Nat.lt_of_lt_of_le (h.Flt k hk) ht.size, h.mw⟩
theorem AbIs.wrote (h : AbIs w b T F c S) {A' : Option Addr} {n' c' : Nat} {T' : List Nat} {xs' : List Value} (ht : Turns w w' [b.E]) (hr : Row w' b.E 49 (abRow c { b with wr := A', nwr := n', cwr := c' } S)) (hwr : w'.ownsRow 0 166 3 (.slice A' n' c') n' xs') (hT : ∀ k ∈ T, k ∈ T') (hA : ∀ k ∈ Vca.blk A', k ∈ T') (hTF : ∀ k ∈ T', k ∉ F) (hTl : ∀ k ∈ T', k < w'.heap.size) : AbIs w' { b with wr := A', nwr := n', cwr := c' } T' F c S := by
  have hU := RowsOf.one h.rE
  have hin : ∀ k ∈ [b.E], k ∈ T := fun k hk => h.inT k (by simp only [List.mem_cons, List.not_mem_nil, or_false] at hk; rcases hk with rfl <;> simp [Bn.ts])
  have hF : ∀ k ∈ [b.E], k ∉ F := fun k hk => h.TF k (hin k hk)
  obtain ⟨items, hq, he, hqF⟩ := h.q
  obtain ⟨dv, hd, hh⟩ := h.lb
  obtain ⟨m, f, hm, hw⟩ := h.wm
  obtain ⟨xs, hx⟩ := h.wr
  have hL : b.L ∉ [b.E] := hU.notOwn h.gd.own (by decide) _ rfl
  exact ⟨h.ok, hU.row ht h.rM (by decide), hr, hU.row ht h.rD (by decide), hU.row ht h.ph (by decide), hU.row ht h.rg (by decide), guard_rows hU ht h.gd (by decide) hL, h.tb.rows hU ht (by decide), hU.row ht h.kk (by decide), ⟨items, held_rows hU ht hq (by decide) (by decide) (fun x hx' k hk hm => hF k hm (hqF x hx' k hk)), he, hqF⟩, ⟨dv, hU.row ht hd (by decide), fun p hp => (hh p hp).turns ht hF⟩, ⟨m, f, hU.map ht hm, hw.turns ht hF⟩, hU.own ht h.nx (by decide), ⟨xs', hwr⟩, fun k hk => by
    have : k ∈ b.ts ∨ k ∈ Vca.blk A' := by
      simp only [Bn.ts, List.mem_append, List.mem_cons, List.not_mem_nil, or_false] at hk ⊢
      rcases hk with hk | hk | hk | hk
      · exact .inl (.inl hk)
      · exact .inl (.inr (.inl hk))
      · exact .inl (.inr (.inr (.inl hk)))
      · exact .inr hk
    rcases this with hk | hk
    · exact hT k (h.inT k hk)
    · exact hA k hk, hTF, hTl, fun k hk => Nat.lt_of_lt_of_le (h.Flt k hk) ht.size, h.mw⟩
theorem AbIs.lbs (h : AbIs w b T F c S) {has' : Nat → Option (List Nat)} {F' : List Nat} (ht : Turns w w' [b.LB]) (hlb : ∃ dv : Nat → Value, Row w' b.LB 53 ((List.range (totalI c).toNat).map dv).toArray ∧ ∀ p, p < (totalI c).toNat → HasOk w' F' c (dv p) (has' p)) (hok : AbOk c { S with has := has' }) (hFF : ∀ k ∈ F, k ∈ F') (hTF : ∀ k ∈ T, k ∉ F') (hFl : ∀ k ∈ F', k < w'.heap.size) : AbIs w' b T F' c { S with has := has' } := by
  obtain ⟨dv0, hd0, _⟩ := h.lb
  have hU := RowsOf.one hd0
  have hin : ∀ k ∈ [b.LB], k ∈ T := fun k hk => h.inT k (by simp only [List.mem_cons, List.not_mem_nil, or_false] at hk; rcases hk with rfl <;> simp [Bn.ts])
  have hF : ∀ k ∈ [b.LB], k ∉ F := fun k hk => h.TF k (hin k hk)
  obtain ⟨items, hq, he, hqF⟩ := h.q
  obtain ⟨m, f, hm, hw⟩ := h.wm
  obtain ⟨xs, hx⟩ := h.wr
  have hL : b.L ∉ [b.LB] := hU.notOwn h.gd.own (by decide) _ rfl
  exact ⟨hok, hU.row ht h.rM (by decide), hU.row ht h.rE (by decide), hU.row ht h.rD (by decide), hU.row ht h.ph (by decide), hU.row ht h.rg (by decide), guard_rows hU ht h.gd (by decide) hL, h.tb.rows hU ht (by decide), hU.row ht h.kk (by decide), ⟨items, held_rows hU ht hq (by decide) (by decide) (fun x hx' k hk hm => hF k hm (hqF x hx' k hk)), he, fun x hx' k hk => hFF k (hqF x hx' k hk)⟩, hlb, ⟨m, f, hU.map ht hm, (hw.turns ht hF).mono hFF⟩, hU.own ht h.nx (by decide), ⟨xs, hU.own ht hx (by decide)⟩, h.inT, hTF, fun k hk => Nat.lt_of_lt_of_le (h.Tlt k hk) ht.size, hFl, h.mw⟩
/-- The map of loose ones is turned. -/
theorem AbIs.wms (h : AbIs w b T F c S) {was' : Nat → Option (List Nat)} {F' : List Nat} (ht : Turns w w' [b.wm]) (hwm : ∃ m f, MapIs Tryz.prog 3 w' b.wm m f ∧ WasOk w' F' c f was') (hok : AbOk c { S with was := was' }) (hFF : ∀ k ∈ F, k ∈ F') (hTF : ∀ k ∈ T, k ∉ F') (hFl : ∀ k ∈ F', k < w'.heap.size) : AbIs w' b T F' c { S with was := was' } := by
  have hin : ∀ k ∈ [b.wm], k ∈ T := fun k hk => h.inT k (by obtain rfl := List.mem_singleton.1 hk; simp [Bn.ts])
  have hF : ∀ k ∈ [b.wm], k ∉ F := fun k hk => h.TF k (hin k hk)
  obtain ⟨items, hq, he, hqF⟩ := h.q
  obtain ⟨dv, hd, hh⟩ := h.lb
  obtain ⟨m, f, hm, hw⟩ := h.wm
  obtain ⟨xs, hx⟩ := h.wr
  obtain ⟨r, htb⟩ := h.tb
  have hrow : ∀ {g t cs}, Row w g t cs → g ∉ [b.wm] := fun {g t cs} hr hg => by
    obtain rfl := List.mem_singleton.1 hg
    obtain ⟨es, cl, he, _⟩ := hm
    rw [show w.heap[b.wm]? = some (.cells cs t (0, 0)) from hr] at he
    cases he
  have hown : ∀ {B t sz n v xs}, w.ownsRow B t sz n v xs → ∀ g, n.ownBlock = some g → g ∉ [b.wm] := fun {B t sz n v xs} ho g hg => by
    rcases ho.2 with ⟨rfl, _⟩ | ⟨g', cap, cur, rfl, hB, hl, _⟩
    · cases hg
    · injection hg with hg; subst hg
      exact hrow hl
  exact ⟨hok, ht.row h.rM (hrow h.rM), ht.row h.rE (hrow h.rE), ht.row h.rD (hrow h.rD), ht.row h.ph (hrow h.ph), ht.row h.rg (hrow h.rg), h.gd.turns ht (hrow h.gd.row) (hown h.gd.own _ rfl), ⟨r, ht.row htb (hrow htb)⟩, ht.row h.kk (hrow h.kk),
    ⟨items, held_turns hq ht (fun k hk hmm => by
      obtain rfl := List.mem_singleton.1 hk
      simp only [List.mem_cons] at hmm
      rcases hmm with e | e | e
      · exact hrow hq.row (List.mem_singleton.2 e.symm)
      · exact h.mw e.symm
      · obtain ⟨_, cur, hr⟩ := Vca.OwnI.block_row hq.own _ e
        exact hrow hr (List.mem_singleton.2 rfl)) (fun x hx' k hk hm => hF k hm (hqF x hx' k hk)), he, fun x hx' k hk => hFF k (hqF x hx' k hk)⟩, ⟨dv, ht.row hd (hrow hd), fun p hp => ((hh p hp).turns ht hF).mono hFF⟩, hwm, ht.own h.nx (hown h.nx), ⟨xs, ht.own hx (hown hx)⟩,
    h.inT, hTF, fun k hk => Nat.lt_of_lt_of_le (h.Tlt k hk) ht.size, hFl, h.mw⟩
theorem AbIs.xP (h : AbIs w b T F c S) : w.cell? ⟨b.E, 0, none⟩ = some (.pointer (some ⟨b.n.P, 0, none⟩)) := by rw [h.rE.cell]; rfl
theorem AbIs.xc2 (h : AbIs w b T F c S) : w.cell? ⟨b.E, 3, none⟩ = some (.int .i64 c.sector) := by rw [h.rE.cell]; rfl
theorem AbIs.xc6 (h : AbIs w b T F c S) : w.cell? ⟨b.E, 7, none⟩ = some (.int .i64 c.group) := by rw [h.rE.cell]; rfl
theorem AbIs.xSt (h : AbIs w b T F c S) : w.cell? ⟨b.E, 10, none⟩ = some (.iface 133 (.agg #[.pointer (some ⟨b.n.D, 0, none⟩), .pointer (some ⟨b.n.M, 0, none⟩)])) := by rw [h.rE.cell]; rfl
theorem AbIs.xR (h : AbIs w b T F c S) : w.cell? ⟨b.E, 11, none⟩ = some (.pointer (some ⟨b.n.R, 0, none⟩)) := by rw [h.rE.cell]; rfl
theorem AbIs.xG (h : AbIs w b T F c S) : w.cell? ⟨b.E, 12, none⟩ = some (.pointer (some ⟨b.n.G, 0, none⟩)) := by rw [h.rE.cell]; rfl
theorem AbIs.xT (h : AbIs w b T F c S) : w.cell? ⟨b.E, 13, none⟩ = some (.pointer (some ⟨b.n.T, 0, none⟩)) := by rw [h.rE.cell]; rfl
theorem AbIs.xC (h : AbIs w b T F c S) : w.cell? ⟨b.E, 15, none⟩ = some (.pointer (some ⟨b.n.C, 0, none⟩)) := by rw [h.rE.cell]; rfl
theorem AbIs.xUp (h : AbIs w b T F c S) : w.cell? ⟨b.E, 16, none⟩ = some (.int .u32 (S.e.up : Int)) := by rw [h.rE.cell]; rfl
theorem AbIs.xCount (h : AbIs w b T F c S) : w.cell? ⟨b.E, 17, none⟩ = some (.int .i64 (S.e.count : Int)) := by rw [h.rE.cell]; rfl
theorem AbIs.xRel (h : AbIs w b T F c S) : w.cell? ⟨b.E, 18, none⟩ = some (.bool S.e.rel) := by rw [h.rE.cell]; rfl
theorem AbIs.xPack (h : AbIs w b T F c S) : w.cell? ⟨b.E, 19, none⟩ = some (.bool S.e.pack) := by rw [h.rE.cell]; rfl
theorem AbIs.xFrm (h : AbIs w b T F c S) : w.cell? ⟨b.E, 20, none⟩ = some (.int .i64 (optI S.e.frm)) := by rw [h.rE.cell]; rfl
theorem AbIs.xTil (h : AbIs w b T F c S) : w.cell? ⟨b.E, 21, none⟩ = some (.int .i64 (optI S.e.til)) := by rw [h.rE.cell]; rfl
theorem AbIs.xArea (h : AbIs w b T F c S) : w.cell? ⟨b.E, 22, none⟩ = some (.int .i64 S.e.area) := by rw [h.rE.cell]; rfl
theorem AbIs.xNx (h : AbIs w b T F c S) : w.cell? ⟨b.E, 23, none⟩ = some (.slice b.nx S.next.length b.cnx) := by rw [h.rE.cell]; rfl
theorem AbIs.xHead (h : AbIs w b T F c S) : w.cell? ⟨b.E, 24, none⟩ = some (.int .i64 (S.e.head : Int)) := by rw [h.rE.cell]; rfl
theorem AbIs.xSure (h : AbIs w b T F c S) : w.cell? ⟨b.E, 25, none⟩ = some (.bool S.e.sure) := by rw [h.rE.cell]; rfl
theorem AbIs.xWr (h : AbIs w b T F c S) : w.cell? ⟨b.E, 26, none⟩ = some (.slice b.wr b.nwr b.cwr) := by rw [h.rE.cell]; rfl
theorem AbIs.xDown (h : AbIs w b T F c S) : w.cell? ⟨b.E, 27, none⟩ = some (.bool false) := by rw [h.rE.cell]; rfl
theorem set_up (c : Cf) (b : Bn) (S : Ab) (x : Nat) : (abRow c b S).setIfInBounds 16 (.int .u32 (x : Int)) = abRow c b { S with e := { S.e with up := x } } := rfl
theorem set_count (c : Cf) (b : Bn) (S : Ab) (x : Nat) : (abRow c b S).setIfInBounds 17 (.int .i64 (x : Int)) = abRow c b { S with e := { S.e with count := x } } := rfl
theorem set_rel (c : Cf) (b : Bn) (S : Ab) (x : Bool) : (abRow c b S).setIfInBounds 18 (.bool x) = abRow c b { S with e := { S.e with rel := x } } := rfl
theorem set_pack (c : Cf) (b : Bn) (S : Ab) (x : Bool) : (abRow c b S).setIfInBounds 19 (.bool x) = abRow c b { S with e := { S.e with pack := x } } := rfl
theorem set_frm (c : Cf) (b : Bn) (S : Ab) (x : Option Nat) : (abRow c b S).setIfInBounds 20 (.int .i64 (optI x)) = abRow c b { S with e := { S.e with frm := x } } := rfl
theorem set_til (c : Cf) (b : Bn) (S : Ab) (x : Option Nat) : (abRow c b S).setIfInBounds 21 (.int .i64 (optI x)) = abRow c b { S with e := { S.e with til := x } } := rfl
end
end Go.Proofs.YtclhhdodebdmjaaGreat

namespace Go.Proofs.YtclhhdodebdmjaaGreat
open Go.RowKit Go.MapKept Go.ChangeMaps
set_option linter.unusedVariables false
set_option linter.unusedSimpArgs false
set_option maxRecDepth 100000

theorem u32_or (a b : Nat) (ha : a < 4294967296) (hb : b < 4294967296) : bits .or .u32 (a : Int) (b : Int) = ((a ||| b : Nat) : Int) := by
  have h1 : (BitVec.ofInt 32 (a : Int)).toNat = a := by
    rw [BitVec.ofInt_natCast, BitVec.toNat_ofNat]; exact Nat.mod_eq_of_lt (by omega)
  have h2 : (BitVec.ofInt 32 (b : Int)).toNat = b := by
    rw [BitVec.ofInt_natCast, BitVec.toNat_ofNat]; exact Nat.mod_eq_of_lt (by omega)
  have h3 : a ||| b < 2 ^ 32 := Nat.or_lt_two_pow (by omega) (by omega)
  show IntKind.u32.wrap ((BitVec.ofInt 32 (a : Int) ||| BitVec.ofInt 32 (b : Int)).toNat : Int) = _
  rw [BitVec.toNat_or, h1, h2, IntKind.wrap_u32]
  omega
theorem or_lt (a b : Nat) (ha : a < 4294967296) (hb : b < 4294967296) : a ||| b < 4294967296 := Nat.or_lt_two_pow (n := 32) (by omega) (by omega)
def Ab.raise (S : Ab) (n : Nat) : Ab := { S with e := { S.e with up := S.e.up ||| n } }
section
variable {w : World} {b : Bn} {T F : List Nat} {c : Cf} {S : Ab}
theorem raise_any (h : AbIs w b T F c S) (n : Nat) (hn : n < 4294967296) : Calls Tryz.prog 41 #[.pointer (some ⟨b.E, 0, none⟩), .int .u32 n] w fun e w' => e = .returned (.tuple #[]) ∧ AbIs w' b T F c (S.raise n) ∧ Turns w w' [b.E] := by
  have e16 := h.xUp
  have f16 := h.rE.frozen 16
  have hor := u32_or S.e.up n h.ok.up hn
  have HF : Hid (AbIs (w.setCell ⟨b.E, 16, none⟩ (.int .u32 ((S.e.up ||| n : Nat) : Int))) b T F c (S.raise n) ∧ Turns w (w.setCell ⟨b.E, 16, none⟩ (.int .u32 ((S.e.up ||| n : Nat) : Int))) [b.E]) := by
    have hT : Turns w (w.setCell ⟨b.E, 16, none⟩ (.int .u32 ((S.e.up ||| n : Nat) : Int))) [b.E] := (Turns.refl _ _).setCell (by simp) _
    have hr := h.rE.put 16 (.int .u32 ((S.e.up ||| n : Nat) : Int))
    rw [set_up] at hr
    exact ⟨h.eng hT hr { h.ok with up := or_lt _ _ h.ok.up hn }, hT⟩
  clear h
  go_enter Tryz.func41, Tryz.ntmps41
  go_wp2
  go_end0
  exact ⟨rfl, HF.out⟩
theorem lasts_yes (h : AbIs w b T F c S) : Calls Tryz.prog 103 #[.pointer (some ⟨b.E, 0, none⟩), .bool true] w fun e w' => e = .returned (.bool true) ∧ w' = w := by
  clear h
  go_enter Tryz.func103, Tryz.ntmps103
  go_wp2
  go_ret
  exact ⟨rfl, rfl⟩
theorem current_any (h : AbIs w b T F c S) : Calls Tryz.prog 203 #[.pointer (some ⟨b.E, 0, none⟩)] w fun e w' => e = .returned (.int .i64 (S.V 0 : Nat)) ∧ w' = w := by
  have e11 := h.xR
  have HG := Lib.hid (Get_rg h.rg 0)
  have hg : getV S.V 0 = S.V 0 := by
    have : kindV 0 = 1 := by decide
    unfold getV; rw [this]; rfl
  rw [hg] at HG
  have h256 := h.ok.V 0
  clear h hg
  go_enter Tryz.func203, Tryz.ntmps203
  go_wp2_with fail
  refine HG.out.mono ?_
  rintro e w' ⟨rfl, rfl⟩
  go_wp2
  go_ret
  exact ⟨rfl, rfl⟩
def insideB (c : Cf) (S : Ab) (a : Int) (f n : Nat) : Bool := decide ((n : Int) ≤ sizeI c S.now a ∧ (f : Int) ≤ sizeI c S.now a - n)
theorem sizeI_bd {c : Cf} {s : St} (hp : Plain c) (h : StOk c s) (a : Int) : 0 ≤ sizeI c s a ∧ sizeI c s a ≤ 16384 := by
  unfold sizeI
  split
  · exact sizeV_bd hp h _
  · omega
theorem inside_any (h : AbIs w b T F c S) (a : Int) (f n : Nat) (hf : f < 4294967296) (hn : n ≤ 100000) : Calls Tryz.prog 97 #[.pointer (some ⟨b.E, 0, none⟩), .int .i64 a, .int .u32 f, .int .i64 n] w fun e w' => e = .returned (.bool (insideB c S a f n)) ∧ AbIs w' b T F c S ∧ Turns w w' [b.n.T] := by
  have e13 := h.xT
  have HS := Lib.hid (Size_any b.n.T c S.set S.now h.ok.cfg h.ok.now a w h.tb)
  have hbd := sizeI_bd h.ok.cfg.1 h.ok.now a
  have HH := Lib.hid h
  have HI : Hid (insideB c S a f n = decide ((n : Int) ≤ sizeI c S.now a ∧ (f : Int) ≤ sizeI c S.now a - n)) := rfl
  obtain ⟨z, hz⟩ : ∃ z, z = sizeI c S.now a := ⟨_, rfl⟩
  rw [← hz] at HS hbd HI
  obtain ⟨hb0, hb1⟩ := hbd
  clear h hz
  go_enter Tryz.func97, Tryz.ntmps97
  go_wp2_with fail
  refine HS.out.mono ?_
  rintro e w2 ⟨rfl, htb, ht⟩
  have HF : Hid (AbIs w2 b T F c S) := HH.out.tabl ht htb HH.out.ok
  have HT := Lib.hid ht
  clear HS HH htb ht
  by_cases h1 : (n : Int) ≤ z
  · by_cases h2 : (f : Int) ≤ z - n
    · have HE : Hid (insideB c S a f n = true) := by unfold Hid; rw [HI.out]; simp [h1, h2]
      clear HI
      go_wp2
      go_ret
      rw [HE.out]
      exact ⟨rfl, HF.out, HT.out⟩
    · have HE : Hid (insideB c S a f n = false) := by unfold Hid; rw [HI.out]; simp [h2]
      have h2' : decide ((f : Int) ≤ z - (n : Int)) = false := by simp [h2]
      clear HI h2
      go_wp2
      go_ret
      rw [HE.out]
      exact ⟨rfl, HF.out, HT.out⟩
  · have HE : Hid (insideB c S a f n = false) := by unfold Hid; rw [HI.out]; simp [h1]
    have h1' : decide ((n : Int) ≤ z) = false := by simp [h1]
    clear HI h1
    go_wp2
    go_ret
    rw [HE.out]
    exact ⟨rfl, HF.out, HT.out⟩
end
end Go.Proofs.YtclhhdodebdmjaaGreat

namespace Go.Proofs.YtclhhdodebdmjaaGreat
open Go.RowKit Go.MapKept Go.ChangeMaps
set_option linter.unusedVariables false
set_option linter.unusedSimpArgs false
set_option maxRecDepth 100000

theorem u8_and1 (v : Nat) (hv : v < 256) : bits .and .u8 (v : Int) 1 = ((v % 2 : Nat) : Int) :=
  (by decide +kernel : ∀ v : Fin 256, bits .and .u8 ((v : Nat) : Int) 1 = (((v : Nat) % 2 : Nat) : Int)) ⟨v, hv⟩
def guardedB (c : Cf) (S : Ab) (a p : Int) : Bool :=
  if a = 1 then S.V 6 % 2 == 1 else if a = 2 then S.V 6 / 2 % 2 == 1 else if a = 3 then false else !(decide ((0 ≤ p / c.group ∧ p / c.group < S.G.length) ∧ S.G.getD (p / c.group).toNat 0 = 0))
def Ab.forget (S : Ab) (i : Int) : Ab :=
  { S with e := if i = 35 ∨ i = 36 ∨ i = 38 ∨ i = 13 then { S.e with count := 0 } else if i = 23 ∨ i = 18 ∨ i = 25 then { S.e with frm := Option.none, til := Option.none } else { S.e with frm := Option.none, til := Option.none, count := 0 } }
section
variable {w : World} {b : Bn} {T F : List Nat} {c : Cf} {S : Ab}
theorem guarded_1 (h : AbIs w b T F c S) (p : Int) : Calls Tryz.prog 105 #[.pointer (some ⟨b.E, 0, none⟩), .int .i64 1, .int .i64 p] w fun e w' => e = .returned (.bool (S.V 6 % 2 == 1)) ∧ w' = w := by
  have e11 := h.xR
  have HG := Lib.hid (Get_rg h.rg 6)
  have hg : getV S.V 6 = S.V 6 := by
    have : kindV 6 = 3 := by decide
    unfold getV; rw [this]; rfl
  rw [hg] at HG
  have hv := h.ok.V 6
  have hb := u8_and1 _ hv
  clear h hg
  go_enter Tryz.func105, Tryz.ntmps105
  go_wp2_with fail
  refine HG.out.mono ?_
  rintro e w' ⟨rfl, rfl⟩
  have HE : Hid (((S.V 6 : Int) % 2 == 1) = (S.V 6 % 2 == 1)) := by unfold Hid; rw [Bool.eq_iff_iff]; simp; omega
  go_wp2
  go_ret
  exact ⟨by rw [← HE.out]; rfl, rfl⟩
theorem guarded_2 (h : AbIs w b T F c S) (p : Int) : Calls Tryz.prog 105 #[.pointer (some ⟨b.E, 0, none⟩), .int .i64 2, .int .i64 p] w fun e w' => e = .returned (.bool (S.V 6 / 2 % 2 == 1)) ∧ w' = w := by
  have e11 := h.xR
  have HG := Lib.hid (Get_rg h.rg 6)
  have hg : getV S.V 6 = S.V 6 := by
    have : kindV 6 = 3 := by decide
    unfold getV; rw [this]; rfl
  rw [hg] at HG
  have hv := h.ok.V 6
  have hb := u8_and1 (S.V 6 / 2) (by omega)
  rw [show ((S.V 6 / 2 : Nat) : Int) = (S.V 6 : Int) / 2 by omega] at hb
  clear h hg
  go_enter Tryz.func105, Tryz.ntmps105
  go_wp2_with fail
  refine HG.out.mono ?_
  rintro e w' ⟨rfl, rfl⟩
  have HE : Hid ((((S.V 6 / 2 % 2 : Nat) : Int) == 1) = (S.V 6 / 2 % 2 == 1)) := by unfold Hid; rw [Bool.eq_iff_iff]; simp; omega
  go_wp2
  go_ret
  exact ⟨by rw [← HE.out]; rfl, rfl⟩
theorem guarded_3 (h : AbIs w b T F c S) (p : Int) : Calls Tryz.prog 105 #[.pointer (some ⟨b.E, 0, none⟩), .int .i64 3, .int .i64 p] w fun e w' => e = .returned (.bool false) ∧ w' = w := by
  clear h
  go_enter Tryz.func105, Tryz.ntmps105
  go_wp2
  go_ret
  exact ⟨rfl, rfl⟩
theorem guarded_g (h : AbIs w b T F c S) (a p : Int) (h1 : a ≠ 1) (h2 : a ≠ 2) (h3 : a ≠ 3) (hp : 0 ≤ p ∧ p ≤ 100000) : Calls Tryz.prog 105 #[.pointer (some ⟨b.E, 0, none⟩), .int .i64 a, .int .i64 p] w fun e w' => e = .returned (.bool (!(decide ((0 ≤ p / c.group ∧ p / c.group < S.G.length) ∧ S.G.getD (p / c.group).toNat 0 = 0)))) ∧ w' = w.drew := by
  have e12 := h.xG
  have e7 := h.xc6
  have hg := h.ok.cfg.1.group
  have hgl : S.G.length ≤ 256 := by
    have := h.ok.G.1
    have := h.ok.cfg.1.k11
    omega
  have HM := fun W (hW : Turns w W []) => Lib.hid (Grd.May_any b.n.G b.L b.Lc S.G hgl (p / c.group) 0 W (h.turns hW (by simp)).gd h.ok.G.2)
  obtain ⟨g, hgr⟩ : ∃ g, g = c.group := ⟨_, rfl⟩
  rw [← hgr] at HM e7 hg ⊢
  obtain ⟨r, hr⟩ : ∃ r, r = decide ((0 ≤ p / g ∧ p / g < S.G.length) ∧ S.G.getD (p / g).toNat 0 = 0) := ⟨_, rfl⟩
  rw [← hr] at HM ⊢
  have b1 : (a == 1) = false := by simpa using h1
  have b2 : (a == 2) = false := by simpa using h2
  have b3 : (a == 3) = false := by simpa using h3
  obtain ⟨hp0, hp1⟩ := hp
  have hg1 := hg.1
  have k0 : ∀ t : Kept w [], t.u.cell? ⟨b.E, 12, none⟩ = some (.pointer (some ⟨b.n.G, 0, none⟩)) := fun t => t.h.cell (p := ⟨b.E, 12, none⟩) e12 (by simp)
  have k1 : ∀ t : Kept w [], t.u.cell? ⟨b.E, 7, none⟩ = some (.int .i64 g) := fun t => t.h.cell (p := ⟨b.E, 7, none⟩) e7 (by simp)
  clear h h1 h2 h3 hgr hr hg
  go_enter Tryz.func105, Tryz.ntmps105
  go_wp2_with fail
  (refine wp_region_noPanic ?_; refine region_treeW (fun u => ∃ t : Kept w [], u = t.u) (Tn.takes [0, 1, 2, 3, 4, 5, 6, 7, 8, 9, 10] (.one 11 (Tn.takes [12, 13] .nil))) (by kernel_rfl) (by kernel_rfl) (fun _ _ _ _ _ h => h) ⟨⟨_, Turns.of_below (Below.refl _ _).drew _⟩, rfl⟩ ?_; simp only [Tn.takes])
  (repeat ((with_reducible refine wpTree_take (by with_unfolding_all exact rfl) ?_); (with_reducible (show wpQuiet _ _ _ _ (_ :: _) _)); go_big_quiet_step (fail); (with_reducible refine wpQuiet_nil ?_)))
  (with_reducible refine wpTree_one (by with_unfolding_all exact rfl) ?_)
  gi_wp2_with fail
  (first | refine ⟨trivial, ((callsIn_wide (n := 8)).2 ((HM _ (Turns.refl w []).drew).out)).mono ?_⟩ | refine ((callsIn_wide (n := 8)).2 ((HM _ (Turns.refl w []).drew).out)).mono ?_)
  rintro e w' ⟨rfl, rfl⟩
  gi_wp2_with fail
  ((with_reducible refine outQ_normal ?_ ?_); exact ⟨⟨_, (Turns.refl _ _).drew⟩, rfl⟩)
  (repeat ((with_reducible refine wpTree_take (by with_unfolding_all exact rfl) ?_); (with_reducible (show wpQuiet _ _ _ _ (_ :: _) _)); go_big_quiet_step (fail); (with_reducible refine wpQuiet_nil ?_)))
  with_reducible refine wpTree_nil ?_
  refine NoPanic.normal ?_
  go_wp2
  go_ret
  exact ⟨rfl, rfl⟩
theorem guarded_any (h : AbIs w b T F c S) (a p : Int) (hp : 0 ≤ p ∧ p ≤ 100000) : Calls Tryz.prog 105 #[.pointer (some ⟨b.E, 0, none⟩), .int .i64 a, .int .i64 p] w fun e w' => e = .returned (.bool (guardedB c S a p)) ∧ AbIs w' b T F c S ∧ Turns w w' [] := by
  unfold guardedB
  by_cases h1 : a = 1
  · subst h1; rw [if_pos rfl]; exact (guarded_1 h p).mono fun e w' ⟨h1, h2⟩ => ⟨h1, h2 ▸ h, h2 ▸ Turns.refl _ _⟩
  by_cases h2 : a = 2
  · subst h2; rw [if_neg (by decide), if_pos rfl]; exact (guarded_2 h p).mono fun e w' ⟨h1, h2⟩ => ⟨h1, h2 ▸ h, h2 ▸ Turns.refl _ _⟩
  by_cases h3 : a = 3
  · subst h3; rw [if_neg (by decide), if_neg (by decide), if_pos rfl]; exact (guarded_3 h p).mono fun e w' ⟨h1, h2⟩ => ⟨h1, h2 ▸ h, h2 ▸ Turns.refl _ _⟩
  rw [if_neg h1, if_neg h2, if_neg h3]
  exact (guarded_g h a p h1 h2 h3 hp).mono fun e w' ⟨h1, h2⟩ => ⟨h1, h2 ▸ h.drew, h2 ▸ (Turns.refl _ _).drew⟩
theorem forget_35 (h : AbIs w b T F c S) : Calls Tryz.prog 70 #[.pointer (some ⟨b.E, 0, none⟩), .int .i64 35] w fun e w' => e = .returned (.tuple #[]) ∧ AbIs w' b T F c { S with e := { S.e with count := 0 } } ∧ Turns w w' [b.E] := by
  have e17 := h.xCount
  have f17 := h.rE.frozen 17
  have HF : Hid (AbIs (w.setCell ⟨b.E, 17, none⟩ (.int .i64 0)) b T F c { S with e := { S.e with count := 0 } } ∧ Turns w (w.setCell ⟨b.E, 17, none⟩ (.int .i64 0)) [b.E]) := by
    have hT : Turns w (w.setCell ⟨b.E, 17, none⟩ (.int .i64 0)) [b.E] := (Turns.refl _ _).setCell (by simp) _
    have hr := h.rE.put 17 (.int .i64 ((0 : Nat) : Int))
    rw [set_count] at hr
    exact ⟨h.eng hT hr { h.ok with count := by simp }, hT⟩
  clear h
  go_enter Tryz.func70, Tryz.ntmps70
  go_wp2
  go_end0
  exact ⟨rfl, HF.out⟩
theorem forget_36 (h : AbIs w b T F c S) : Calls Tryz.prog 70 #[.pointer (some ⟨b.E, 0, none⟩), .int .i64 36] w fun e w' => e = .returned (.tuple #[]) ∧ AbIs w' b T F c { S with e := { S.e with count := 0 } } ∧ Turns w w' [b.E] := by
  have e17 := h.xCount
  have f17 := h.rE.frozen 17
  have HF : Hid (AbIs (w.setCell ⟨b.E, 17, none⟩ (.int .i64 0)) b T F c { S with e := { S.e with count := 0 } } ∧ Turns w (w.setCell ⟨b.E, 17, none⟩ (.int .i64 0)) [b.E]) := by
    have hT : Turns w (w.setCell ⟨b.E, 17, none⟩ (.int .i64 0)) [b.E] := (Turns.refl _ _).setCell (by simp) _
    have hr := h.rE.put 17 (.int .i64 ((0 : Nat) : Int))
    rw [set_count] at hr
    exact ⟨h.eng hT hr { h.ok with count := by simp }, hT⟩
  clear h
  go_enter Tryz.func70, Tryz.ntmps70
  go_wp2
  go_end0
  exact ⟨rfl, HF.out⟩
theorem forget_38 (h : AbIs w b T F c S) : Calls Tryz.prog 70 #[.pointer (some ⟨b.E, 0, none⟩), .int .i64 38] w fun e w' => e = .returned (.tuple #[]) ∧ AbIs w' b T F c { S with e := { S.e with count := 0 } } ∧ Turns w w' [b.E] := by
  have e17 := h.xCount
  have f17 := h.rE.frozen 17
  have HF : Hid (AbIs (w.setCell ⟨b.E, 17, none⟩ (.int .i64 0)) b T F c { S with e := { S.e with count := 0 } } ∧ Turns w (w.setCell ⟨b.E, 17, none⟩ (.int .i64 0)) [b.E]) := by
    have hT : Turns w (w.setCell ⟨b.E, 17, none⟩ (.int .i64 0)) [b.E] := (Turns.refl _ _).setCell (by simp) _
    have hr := h.rE.put 17 (.int .i64 ((0 : Nat) : Int))
    rw [set_count] at hr
    exact ⟨h.eng hT hr { h.ok with count := by simp }, hT⟩
  clear h
  go_enter Tryz.func70, Tryz.ntmps70
  go_wp2
  go_end0
  exact ⟨rfl, HF.out⟩
theorem forget_13 (h : AbIs w b T F c S) : Calls Tryz.prog 70 #[.pointer (some ⟨b.E, 0, none⟩), .int .i64 13] w fun e w' => e = .returned (.tuple #[]) ∧ AbIs w' b T F c { S with e := { S.e with count := 0 } } ∧ Turns w w' [b.E] := by
  have e17 := h.xCount
  have f17 := h.rE.frozen 17
  have HF : Hid (AbIs (w.setCell ⟨b.E, 17, none⟩ (.int .i64 0)) b T F c { S with e := { S.e with count := 0 } } ∧ Turns w (w.setCell ⟨b.E, 17, none⟩ (.int .i64 0)) [b.E]) := by
    have hT : Turns w (w.setCell ⟨b.E, 17, none⟩ (.int .i64 0)) [b.E] := (Turns.refl _ _).setCell (by simp) _
    have hr := h.rE.put 17 (.int .i64 ((0 : Nat) : Int))
    rw [set_count] at hr
    exact ⟨h.eng hT hr { h.ok with count := by simp }, hT⟩
  clear h
  go_enter Tryz.func70, Tryz.ntmps70
  go_wp2
  go_end0
  exact ⟨rfl, HF.out⟩
theorem forget_23 (h : AbIs w b T F c S) : Calls Tryz.prog 70 #[.pointer (some ⟨b.E, 0, none⟩), .int .i64 23] w fun e w' => e = .returned (.tuple #[]) ∧ AbIs w' b T F c { S with e := { S.e with frm := Option.none, til := Option.none } } ∧ Turns w w' [b.E] := by
  have e20 := h.xFrm
  have f20 := h.rE.frozen 20
  have e21 := h.xTil
  have f21 := h.rE.frozen 21
  have HF : Hid (AbIs ((w.setCell ⟨b.E, 20, none⟩ (.int .i64 (-1))).setCell ⟨b.E, 21, none⟩ (.int .i64 (-1))) b T F c { S with e := { S.e with frm := Option.none, til := Option.none } } ∧ Turns w ((w.setCell ⟨b.E, 20, none⟩ (.int .i64 (-1))).setCell ⟨b.E, 21, none⟩ (.int .i64 (-1))) [b.E]) := by
    have hT : Turns w ((w.setCell ⟨b.E, 20, none⟩ (.int .i64 (-1))).setCell ⟨b.E, 21, none⟩ (.int .i64 (-1))) [b.E] := ((Turns.refl _ _).setCell (by simp) _).setCell (by simp) _
    have hr := (h.rE.put 20 (.int .i64 (optI Option.none))).put 21 (.int .i64 (optI Option.none))
    rw [set_frm, set_til] at hr
    exact ⟨h.eng hT hr { h.ok with frm := by simp, til := by simp }, hT⟩
  clear h
  go_enter Tryz.func70, Tryz.ntmps70
  go_wp2
  go_end0
  exact ⟨rfl, HF.out⟩
theorem forget_18 (h : AbIs w b T F c S) : Calls Tryz.prog 70 #[.pointer (some ⟨b.E, 0, none⟩), .int .i64 18] w fun e w' => e = .returned (.tuple #[]) ∧ AbIs w' b T F c { S with e := { S.e with frm := Option.none, til := Option.none } } ∧ Turns w w' [b.E] := by
  have e20 := h.xFrm
  have f20 := h.rE.frozen 20
  have e21 := h.xTil
  have f21 := h.rE.frozen 21
  have HF : Hid (AbIs ((w.setCell ⟨b.E, 20, none⟩ (.int .i64 (-1))).setCell ⟨b.E, 21, none⟩ (.int .i64 (-1))) b T F c { S with e := { S.e with frm := Option.none, til := Option.none } } ∧ Turns w ((w.setCell ⟨b.E, 20, none⟩ (.int .i64 (-1))).setCell ⟨b.E, 21, none⟩ (.int .i64 (-1))) [b.E]) := by
    have hT : Turns w ((w.setCell ⟨b.E, 20, none⟩ (.int .i64 (-1))).setCell ⟨b.E, 21, none⟩ (.int .i64 (-1))) [b.E] := ((Turns.refl _ _).setCell (by simp) _).setCell (by simp) _
    have hr := (h.rE.put 20 (.int .i64 (optI Option.none))).put 21 (.int .i64 (optI Option.none))
    rw [set_frm, set_til] at hr
    exact ⟨h.eng hT hr { h.ok with frm := by simp, til := by simp }, hT⟩
  clear h
  go_enter Tryz.func70, Tryz.ntmps70
  go_wp2
  go_end0
  exact ⟨rfl, HF.out⟩
theorem forget_25 (h : AbIs w b T F c S) : Calls Tryz.prog 70 #[.pointer (some ⟨b.E, 0, none⟩), .int .i64 25] w fun e w' => e = .returned (.tuple #[]) ∧ AbIs w' b T F c { S with e := { S.e with frm := Option.none, til := Option.none } } ∧ Turns w w' [b.E] := by
  have e20 := h.xFrm
  have f20 := h.rE.frozen 20
  have e21 := h.xTil
  have f21 := h.rE.frozen 21
  have HF : Hid (AbIs ((w.setCell ⟨b.E, 20, none⟩ (.int .i64 (-1))).setCell ⟨b.E, 21, none⟩ (.int .i64 (-1))) b T F c { S with e := { S.e with frm := Option.none, til := Option.none } } ∧ Turns w ((w.setCell ⟨b.E, 20, none⟩ (.int .i64 (-1))).setCell ⟨b.E, 21, none⟩ (.int .i64 (-1))) [b.E]) := by
    have hT : Turns w ((w.setCell ⟨b.E, 20, none⟩ (.int .i64 (-1))).setCell ⟨b.E, 21, none⟩ (.int .i64 (-1))) [b.E] := ((Turns.refl _ _).setCell (by simp) _).setCell (by simp) _
    have hr := (h.rE.put 20 (.int .i64 (optI Option.none))).put 21 (.int .i64 (optI Option.none))
    rw [set_frm, set_til] at hr
    exact ⟨h.eng hT hr { h.ok with frm := by simp, til := by simp }, hT⟩
  clear h
  go_enter Tryz.func70, Tryz.ntmps70
  go_wp2
  go_end0
  exact ⟨rfl, HF.out⟩
theorem forget_else (h : AbIs w b T F c S) (i : Int) (h1 : (i == 35) = false) (h2 : (i == 36) = false) (h3 : (i == 38) = false) (h4 : (i == 13) = false) (h5 : (i == 23) = false) (h6 : (i == 18) = false) (h7 : (i == 25) = false) :
    Calls Tryz.prog 70 #[.pointer (some ⟨b.E, 0, none⟩), .int .i64 i] w fun e w' => e = .returned (.tuple #[]) ∧ AbIs w' b T F c { S with e := { S.e with frm := Option.none, til := Option.none, count := 0 } } ∧ Turns w w' [b.E] := by
  have e20 := h.xFrm
  have f20 := h.rE.frozen 20
  have e21 := h.xTil
  have f21 := h.rE.frozen 21
  have e17 := h.xCount
  have f17 := h.rE.frozen 17
  have HF : Hid (AbIs (((w.setCell ⟨b.E, 20, none⟩ (.int .i64 (-1))).setCell ⟨b.E, 21, none⟩ (.int .i64 (-1))).setCell ⟨b.E, 17, none⟩ (.int .i64 0)) b T F c { S with e := { S.e with frm := Option.none, til := Option.none, count := 0 } } ∧ Turns w (((w.setCell ⟨b.E, 20, none⟩ (.int .i64 (-1))).setCell ⟨b.E, 21, none⟩ (.int .i64 (-1))).setCell ⟨b.E, 17, none⟩ (.int .i64 0)) [b.E]) := by
    have hT : Turns w (((w.setCell ⟨b.E, 20, none⟩ (.int .i64 (-1))).setCell ⟨b.E, 21, none⟩ (.int .i64 (-1))).setCell ⟨b.E, 17, none⟩ (.int .i64 0)) [b.E] := (((Turns.refl _ _).setCell (by simp) _).setCell (by simp) _).setCell (by simp) _
    have hr := ((h.rE.put 20 (.int .i64 (optI Option.none))).put 21 (.int .i64 (optI Option.none))).put 17 (.int .i64 ((0 : Nat) : Int))
    rw [set_frm, set_til, set_count] at hr
    exact ⟨h.eng hT hr { h.ok with frm := by simp, til := by simp, count := by simp }, hT⟩
  clear h
  go_enter Tryz.func70, Tryz.ntmps70
  go_wp2
  go_end0
  exact ⟨rfl, HF.out⟩
theorem forget_any (h : AbIs w b T F c S) (i : Int) : Calls Tryz.prog 70 #[.pointer (some ⟨b.E, 0, none⟩), .int .i64 i] w fun e w' => e = .returned (.tuple #[]) ∧ AbIs w' b T F c (S.forget i) ∧ Turns w w' [b.E] := by
  unfold Ab.forget
  by_cases ha : i = 35 ∨ i = 36 ∨ i = 38 ∨ i = 13
  · rw [if_pos ha]
    rcases ha with rfl | rfl | rfl | rfl
    · exact forget_35 h
    · exact forget_36 h
    · exact forget_38 h
    · exact forget_13 h
  rw [if_neg ha]
  by_cases hb : i = 23 ∨ i = 18 ∨ i = 25
  · rw [if_pos hb]
    rcases hb with rfl | rfl | rfl
    · exact forget_23 h
    · exact forget_18 h
    · exact forget_25 h
  rw [if_neg hb]
  simp only [not_or] at ha hb
  exact forget_else h i (by simpa using ha.1) (by simpa using ha.2.1) (by simpa using ha.2.2.1) (by simpa using ha.2.2.2) (by simpa using hb.1) (by simpa using hb.2.1) (by simpa using hb.2.2)
def nilAn : Array Value := #[.bool false, .slice none 0 0, .int .u32 0, .slice none 0 0]
def stN (S : Ab) : Nat := (S.s.toNat * 512 ||| 256) ||| S.e.up
def Ab.told (S : Ab) : Ab := { S with e := { S.e with up := 0 } }
theorem status_any (h : AbIs w b T F c S) : Calls Tryz.prog 147 #[.pointer (some ⟨b.E, 0, none⟩)] w fun e w' => e = .returned (.agg #[.bool false, .slice none 0 0, .int .u32 (stN S : Nat), .slice none 0 0]) ∧ AbIs w' b T F c S.told ∧ Turns w w' [b.E] := by
  obtain ⟨wA, hwA⟩ : ∃ wA, wA = w.alloc (.cells nilAn 56) := ⟨_, rfl⟩
  have hbA : Below w.heap.size w wA := by rw [hwA]; (repeat (first | (with_reducible refine Below.drew ?_) | (with_reducible refine below_drewN0 ?_ _) | ((with_reducible refine Below.setCell ?_ ?_ _); rotate_left; focus (first | omega | (simp; done) | (simp; omega) | (simp at *; omega))) | ((with_reducible refine Below.alloc ?_ ?_ _); rotate_left; focus (first | omega | (simp; done) | (simp; omega) | (simp at *; omega))) | (with_reducible exact Below.refl _ _)))
  have hRA : Row wA w.heap.size 56 nilAn := by rw [hwA]; exact Row.fresh _ _ _
  have hA := h.below hbA
  have HA := Lib.hid hA
  have HRA := Lib.hid hRA
  have HBA := Lib.hid hbA
  have k0 : ∀ t : Kept wA [], t.u.cell? ⟨b.E, 0, none⟩ = some (.pointer (some ⟨b.n.P, 0, none⟩)) := fun t => (HA.out.turns t.h (by simp)).xP
  have k1 : ∀ t : Kept wA [], t.u.cell? ⟨b.E, 16, none⟩ = some (.int .u32 S.e.up) := fun t => (HA.out.turns t.h (by simp)).xUp
  have HP := Lib.hid (State_ph HA.out.drew.ph)
  have hst : 0 ≤ S.s ∧ S.s ≤ 6 := by have := h.ok.st; simp [statesL] at this; omega
  obtain ⟨hs0, hs6⟩ := hst
  have HL : Hid ((∀ k ∈ T, k < w.heap.size) ∧ ∀ k ∈ F, k < w.heap.size) := ⟨h.Tlt, h.Flt⟩
  have HV : Hid (bits .or .u32 (bits .or .u32 (S.s * 512) 256) (S.e.up : Int) = ((stN S : Nat) : Int)) := by
    have e1 : S.s * 512 = ((S.s.toNat * 512 : Nat) : Int) := by omega
    unfold Hid
    rw [e1, show (256 : Int) = ((256 : Nat) : Int) from rfl, u32_or _ _ (by omega) (by omega), u32_or _ _ (or_lt _ _ (by omega) (by omega)) h.ok.up]
    rfl
  clear h hA hRA hbA
  unfold nilAn at hwA
  go_enter Tryz.func147, Tryz.ntmps147
  go_wp2_with fail
  rw [← hwA]
  clear hwA
  (refine wp_region_noPanic ?_; refine region_treeW (fun u => ∃ t : Kept wA [], u = t.u) (Tn.takes [0, 1, 2, 3, 8, 9, 10, 11] (.one 4 (Tn.takes [5, 6, 7, 12, 13] .nil))) (by kernel_rfl) (by kernel_rfl) (fun _ _ _ _ _ h => h) ⟨⟨_, Turns.of_below (Below.refl _ _).drew _⟩, rfl⟩ ?_; simp only [Tn.takes])
  (repeat ((with_reducible refine wpTree_take (by with_unfolding_all exact rfl) ?_); (with_reducible (show wpQuiet _ _ _ _ (_ :: _) _)); go_big_quiet_step (fail); (with_reducible refine wpQuiet_nil ?_)))
  (with_reducible refine wpTree_one (by with_unfolding_all exact rfl) ?_)
  clear k0 k1
  gi_wp2_with fail
  (first | refine ⟨trivial, ((callsIn_wide (n := 8)).2 (HP.out)).mono ?_⟩ | refine ((callsIn_wide (n := 8)).2 (HP.out)).mono ?_)
  rintro e w1 ⟨rfl, rfl⟩
  gi_wp2_with fail
  ((with_reducible refine outQ_normal ?_ ?_); exact ⟨⟨_, (Turns.refl _ _).drew⟩, rfl⟩)
  (repeat ((with_reducible refine wpTree_take (by with_unfolding_all exact rfl) ?_); (with_reducible (show wpQuiet _ _ _ _ (_ :: _) _)); go_big_quiet_step (fail); (with_reducible refine wpQuiet_nil ?_)))
  with_reducible refine wpTree_nil ?_
  refine NoPanic.normal ?_
  have HV' := HV.out
  rw [HV']
  clear HV'
  have HA1 := Lib.hid HA.out.drew
  have HR1 : Hid (Row wA.drew w.heap.size 56 nilAn) := HRA.out.drewN 1
  have HT1 : Hid (Turns w wA.drew []) := (Turns.of_below HBA.out []).drew
  clear HP HA HRA HBA
  generalize wA.drew = w1 at *
  have e16 := HA1.out.xUp
  have f16 := HA1.out.rE.frozen 16
  have n0 : w1.cell? ⟨w.heap.size, 0, none⟩ = some (.bool false) := by rw [HR1.out.cell]; rfl
  have n1 : w1.cell? ⟨w.heap.size, 1, none⟩ = some (.slice none 0 0) := by rw [HR1.out.cell]; rfl
  have n2 : w1.cell? ⟨w.heap.size, 2, none⟩ = some (.int .u32 0) := by rw [HR1.out.cell]; rfl
  have n3 : w1.cell? ⟨w.heap.size, 3, none⟩ = some (.slice none 0 0) := by rw [HR1.out.cell]; rfl
  have g0 := HR1.out.frozen 0
  have g1 := HR1.out.frozen 1
  have g2 := HR1.out.frozen 2
  have g3 := HR1.out.frozen 3
  have hne : w.heap.size ≠ b.E := HR1.out.ne_type HA1.out.rE (by decide)
  have hT0 : Turns w1 (w1.setCell ⟨b.E, 16, none⟩ (.int .u32 0)) [b.E] := (Turns.refl _ _).setCell (by simp) _
  have hA2 : AbIs (w1.setCell ⟨b.E, 16, none⟩ (.int .u32 0)) b T F c S.told := by
    have hr := HA1.out.rE.put 16 (.int .u32 ((0 : Nat) : Int))
    rw [set_up] at hr
    exact HA1.out.eng hT0 hr { HA1.out.ok with up := by simp }
  have HX : Hid (AbIs (((((w1.setCell ⟨b.E, 16, none⟩ (.int .u32 0)).setCell ⟨w.heap.size, 0, none⟩ (.bool false)).setCell ⟨w.heap.size, 1, none⟩ (.slice none 0 0)).setCell ⟨w.heap.size, 2, none⟩ (.int .u32 (stN S : Nat))).setCell ⟨w.heap.size, 3, none⟩ (.slice none 0 0)) b T F c S.told) := by
    refine hA2.turns (U := [w.heap.size]) (((((Turns.refl _ _).setCell (by simp) _).setCell (by simp) _).setCell (by simp) _).setCell (by simp) _) (fun k hk => ?_)
    obtain rfl := List.mem_singleton.1 hk
    exact ⟨fun hm => by have := HL.out.1 _ hm; omega, fun hm => by have := HL.out.2 _ hm; omega⟩
  have HY : Hid (Turns w (((((w1.setCell ⟨b.E, 16, none⟩ (.int .u32 0)).setCell ⟨w.heap.size, 0, none⟩ (.bool false)).setCell ⟨w.heap.size, 1, none⟩ (.slice none 0 0)).setCell ⟨w.heap.size, 2, none⟩ (.int .u32 (stN S : Nat))).setCell ⟨w.heap.size, 3, none⟩ (.slice none 0 0)) [b.E]) :=
    ((((((HT1.out.mono (by simp)).setCell (.inl (by simp)) _).setCell (.inr (Nat.le_refl _)) _).setCell (.inr (Nat.le_refl _)) _).setCell (.inr (Nat.le_refl _)) _).setCell (.inr (Nat.le_refl _)) _)
  have HZ : Hid (Row (((((w1.setCell ⟨b.E, 16, none⟩ (.int .u32 0)).setCell ⟨w.heap.size, 0, none⟩ (.bool false)).setCell ⟨w.heap.size, 1, none⟩ (.slice none 0 0)).setCell ⟨w.heap.size, 2, none⟩ (.int .u32 (stN S : Nat))).setCell ⟨w.heap.size, 3, none⟩ (.slice none 0 0)) w.heap.size 56 #[.bool false, .slice none 0 0, .int .u32 (stN S : Nat), .slice none 0 0]) := by
    have := ((((HR1.out.far (p := ⟨b.E, 16, none⟩) hne (.int .u32 0)).put 0 (.bool false)).put 1 (.slice none 0 0)).put 2 (.int .u32 (stN S : Nat))).put 3 (.slice none 0 0)
    unfold Hid; simpa [nilAn] using this
  clear hA2 hT0 HA1 HR1 HT1
  go_wp2
  refine bodyPost_ret (v := .agg #[.bool false, .slice none 0 0, .int .u32 (stN S : Nat), .slice none 0 0]) (results_cell_row rfl _ _ w.heap.size 56 _ (0, 0) _ rfl HZ.out Tryz.underlying56 rfl (by kernel_rfl)) rfl ⟨rfl, HX.out, HY.out⟩
end
end Go.Proofs.YtclhhdodebdmjaaGreat

namespace Go.Proofs.YtclhhdodebdmjaaGreat
open Go.RowKit Go.MapKept Go.ChangeMaps
set_option linter.unusedVariables false
set_option linter.unusedSimpArgs false
set_option maxRecDepth 100000

/-- What lasts at a place. -/
def durL (c : Cf) (S : Ab) (p : Nat) : List Nat := (S.has p).getD (List.replicate c.sector.toNat 0)
theorem zeros_row (n : Nat) : madeCells #[Value.int .u8 0] n = (intsV .u8 (List.replicate n 0)).toArray := by
  apply Array.ext
  · simp [madeCells, intsV]
  · intro i h1 h2; simp [madeCells, intsV, Nat.mod_one]
theorem own_zeros (w : World) (n : Nat) (hn : n ≤ maxLen) : (w.alloc (.cells (intsV .u8 (List.replicate n 0)).toArray 5)).ownsRow w.heap.size 5 1 (.slice (some ⟨w.heap.size, 0, none⟩) n n) n (intsV .u8 (List.replicate n 0)) :=
  ⟨by simp [intsV], .inr ⟨w.heap.size, n, (intsV .u8 (List.replicate n 0)).toArray, rfl, Nat.le_refl _, heap_alloc_new w _, Nat.le_refl _, hn, by simp [intsV], by simp [intsV]⟩⟩
theorem make_bytes (n : Nat) (hn : n ≤ 100000) (v : World) : (Instr.makeSlice 53 (.int .i64 (n : Int)) (.int .i64 (n : Int))).run Tryz.prog v = .ok (.slice (some ⟨v.heap.size, 0, none⟩) n n) (v.alloc (.cells (intsV .u8 (List.replicate n 0)).toArray 5)) := by
  obtain ⟨i, hi, hz0, hz1, hz2⟩ := info_parts Grd.u8_info
  rw [← zeros_row]
  exact run_make_row (P := Tryz.prog) 53 5 i _ Tryz.underlying53 hi hz0 hz1 rfl .i64 .i64 n (by rw [hz2]; omega) (by omega) v
theorem eql_nilB (w : World) (a : Option Addr) (n c n' c' : Nat) : (binOp .eql 53 (.slice a n c) (.slice none n' c')).run Tryz.prog w = .ok (.bool a.isNone) w := Lib.run_eql_slice_nil w _ _ a n c n' c' Tryz.underlying53
section
variable {w : World} {b : Bn} {T F : List Nat} {c : Cf} {S : Ab}
/-- A slice of bytes in new memory. -/
def Fresh (w w' : World) (v : Value) (l : List Nat) : Prop := ∃ A n, v = .slice A l.length n ∧ w'.ownsRow w.heap.size 5 1 (.slice A l.length n) l.length (intsV .u8 l)
theorem memSector_any (h : AbIs w b T F c S) (p : Nat) (hp : p < (totalI c).toNat) : Calls Tryz.prog 320 #[.pointer (some ⟨b.n.D, 0, none⟩), .int .i64 p] w fun e w' => ∃ v, e = .returned (.tuple #[v, .bool true]) ∧ Fresh w w' v (durL c S p) ∧ Below w.heap.size w w' := by
  obtain ⟨dv, hd, hh⟩ := h.lb
  have hsec := h.ok.cfg.1.sector
  have ht : totalI c ≤ 17152 := by
    have hu := h.ok.cfg.1.user; have hb := h.ok.cfg.1.boot; have hr := h.ok.cfg.1.rpa
    unfold totalI; omega
  have c0 : w.cell? ⟨b.n.D, 0, none⟩ = some (.int .i64 c.sector) := by rw [h.rD.cell]; rfl
  have c1 : w.cell? ⟨b.n.D, 1, none⟩ = some (.slice (some ⟨b.LB, 0, none⟩) (totalI c).toNat (totalI c).toNat) := by rw [h.rD.cell]; rfl
  have cp : w.cell? ⟨b.LB, p, none⟩ = some (dv p) := by rw [hd.cell]; simp [hp]
  have hv := hh p hp
  obtain ⟨tn, htn⟩ : ∃ tn, tn = (totalI c).toNat := ⟨_, rfl⟩
  rw [← htn] at c1 hp
  obtain ⟨sn, hsn⟩ : ∃ sn : Nat, c.sector = sn := ⟨c.sector.toNat, by omega⟩
  have hq := eql_nilB
  have htn2 : tn ≤ 17152 := by omega
  cases hs : S.has p with
  | none =>
    rw [hs] at hv
    rw [show dv p = .slice none 0 0 from hv] at cp
    have HD : Hid (durL c S p = List.replicate sn 0) := by unfold Hid durL; rw [hs, hsn]; rfl
    rw [hsn] at c0 hsec
    have hmk := fun v => make_bytes sn (by omega) v
    have HO := Lib.hid (own_zeros w sn (by unfold maxLen; omega))
    clear h hh hd hv hs hsn htn ht
    go_enter Tryz.func320, Tryz.ntmps320
    go_wp2
    go_ret2
    refine ⟨.slice (some ⟨w.heap.size, 0, none⟩) sn sn, rfl, ?_, by (repeat (first | (with_reducible refine Below.drew ?_) | (with_reducible refine below_drewN0 ?_ _) | ((with_reducible refine Below.setCell ?_ ?_ _); rotate_left; focus (first | omega | (simp; done) | (simp; omega) | (simp at *; omega))) | ((with_reducible refine Below.alloc ?_ ?_ _); rotate_left; focus (first | omega | (simp; done) | (simp; omega) | (simp at *; omega))) | (with_reducible exact Below.refl _ _)))⟩
    rw [HD.out]
    exact ⟨some ⟨w.heap.size, 0, none⟩, sn, by rw [List.length_replicate], by rw [List.length_replicate]; exact HO.out⟩
  | some l =>
    rw [hs] at hv
    obtain ⟨hdat, hlen⟩ := hv
    have HD : Hid (durL c S p = l) := by unfold Hid durL; rw [hs]; rfl
    obtain ⟨g, n, hv⟩ : ∃ g n, dv p = .slice (some ⟨g, 0, none⟩) l.length n := by
      rcases hdat.own.2 with ⟨e, h0⟩ | ⟨g, cap, cur, e, _⟩
      · omega
      · exact ⟨_, _, e⟩
    rw [hv] at cp
    have hown := hdat.own
    rw [hv] at hown
    have HC := Lib.hid (Vca.CloneB_any (some ⟨g, 0, none⟩) l.length n (intsV .u8 l) hdat.short w (Src.of_own hown) (intsV_one .u8 l))
    obtain ⟨m, hm⟩ : ∃ m, m = l.length := ⟨_, rfl⟩
    rw [← hm] at HC cp
    have HM := Lib.hid hm
    clear h hh hd hdat hown hs hsn htn ht hv hlen hm
    go_enter Tryz.func320, Tryz.ntmps320
    go_wp2_with fail
    refine HC.out.mono ?_
    rintro e w' ⟨A', c', rfl, ho, hb⟩
    have HO := Lib.hid ho
    have HB := Lib.hid hb
    clear HC ho hb
    go_wp2
    go_ret2
    refine ⟨.slice A' m c', rfl, ?_, HB.out⟩
    rw [HD.out]
    exact ⟨A', c', by rw [HM.out], by rw [← HM.out]; exact HO.out⟩
/-- What a place tells. -/
def findQ (q : List Kx) (a s : Int) : Option Kx := q.reverse.find? fun x => decide (x.a = a ∧ x.s = s)
def sectorL (c : Cf) (S : Ab) (a s : Int) (p : Nat) : List Nat := match findQ S.q a s with | some x => x.l | Option.none => durL c S p
theorem find_items (items : List Vca.It) (a s : Int) : findQ (items.map kxOf) a s = (items.reverse.find? (Vca.dropP a s)).map kxOf := by
  unfold findQ
  rw [← List.map_reverse, List.find?_map]
  rfl
theorem mt_Sector (D M : Nat) (w : World) : (Go.method 495 133 (.agg #[.pointer (some ⟨D, 0, none⟩), .pointer (some ⟨M, 0, none⟩)]) "Sector").run Tryz.prog w = .ok (320, .pointer (some ⟨D, 0, none⟩)) w := by kernel_rfl
theorem nl_Sector (D M : Nat) (w : World) : (nilAhead 495 133 (.agg #[.pointer (some ⟨D, 0, none⟩), .pointer (some ⟨M, 0, none⟩)]) "Sector").run Tryz.prog w = .ok (some false) w := by kernel_rfl
theorem sector_any (h : AbIs w b T F c S) (a s : Int) (p : Nat) (hp : p < (totalI c).toNat) (ha : Vca.W64 a) (hs : Vca.W64 s) :
    Calls Tryz.prog 47 #[.pointer (some ⟨b.E, 0, none⟩), .int .i64 a, .int .i64 s, .int .i64 p] w fun e w' => ∃ v, e = .returned v ∧ Fresh w w' v (sectorL c S a s p) ∧ Below w.heap.size w w' := by
  have e15 := h.xC
  have e10 := h.xSt
  have HH := Lib.hid h
  obtain ⟨items, hq, he, hqF⟩ := h.q
  have HG := Lib.hid (Vca.Get_any 0 b.n.C b.mb c.cache.toNat b.cA b.A items S.qg a s w hq ha hs)
  have HFi := Lib.hid (find_items items a s)
  have HE := Lib.hid he
  have hmt := mt_Sector b.n.D b.n.M
  have hnl := nl_Sector b.n.D b.n.M
  unfold Vca.GetPost at HG
  clear h hq he hqF ha hs
  go_enter Tryz.func47, Tryz.ntmps47
  go_wp2_with fail
  refine HG.out.mono ?_
  rintro e w1 ⟨hr, hb⟩
  cases hf : items.reverse.find? (Vca.dropP a s) with
  | some x =>
    rw [hf] at hr
    obtain ⟨A', c', rfl, ho⟩ := hr
    have HS : Hid (sectorL c S a s p = x.l) := by
      have := HFi.out
      rw [hf] at this
      unfold Hid sectorL; rw [← HE.out, this]; rfl
    have HO := Lib.hid ho
    have HB := Lib.hid hb
    clear HG HFi hf ho hb HE
    go_wp2
    go_ret
    refine ⟨.slice A' x.l.length c', rfl, ?_, HB.out⟩
    rw [HS.out]
    exact ⟨A', c', rfl, HO.out⟩
  | none =>
    rw [hf] at hr
    subst hr
    have HS : Hid (sectorL c S a s p = durL c S p) := by
      have := HFi.out
      rw [hf] at this
      unfold Hid sectorL; rw [← HE.out, this]; rfl
    have hA1 := HH.out.below hb
    have HM := Lib.hid (memSector_any hA1 p hp)
    have e10' := hA1.xSt
    have HB := Lib.hid hb
    have HA1 := Lib.hid hA1
    clear HG HFi hf hb HE hA1 e15 e10
    go_wp2_with fail
    refine HM.out.mono ?_
    rintro e w2 ⟨v, rfl, hf2, hb2⟩
    have HF2 := Lib.hid hf2
    have HB2 : Hid (Below w.heap.size w w2) := HB.out.trans (hb2.mono HB.out.size)
    have HL := Lib.hid (lasts_yes (HA1.out.below hb2))
    have HW := HB.out.size
    clear HM hf2 hb2 hmt hnl
    go_wp2_with fail
    refine HL.out.mono ?_
    rintro e w3 ⟨rfl, rfl⟩
    go_wp2
    go_ret
    refine ⟨v, rfl, ?_, HB2.out⟩
    obtain ⟨A, n, e1, e2⟩ := HF2.out
    rw [HS.out]
    exact ⟨A, n, e1, own_mono e2 HW⟩
/-- What a place of the card tells. -/
def placeL (c : Cf) (S : Ab) (p : Nat) : List Nat := match ofI c S.now p with | some x => sectorL c S x.1 x.2 p | Option.none => sectorL c S 0 0 p
theorem ofI_bd {c : Cf} {t : St} {p : Int} {a : Nat} {s : Int} (h : ofI c t p = some (a, s)) : a < 8 ∧ s = p - firstV c t a ∧ 0 ≤ s ∧ s < sizeV c t a := by
  unfold ofI at h
  obtain ⟨x, hx, e⟩ := Option.map_eq_some_iff.1 h
  injection e with e1 e2
  subst e1; subst e2
  have h1 := List.find?_some hx
  have h2 := List.mem_of_find?_eq_some hx
  simp only [decide_eq_true_eq] at h1
  simp [orderL] at h2
  refine ⟨by omega, rfl, by omega, h1.2⟩
theorem ofW_shape (c : Cf) (t : St) (p : Int) : ∃ (a : Nat) (s : Int) (k : Bool), ofW c t p = .tuple #[.int .i64 a, .int .i64 s, .bool k] ∧ (ofI c t p = some (a, s) ∨ ofI c t p = Option.none ∧ a = 0 ∧ s = 0) := by
  unfold ofW
  cases h : ofI c t p with
  | none => exact ⟨0, 0, false, rfl, .inr ⟨rfl, rfl, rfl⟩⟩
  | some x => exact ⟨x.1, x.2, true, rfl, .inl rfl⟩
theorem W64_of {x : Int} (h : -100000 ≤ x ∧ x ≤ 100000) : Vca.W64 x := (Vca.W64.iff x).2 (by omega)
theorem Sector_any (h : AbIs w b T F c S) (p : Nat) (hp : p < (totalI c).toNat) :
    Calls Tryz.prog 18 #[.pointer (some ⟨b.n.M, 0, none⟩), .int .i64 p] w fun e w' => ∃ v, e = .returned v ∧ Fresh w w' v (placeL c S p) ∧ AbIs w' b T F c S ∧ Turns w w' [b.n.T] := by
  have ht : totalI c ≤ 17152 := by
    have hu := h.ok.cfg.1.user; have hb := h.ok.cfg.1.boot; have hr := h.ok.cfg.1.rpa
    unfold totalI; omega
  have HO := Lib.hid (Of_any b.n.T c S.set S.now h.ok.cfg h.ok.now p (by omega) (by omega) w h.tb)
  obtain ⟨a, s, k, ew, hw⟩ := ofW_shape c S.now p
  rw [ew] at HO
  have hbd : a < 8 ∧ 0 ≤ s ∧ s ≤ 16384 := by
    rcases hw with hw | ⟨_, rfl, rfl⟩
    · have h1 := ofI_bd hw
      have h2 := sizeV_bd h.ok.cfg.1 h.ok.now a
      omega
    · omega
  have HP : Hid (placeL c S p = sectorL c S a s p) := by
    unfold Hid placeL
    rcases hw with hw | ⟨hw, rfl, rfl⟩
    · rw [hw]
    · rw [hw]; rfl
  have HH := Lib.hid h
  have m0 : w.cell? ⟨b.n.M, 0, none⟩ = some (.pointer (some ⟨b.E, 0, none⟩)) := by rw [h.rM.cell]; rfl
  have m1 : w.cell? ⟨b.n.M, 1, none⟩ = some (.pointer (some ⟨b.n.D, 0, none⟩)) := by rw [h.rM.cell]; rfl
  have d1 : w.cell? ⟨b.n.D, 1, none⟩ = some (.slice (some ⟨b.LB, 0, none⟩) (totalI c).toNat (totalI c).toNat) := by rw [h.rD.cell]; rfl
  have e13 := h.xT
  obtain ⟨tn, htn⟩ : ∃ tn, tn = (totalI c).toNat := ⟨_, rfl⟩
  have hp' := hp
  rw [← htn] at d1 hp
  have htn2 : tn ≤ 17152 := by omega
  have HPp := Lib.hid hp'
  clear h ht hw ew hp' htn
  go_enter Tryz.func18, Tryz.ntmps18
  go_wp2_with fail
  refine HO.out.mono ?_
  rintro e w1 ⟨rfl, hr, hT⟩
  have hA1 : AbIs w1 b T F c S := HH.out.tabl hT ⟨_, hr⟩ HH.out.ok
  have HS := Lib.hid (sector_any hA1 a s p HPp.out (W64_of (by omega)) (W64_of (by omega)))
  have HA1 := Lib.hid hA1
  have HT1 := Lib.hid hT
  have m0' : w1.cell? ⟨b.n.M, 0, none⟩ = some (.pointer (some ⟨b.E, 0, none⟩)) := by rw [hA1.rM.cell]; rfl
  clear HO hr hT hA1 m0 m1 d1 e13
  go_wp2_with fail
  refine HS.out.mono ?_
  rintro e w2 ⟨v, rfl, hf, hb⟩
  have HX : Hid (∃ v', v = v' ∧ Fresh w w2 v' (placeL c S p) ∧ AbIs w2 b T F c S ∧ Turns w w2 [b.n.T]) := by
    obtain ⟨A, n, e1, e2⟩ := hf
    refine ⟨v, rfl, ?_, HA1.out.below hb, HT1.out.then_below hb⟩
    rw [HP.out]
    exact ⟨A, n, e1, own_mono e2 HT1.out.size⟩
  clear HS hf hb HA1 HT1 HP
  go_wp2
  go_ret
  obtain ⟨v', e1, e2⟩ := HX.out
  subst e1
  exact ⟨v, rfl, e2⟩
end
end Go.Proofs.YtclhhdodebdmjaaGreat

namespace Go.Proofs.YtclhhdodebdmjaaGreat
open Go.RowKit Go.MapKept Go.ChangeMaps
set_option linter.unusedVariables false
set_option linter.unusedSimpArgs false
set_option maxRecDepth 100000

def Ab.one (S : Ab) (i : Int) : Bool := (i != 18 && i != 25) || S.e.count == 0
def Ab.manyN (S : Ab) (i : Int) : Nat := if S.one i then 1 else S.e.count
def Ab.many (S : Ab) (i : Int) : Ab := { S with e := if S.one i then { S.e with count := 0, rel := false, pack := false } else { S.e with count := 0 } }
section
variable {w : World} {b : Bn} {T F : List Nat} {c : Cf} {S : Ab}
theorem many_else (h : AbIs w b T F c S) (i : Int) (h1 : (i != 18) = true) (h2 : (i != 25) = true) : Calls Tryz.prog 202 #[.pointer (some ⟨b.E, 0, none⟩), .int .i64 i] w fun e w' => e = .returned (.int .i64 1) ∧ AbIs w' b T F c { S with e := { S.e with count := 0, rel := false, pack := false } } ∧ Turns w w' [b.E] := by
    have e17 := h.xCount
    have f17 := h.rE.frozen 17
    have e18 := h.xRel
    have f18 := h.rE.frozen 18
    have e19 := h.xPack
    have f19 := h.rE.frozen 19
    have HF : Hid (AbIs (((w.setCell ⟨b.E, 17, none⟩ (.int .i64 0)).setCell ⟨b.E, 18, none⟩ (.bool false)).setCell ⟨b.E, 19, none⟩ (.bool false)) b T F c { S with e := { S.e with count := 0, rel := false, pack := false } } ∧ Turns w (((w.setCell ⟨b.E, 17, none⟩ (.int .i64 0)).setCell ⟨b.E, 18, none⟩ (.bool false)).setCell ⟨b.E, 19, none⟩ (.bool false)) [b.E]) := by
      have hT : Turns w (((w.setCell ⟨b.E, 17, none⟩ (.int .i64 0)).setCell ⟨b.E, 18, none⟩ (.bool false)).setCell ⟨b.E, 19, none⟩ (.bool false)) [b.E] := (((Turns.refl _ _).setCell (by simp) _).setCell (by simp) _).setCell (by simp) _
      have hr := ((h.rE.put 17 (.int .i64 ((0 : Nat) : Int))).put 18 (.bool false)).put 19 (.bool false)
      rw [set_count, set_rel, set_pack] at hr
      exact ⟨h.eng hT hr { h.ok with count := by simp }, hT⟩
    clear h
    go_enter Tryz.func202, Tryz.ntmps202
    go_wp2
    go_ret
    exact ⟨rfl, HF.out⟩
theorem many_18z (h : AbIs w b T F c S) (hz : ((S.e.count : Int) == 0) = true) : Calls Tryz.prog 202 #[.pointer (some ⟨b.E, 0, none⟩), .int .i64 18] w fun e w' => e = .returned (.int .i64 1) ∧ AbIs w' b T F c { S with e := { S.e with count := 0, rel := false, pack := false } } ∧ Turns w w' [b.E] := by
    have e17 := h.xCount
    have f17 := h.rE.frozen 17
    have e18 := h.xRel
    have f18 := h.rE.frozen 18
    have e19 := h.xPack
    have f19 := h.rE.frozen 19
    have HF : Hid (AbIs (((w.setCell ⟨b.E, 17, none⟩ (.int .i64 0)).setCell ⟨b.E, 18, none⟩ (.bool false)).setCell ⟨b.E, 19, none⟩ (.bool false)) b T F c { S with e := { S.e with count := 0, rel := false, pack := false } } ∧ Turns w (((w.setCell ⟨b.E, 17, none⟩ (.int .i64 0)).setCell ⟨b.E, 18, none⟩ (.bool false)).setCell ⟨b.E, 19, none⟩ (.bool false)) [b.E]) := by
      have hT : Turns w (((w.setCell ⟨b.E, 17, none⟩ (.int .i64 0)).setCell ⟨b.E, 18, none⟩ (.bool false)).setCell ⟨b.E, 19, none⟩ (.bool false)) [b.E] := (((Turns.refl _ _).setCell (by simp) _).setCell (by simp) _).setCell (by simp) _
      have hr := ((h.rE.put 17 (.int .i64 ((0 : Nat) : Int))).put 18 (.bool false)).put 19 (.bool false)
      rw [set_count, set_rel, set_pack] at hr
      exact ⟨h.eng hT hr { h.ok with count := by simp }, hT⟩
    clear h
    go_enter Tryz.func202, Tryz.ntmps202
    go_wp2
    go_ret
    exact ⟨rfl, HF.out⟩
theorem many_25z (h : AbIs w b T F c S) (hz : ((S.e.count : Int) == 0) = true) : Calls Tryz.prog 202 #[.pointer (some ⟨b.E, 0, none⟩), .int .i64 25] w fun e w' => e = .returned (.int .i64 1) ∧ AbIs w' b T F c { S with e := { S.e with count := 0, rel := false, pack := false } } ∧ Turns w w' [b.E] := by
    have e17 := h.xCount
    have f17 := h.rE.frozen 17
    have e18 := h.xRel
    have f18 := h.rE.frozen 18
    have e19 := h.xPack
    have f19 := h.rE.frozen 19
    have HF : Hid (AbIs (((w.setCell ⟨b.E, 17, none⟩ (.int .i64 0)).setCell ⟨b.E, 18, none⟩ (.bool false)).setCell ⟨b.E, 19, none⟩ (.bool false)) b T F c { S with e := { S.e with count := 0, rel := false, pack := false } } ∧ Turns w (((w.setCell ⟨b.E, 17, none⟩ (.int .i64 0)).setCell ⟨b.E, 18, none⟩ (.bool false)).setCell ⟨b.E, 19, none⟩ (.bool false)) [b.E]) := by
      have hT : Turns w (((w.setCell ⟨b.E, 17, none⟩ (.int .i64 0)).setCell ⟨b.E, 18, none⟩ (.bool false)).setCell ⟨b.E, 19, none⟩ (.bool false)) [b.E] := (((Turns.refl _ _).setCell (by simp) _).setCell (by simp) _).setCell (by simp) _
      have hr := ((h.rE.put 17 (.int .i64 ((0 : Nat) : Int))).put 18 (.bool false)).put 19 (.bool false)
      rw [set_count, set_rel, set_pack] at hr
      exact ⟨h.eng hT hr { h.ok with count := by simp }, hT⟩
    clear h
    go_enter Tryz.func202, Tryz.ntmps202
    go_wp2
    go_ret
    exact ⟨rfl, HF.out⟩
theorem many_18n (h : AbIs w b T F c S) (hz : ((S.e.count : Int) == 0) = false) : Calls Tryz.prog 202 #[.pointer (some ⟨b.E, 0, none⟩), .int .i64 18] w fun e w' => e = .returned (.int .i64 S.e.count) ∧ AbIs w' b T F c { S with e := { S.e with count := 0 } } ∧ Turns w w' [b.E] := by
  have e17 := h.xCount
  have f17 := h.rE.frozen 17
  have HF : Hid (AbIs (w.setCell ⟨b.E, 17, none⟩ (.int .i64 0)) b T F c { S with e := { S.e with count := 0 } } ∧ Turns w (w.setCell ⟨b.E, 17, none⟩ (.int .i64 0)) [b.E]) := by
    have hT : Turns w (w.setCell ⟨b.E, 17, none⟩ (.int .i64 0)) [b.E] := (Turns.refl _ _).setCell (by simp) _
    have hr := h.rE.put 17 (.int .i64 ((0 : Nat) : Int))
    rw [set_count] at hr
    exact ⟨h.eng hT hr { h.ok with count := by simp }, hT⟩
  clear h
  go_enter Tryz.func202, Tryz.ntmps202
  go_wp2
  go_ret
  exact ⟨rfl, HF.out⟩
theorem many_25n (h : AbIs w b T F c S) (hz : ((S.e.count : Int) == 0) = false) : Calls Tryz.prog 202 #[.pointer (some ⟨b.E, 0, none⟩), .int .i64 25] w fun e w' => e = .returned (.int .i64 S.e.count) ∧ AbIs w' b T F c { S with e := { S.e with count := 0 } } ∧ Turns w w' [b.E] := by
  have e17 := h.xCount
  have f17 := h.rE.frozen 17
  have HF : Hid (AbIs (w.setCell ⟨b.E, 17, none⟩ (.int .i64 0)) b T F c { S with e := { S.e with count := 0 } } ∧ Turns w (w.setCell ⟨b.E, 17, none⟩ (.int .i64 0)) [b.E]) := by
    have hT : Turns w (w.setCell ⟨b.E, 17, none⟩ (.int .i64 0)) [b.E] := (Turns.refl _ _).setCell (by simp) _
    have hr := h.rE.put 17 (.int .i64 ((0 : Nat) : Int))
    rw [set_count] at hr
    exact ⟨h.eng hT hr { h.ok with count := by simp }, hT⟩
  clear h
  go_enter Tryz.func202, Tryz.ntmps202
  go_wp2
  go_ret
  exact ⟨rfl, HF.out⟩
theorem many_any (h : AbIs w b T F c S) (i : Int) : Calls Tryz.prog 202 #[.pointer (some ⟨b.E, 0, none⟩), .int .i64 i] w fun e w' => e = .returned (.int .i64 (S.manyN i : Nat)) ∧ AbIs w' b T F c (S.many i) ∧ Turns w w' [b.E] := by
  unfold Ab.manyN Ab.many
  cases hz : (S.e.count == 0) with
  | true =>
    have h1 : S.one i = true := by unfold Ab.one; rw [hz]; simp
    have hz' : ((S.e.count : Int) == 0) = true := by simp at hz ⊢; omega
    rw [if_pos h1, if_pos h1]
    by_cases h18 : i = 18
    · subst h18; exact many_18z h hz'
    by_cases h25 : i = 25
    · subst h25; exact many_25z h hz'
    exact many_else h i (by simpa using h18) (by simpa using h25)
  | false =>
    have hz' : ((S.e.count : Int) == 0) = false := by simp at hz ⊢; omega
    by_cases h18 : i = 18
    · subst h18
      have h1 : ¬ S.one 18 = true := by unfold Ab.one; rw [hz]; decide
      rw [if_neg h1, if_neg h1]; exact many_18n h hz'
    by_cases h25 : i = 25
    · subst h25
      have h1 : ¬ S.one 25 = true := by unfold Ab.one; rw [hz]; decide
      rw [if_neg h1, if_neg h1]; exact many_25n h hz'
    have h1 : S.one i = true := by unfold Ab.one; simp [h18, h25]
    rw [if_pos h1, if_pos h1]
    exact many_else h i (by simpa using h18) (by simpa using h25)
/-- The write command ends. -/
def Ab.ends (S : Ab) : Ab := { S with s := if S.s = 6 then 4 else S.s, left := if S.s = 6 then 0 else S.left, e := { S.e with head := 0 }, next := [] }
theorem end_any (h : AbIs w b T F c S) : Calls Tryz.prog 39 #[.pointer (some ⟨b.E, 0, none⟩)] w fun e w' => e = .returned (.tuple #[]) ∧ AbIs w' { b with nx := none, cnx := 0 } T F c S.ends ∧ Turns w w' [b.n.P, b.E] := by
  have hne : b.n.P ≠ b.E := h.ph.ne_type h.rE (by decide)
  have hs := h.ok.st
  have hrv := h.ok.recv
  have HH := Lib.hid h
  have e0 := h.xP
  have hph := h.ph
  clear h
  go_enter Tryz.func39, Tryz.ntmps39
  go_wp2_with fail
  go_loopw [] (fun wr => ∃ s' l', PhIs wr b.n.P s' S.addr l' ∧ Turns w wr [b.n.P] ∧ (s' = S.s ∧ l' = S.left ∧ s' ≠ 6 ∨ S.s = 6 ∧ s' = 6 ∧ 1 ≤ l' ∧ l' ≤ 64 ∨ S.s = 6 ∧ s' = 4 ∧ l' = 0)) (fun wr => match wr.cell? ⟨b.n.P, 2, none⟩ with | some (.int _ l) => l.toNat | _ => 0)
  case atStart =>
    refine ⟨S.s, S.left, hph, Turns.refl _ _, ?_⟩
    by_cases h6 : S.s = 6
    · have := hrv h6; exact .inr (.inl ⟨h6, h6, this.1, this.2⟩)
    · exact .inl ⟨rfl, rfl, h6⟩
  case round =>
    obtain ⟨s', l', h1, h2, h3⟩ := hrel
    have H1 := Lib.hid h1
    have H2 := Lib.hid h2
    have e0r : wr.cell? ⟨b.E, 0, none⟩ = some (.pointer (some ⟨b.n.P, 0, none⟩)) := h2.cell (p := ⟨b.E, 0, none⟩) e0 (by simp; exact Ne.symm hne)
    have HSt := Lib.hid (State_ph h1)
    clear hph e0 h1 h2 hrv
    by_cases h6 : s' = 6
    · have h3' : S.s = 6 ∧ 1 ≤ l' ∧ l' ≤ 64 := by omega
      subst h6
      have HGot := Lib.hid (Got_ph H1.out h3'.2)
      have H3 := Lib.hid h3'
      clear h3 h3' hs
      go_wp2_with fail
      refine HSt.out.mono ?_
      rintro e w2 ⟨rfl, rfl⟩
      go_wp2_with fail
      refine HGot.out.mono ?_
      rintro e w3 ⟨rfl, hp3, ht3⟩
      have HP3 := Lib.hid hp3
      have HT3 : Hid (Turns w w3 [b.n.P]) := H2.out.trans ht3 (by simp)
      have c2 : w3.cell? ⟨b.n.P, 2, none⟩ = some (.int .i64 (l' - 1)) := by rw [hp3.cell]; rfl
      have c1 : wr.cell? ⟨b.n.P, 2, none⟩ = some (.int .i64 l') := by rw [H1.out.cell]; rfl
      have HC := Lib.hid (And.intro c1 c2)
      clear HGot HSt hp3 ht3 c1 c2
      go_wp2
      go_roundw
      case rel =>
        refine ⟨gotS l', l' - 1, HP3.out, HT3.out, ?_⟩
        have := H3.out
        unfold gotS
        by_cases hl : l' = 1
        · subst hl; rw [if_pos rfl]; exact .inr (.inr ⟨this.1, rfl, by omega⟩)
        · rw [if_neg hl]; exact .inr (.inl ⟨this.1, rfl, by omega, by omega⟩)
      case measure =>
        have := H3.out
        rw [HC.out.1, HC.out.2]
        show (l' - 1).toNat < l'.toNat
        omega
    · have hfin : s' = (if S.s = 6 then 4 else S.s) ∧ l' = (if S.s = 6 then 0 else S.left) := by
        rcases h3 with ⟨h4, h5, _⟩ | h4 | ⟨h4, h5, h7⟩
        · rw [if_neg (by omega), if_neg (by omega)]; exact ⟨h4, h5⟩
        · omega
        · rw [if_pos h4, if_pos h4]; exact ⟨h5, h7⟩
      have b6 : (s' == 6) = false := by simpa using h6
      have hA : AbIs wr b T F c { S with s := s', addr := S.addr, left := l' } := HH.out.phase H2.out H1.out { HH.out.ok with
        st := by
          rw [hfin.1]
          have := HH.out.ok.st
          by_cases h : S.s = 6
          · rw [if_pos h]; show (4 : Int) ∈ statesL; decide
          · rw [if_neg h]; exact this
        recv := fun h => absurd h h6 }
      have hT4 : Turns wr ((wr.setCell ⟨b.E, 23, none⟩ (.slice none 0 0)).setCell ⟨b.E, 24, none⟩ (.int .i64 0)) [b.E] := ((Turns.refl _ _).setCell (by simp) _).setCell (by simp) _
      have HX : Hid (AbIs ((wr.setCell ⟨b.E, 23, none⟩ (.slice none 0 0)).setCell ⟨b.E, 24, none⟩ (.int .i64 0)) { b with nx := none, cnx := 0 } T F c S.ends) := by
        have hr := (hA.rE.put 23 (.slice none 0 0)).put 24 (.int .i64 ((0 : Nat) : Int))
        have := hA.next (e' := { S.e with head := 0 }) (nx' := []) (A' := none) (c' := 0) (T' := T) hT4 hr { hA.ok with head := by simp, recv := fun h => absurd h h6, next := by simp, nlen := by simp } (World.ownsRow_nil _ _ _ _) (fun k hk => hk) (by simp [Vca.blk]) hA.TF (fun k hk => Nat.lt_of_lt_of_le (hA.Tlt k hk) hT4.size)
        have e : ({ { S with s := s', addr := S.addr, left := l' } with e := { S.e with head := 0 }, next := [] } : Ab) = S.ends := by unfold Ab.ends; rw [hfin.1, hfin.2]
        rw [e] at this
        exact this
      have HY : Hid (Turns w ((wr.setCell ⟨b.E, 23, none⟩ (.slice none 0 0)).setCell ⟨b.E, 24, none⟩ (.int .i64 0)) [b.n.P, b.E]) := (H2.out.mono (by simp)).trans hT4 (by simp)
      have e23 := hA.xNx
      have f23 := hA.rE.frozen 23
      have e24 := hA.xHead
      have f24 := hA.rE.frozen 24
      clear h3 hfin hA hT4 hs h6 H1 H2 HH
      go_wp2_with fail
      refine HSt.out.mono ?_
      rintro e w2 ⟨rfl, rfl⟩
      go_wp2
      go_end0
      exact ⟨rfl, HX.out, HY.out⟩
end
end Go.Proofs.YtclhhdodebdmjaaGreat
