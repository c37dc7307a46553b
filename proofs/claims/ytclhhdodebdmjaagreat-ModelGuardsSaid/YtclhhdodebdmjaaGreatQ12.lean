/- What follows is laid together from several texts of mine, in their order. -/
import Derived.Test.YtclhhdodebdmjaaGreatQ11
import Derived.Laws.NewBlocks
import Derived.Test.YtclhhdodebdmjaaGreatQ9
import Derived.OwnWalk
import Derived.Test.YtclhhdodebdmjaaGreatQ2

namespace Go.Proofs.YtclhhdodebdmjaaGreat
open Go.RowKit
set_option linter.unusedVariables false
set_option linter.unusedSimpArgs false
set_option maxRecDepth 100000

/-- A table's cells, with the once's word and its lock. -/
def tabW (c : Cf) (s now : St) (d m : Int) (r : Bool) : Array Value :=
  (c.l ++ (s.l ++ (now.l ++ ([Value.int .u32 d, Value.int .i32 m, Value.int .u32 0] ++ ((List.range 8).map (fun a => Value.int .i64 (if r then sizeV c now a else 0)) ++ (List.range 8).map (fun a => Value.int .i64 (if r then firstV c now a else 0))))))).toArray
theorem tabV_W (c : Cf) (s now : St) (r : Bool) : tabV c s now r = tabW c s now (if r then 1 else 0) 0 r := rfl
theorem tabW_lock (c : Cf) (s now : St) (d m m' : Int) (r : Bool) : (tabW c s now d m r).setIfInBounds 22 (.int .i32 m') = tabW c s now d m' r := rfl
theorem tabW_done (c : Cf) (s now : St) (d d' m : Int) (r : Bool) : (tabW c s now d m r).setIfInBounds 21 (.int .u32 d') = tabW c s now d' m r := rfl
theorem tabW_d (c : Cf) (s now : St) (d m : Int) (r : Bool) : (tabW c s now d m r)[21]? = some (.int .u32 d) := rfl
theorem tabW_m (c : Cf) (s now : St) (d m : Int) (r : Bool) : (tabW c s now d m r)[22]? = some (.int .i32 m) := rfl
/-- What the function that Do is handed does. -/
def Reckons2 (g : Nat) (pl : Addr) (c : Cf) (s now : St) : Prop := ∀ w : World, w.cell? pl = some (.pointer (some ⟨g, 0, none⟩)) → Row w g 197 (tabW c s now 0 1 false) →
  Calls Tryz.prog 171 #[.pointer (some pl)] w fun e w' => e = .returned (.tuple #[]) ∧ Row w' g 197 (tabW c s now 0 1 true) ∧ Turns w w' [g]
set_option maxHeartbeats 1600000 in
theorem slow_any (g : Nat) (pl : Addr) (c : Cf) (s now : St) (HK : Reckons2 g pl c s now) (hpb : ¬ g = pl.block) (w : World) (hp : w.cell? pl = some (.pointer (some ⟨g, 0, none⟩))) (h : Row w g 197 (tabW c s now 0 0 false)) :
    Calls Tryz.prog 227 #[.pointer (some ⟨g, 21, none⟩), .func (.func 171) #[] #[.pointer (some pl)]] w fun e w' => e = .returned (.tuple #[]) ∧
      Row w' g 197 (tabW c s now 1 0 true) ∧ Turns w w' [g] := by
  have h0 : w.cell? ⟨g, 21, none⟩ = some (.int .u32 0) := by rw [h.cell, tabW_d]
  have h1 : w.cell? ⟨g, 22, none⟩ = some (.int .i32 0) := by rw [h.cell, tabW_m]
  have f1 := h.frozen 22
  have hl := run_call_load (P := Tryz.prog) Tryz.func251 (by kernel_rfl) (by kernel_rfl) (by kernel_rfl) .u32 (by kernel_rfl) (w := w.setCell ⟨g, 22, none⟩ (.int .i32 1)) (a := ⟨g, 21, none⟩) (x := 0) ((World.cell?_setCell_other _ ⟨g, 22, none⟩ ⟨g, 21, none⟩ _ (by simp)).trans h0)
  have hp1 : (w.setCell ⟨g, 22, none⟩ (.int .i32 1)).cell? pl = some (.pointer (some ⟨g, 0, none⟩)) := (World.cell?_setCell_other _ ⟨g, 22, none⟩ pl _ (fun h => hpb (by rw [← h]))).trans hp
  have hr1 : Row (w.setCell ⟨g, 22, none⟩ (.int .i32 1)) g 197 (tabW c s now 0 1 false) := by have := h.put 22 (.int .i32 1); rwa [tabW_lock] at this
  have HC := Lib.hid (HK _ hp1 hr1)
  have hT1 : Hid (Turns w (w.setCell ⟨g, 22, none⟩ (.int .i32 1)) [g]) := (Turns.refl _ _).setCell (by simp) _
  have hnot : ∀ (x : Bool) (w : World), (Op.unary .not (.bool x)).run Tryz.prog w = .ok (.bool (!x)) w := fun _ _ => rfl
  clear hp1 hr1 h hp
  go_enter_defers Tryz.func227, Tryz.ntmps227
  go_wp2_with (go_at_call 252; refine (lock_free ⟨g, 22, none⟩ _ (by go_simp) (by go_simp)).mono ?_; rintro e w' ⟨rfl, rfl⟩)
  go_wp2_with (first | (go_at_call 226; go_in) | (go_at_call 171; refine HC.out.mono ?_; rintro e w2 ⟨rfl, hr, ht⟩))
  have hT : Turns w w2 [g] := hT1.out.trans ht (by simp)
  have hr0 : w2.cell? ⟨g, 21, none⟩ = some (.int .u32 0) := by rw [hr.cell, tabW_d]
  have hr1 : Row (w2.drew.setCell ⟨g, 21, none⟩ (.int .u32 1)) g 197 (tabW c s now 1 1 true) := by
    have := (hr.drewN 1).put 21 (.int .u32 1)
    rwa [tabW_done] at this
  have hr2 : Row ((w2.drew.setCell ⟨g, 21, none⟩ (.int .u32 1)).setCell ⟨g, 22, none⟩ (.int .i32 0)) g 197 (tabW c s now 1 0 true) := by
    have := hr1.put 22 (.int .i32 0)
    rwa [tabW_lock] at this
  refine leaves_cons (f := 254) (args := #[.pointer (some ⟨g, 21, none⟩), .bool true]) (by simp) (by simp [go_sem]) ?_
  refine (store_deferred ⟨g, 21, none⟩ (.int .u32 0) .returning _ hr0 (hr.frozen 21)).mono ?_
  rintro e u' w'' ⟨rfl, rfl, rfl⟩
  refine leaves_cons (f := 253) (args := #[.pointer (some ⟨g, 22, none⟩)]) (by simp [settle]) (by simp [go_sem]) ?_
  refine (unlock_deferred ⟨g, 22, none⟩ _ _ (by rw [hr1.cell, tabW_m]) (hr1.frozen 22)).mono ?_
  rintro e u' w'' ⟨rfl, rfl, rfl⟩
  have hT2 : Turns w ((w2.drew.setCell ⟨g, 21, none⟩ (.int .u32 1)).setCell ⟨g, 22, none⟩ (.int .i32 0)) [g] := (hT.drew.setCell (by simp) _).setCell (by simp) _
  have HF : Hid (Row ((w2.drew.setCell ⟨g, 21, none⟩ (.int .u32 1)).setCell ⟨g, 22, none⟩ (.int .i32 0)) g 197 (tabW c s now 1 0 true) ∧ Turns w ((w2.drew.setCell ⟨g, 21, none⟩ (.int .u32 1)).setCell ⟨g, 22, none⟩ (.int .i32 0)) [g]) := ⟨hr2, hT2⟩
  clear hr2 hT2 hr1 hr0 hT hT1 hr ht HC HK hl h0 h1 f1
  simp [Leaves, settle, results, Tryz.results227]
  exact HF.out
set_option maxHeartbeats 1600000 in
/-- Do, not yet done. -/
theorem do_first (g : Nat) (pl : Addr) (c : Cf) (s now : St) (HK : Reckons2 g pl c s now) (hpb : ¬ g = pl.block) (w : World) (hp : w.cell? pl = some (.pointer (some ⟨g, 0, none⟩))) (h : Row w g 197 (tabW c s now 0 0 false)) :
    Calls Tryz.prog 170 #[.pointer (some ⟨g, 21, none⟩), .func (.func 171) #[] #[.pointer (some pl)]] w fun e w' => e = .returned (.tuple #[]) ∧
      Row w' g 197 (tabW c s now 1 0 true) ∧ Turns w w' [g] := by
  have h0 : w.cell? ⟨g, 21, none⟩ = some (.int .u32 0) := by rw [h.cell, tabW_d]
  have hl := run_call_load (P := Tryz.prog) Tryz.func251 (by kernel_rfl) (by kernel_rfl) (by kernel_rfl) .u32 (by kernel_rfl) h0
  have hnot : ∀ (x : Bool) (w : World), (Op.unary .not (.bool x)).run Tryz.prog w = .ok (.bool (!x)) w := fun _ _ => rfl
  have HS := Lib.hid (slow_any g pl c s now HK hpb w hp h)
  clear HK hpb hp h
  go_enter Tryz.func170, Tryz.ntmps170
  go_wp2_with (first | (go_at_call 227; refine HS.out.mono ?_; rintro e w2 ⟨rfl, hr, ht⟩) | (go_at_call 226; go_in))
  go_end0
  exact ⟨rfl, hr, ht⟩
/-- Do, done already. -/
theorem do_done (a : Addr) (fv : Value) (w : World) (h0 : w.cell? a = some (.int .u32 1)) :
    Calls Tryz.prog 170 #[.pointer (some a), fv] w fun e w' => e = .returned (.tuple #[]) ∧ w' = w := by
  have hl := run_call_load (P := Tryz.prog) Tryz.func251 (by kernel_rfl) (by kernel_rfl) (by kernel_rfl) .u32 (by kernel_rfl) h0
  have hnot : ∀ (x : Bool) (w : World), (Op.unary .not (.bool x)).run Tryz.prog w = .ok (.bool (!x)) w := fun _ _ => rfl
  go_enter Tryz.func170, Tryz.ntmps170
  go_wp2
  go_end0
  exact ⟨rfl, rfl⟩
end Go.Proofs.YtclhhdodebdmjaaGreat

namespace Go.Proofs.YtclhhdodebdmjaaGreat
set_option linter.unusedVariables false
set_option linter.unusedSimpArgs false

theorem Plain.user {c : Cf} (h : Plain c) : 1 ≤ c.user ∧ c.user ≤ 16384 := (btw_iff _ _ _).1 h.k6
theorem Plain.boot {c : Cf} (h : Plain c) : 1 ≤ c.boot ∧ c.boot ≤ 256 := (btw_iff _ _ _).1 h.k7
theorem Plain.rpa {c : Cf} (h : Plain c) : 1 ≤ c.rpa ∧ c.rpa ≤ 256 := (btw_iff _ _ _).1 h.k8
theorem Plain.group {c : Cf} (h : Plain c) : 1 ≤ c.group ∧ c.group ≤ c.user := (btw_iff _ _ _).1 h.k9
theorem Plain.sector {c : Cf} (h : Plain c) : 128 ≤ c.sector ∧ c.sector ≤ 448 := (btw_iff _ _ _).1 h.k4
theorem Plain.cache {c : Cf} (h : Plain c) : 0 ≤ c.cache ∧ c.cache ≤ 64 := (btw_iff _ _ _).1 h.k12
theorem StOk.parts {c : Cf} {s : St} (h : StOk c s) (hg : 1 ≤ c.group) : ∃ p0 p1 p2 p3 : Int, s.z0 * c.group = p0 ∧ s.z1 * c.group = p1 ∧ s.z2 * c.group = p2 ∧ s.z3 * c.group = p3 ∧ (s.z0 + s.z1 + s.z2 + s.z3) * c.group = p0 + p1 + p2 + p3 ∧ 0 ≤ p0 ∧ 0 ≤ p1 ∧ 0 ≤ p2 ∧ 0 ≤ p3 ∧ p0 + p1 + p2 + p3 ≤ c.user := by
  have hs := h.sum
  have e : (s.z0 + s.z1 + s.z2 + s.z3) * c.group = s.z0 * c.group + s.z1 * c.group + s.z2 * c.group + s.z3 * c.group := by rw [Int.add_mul, Int.add_mul, Int.add_mul]
  exact ⟨_, _, _, _, rfl, rfl, rfl, rfl, e, Int.mul_nonneg h.h0 (by omega), Int.mul_nonneg h.h1 (by omega), Int.mul_nonneg h.h2 (by omega), Int.mul_nonneg h.h3 (by omega), by rw [← e]; exact hs⟩
/-- The sizes, one by one, with what they are bounded by. -/
theorem sizes_are {c : Cf} {s : St} (hp : Plain c) (h : StOk c s) : ∃ n0 n1 n2 n3 n4 n5 n6 n7 : Int,
    sizeV c s 0 = n0 ∧ sizeV c s 1 = n1 ∧ sizeV c s 2 = n2 ∧ sizeV c s 3 = n3 ∧ sizeV c s 4 = n4 ∧ sizeV c s 5 = n5 ∧ sizeV c s 6 = n6 ∧ sizeV c s 7 = n7 ∧
    firstV c s 0 = 0 ∧ firstV c s 4 = n0 ∧ firstV c s 5 = n0 + n4 ∧ firstV c s 6 = n0 + n4 + n5 ∧ firstV c s 7 = n0 + n4 + n5 + n6 ∧ firstV c s 1 = n0 + n4 + n5 + n6 + n7 ∧ firstV c s 2 = n0 + n4 + n5 + n6 + n7 + n1 ∧ firstV c s 3 = n0 + n4 + n5 + n6 + n7 + n1 + n2 ∧
    n0 + n4 + n5 + n6 + n7 + n1 + n2 + n3 = totalI c ∧ 0 ≤ n0 ∧ 0 ≤ n1 ∧ 0 ≤ n2 ∧ 0 ≤ n3 ∧ 0 ≤ n4 ∧ 0 ≤ n5 ∧ 0 ≤ n6 ∧ 0 ≤ n7 ∧ totalI c ≤ 17152 := by
  obtain ⟨p0, p1, p2, p3, e0, e1, e2, e3, es, b0, b1, b2, b3, bs⟩ := h.parts (by have := hp.group; omega)
  have hu := hp.user
  have hb := hp.boot
  have hr := hp.rpa
  refine ⟨c.user - (p0 + p1 + p2 + p3), c.boot, c.boot, c.rpa, p0, p1, p2, p3, ?_, ?_, ?_, ?_, ?_, ?_, ?_, ?_, ?_, ?_, ?_, ?_, ?_, ?_, ?_, ?_, ?_, ?_, ?_, ?_, ?_, ?_, ?_, ?_, ?_, ?_⟩
  all_goals (try simp [sizeV, firstV, totalI, e0, e1, e2, e3, es])
  all_goals omega
theorem sizeV_bd {c : Cf} {s : St} (hp : Plain c) (h : StOk c s) (a : Nat) : 0 ≤ sizeV c s a ∧ sizeV c s a ≤ 16384 := by
  obtain ⟨p0, p1, p2, p3, e0, e1, e2, e3, es, b0, b1, b2, b3, bs⟩ := h.parts (by have := hp.group; omega)
  have hu := hp.user
  have hb := hp.boot
  have hr := hp.rpa
  unfold sizeV
  repeat' split
  all_goals (try simp only [e0, e1, e2, e3, es])
  all_goals omega
theorem firstV_bd {c : Cf} {s : St} (hp : Plain c) (h : StOk c s) (a : Nat) : 0 ≤ firstV c s a ∧ firstV c s a + sizeV c s a ≤ totalI c ∧ firstV c s a ≤ 17152 := by
  obtain ⟨n0, n1, n2, n3, n4, n5, n6, n7, s0, s1, s2, s3, s4, s5, s6, s7, f0, f4, f5, f6, f7, f1, f2, f3, ht, b0, b1, b2, b3, b4, b5, b6, b7, bt⟩ := sizes_are hp h
  by_cases h0 : a = 0
  · subst h0; rw [s0, f0]; omega
  by_cases h1 : a = 1
  · subst h1; rw [s1, f1]; omega
  by_cases h2 : a = 2
  · subst h2; rw [s2, f2]; omega
  by_cases h3 : a = 3
  · subst h3; rw [s3, f3]; omega
  by_cases h4 : a = 4
  · subst h4; rw [s4, f4]; omega
  by_cases h5 : a = 5
  · subst h5; rw [s5, f5]; omega
  by_cases h6 : a = 6
  · subst h6; rw [s6, f6]; omega
  by_cases h7 : a = 7
  · subst h7; rw [s7, f7]; omega
  have e1 : firstV c s a = 0 := by simp [firstV, h0, h1, h2, h3, h4, h5, h6, h7]
  have e2 : sizeV c s a = 0 := by simp [sizeV, h0, h1, h2, h3, h4, h5, h6, h7]
  rw [e1, e2]; omega
end Go.Proofs.YtclhhdodebdmjaaGreat

namespace Go.Proofs.YtclhhdodebdmjaaGreat
open Go.RowKit Go.MapKept Go.ChangeMaps
set_option linter.unusedVariables false
set_option linter.unusedSimpArgs false
set_option maxRecDepth 100000

theorem order_any (w : World) : Calls Tryz.prog 111 #[] w fun e w' => e = .returned (.agg #[.int .i64 0, .int .i64 4, .int .i64 5, .int .i64 6, .int .i64 7, .int .i64 1, .int .i64 2, .int .i64 3]) ∧ Below w.heap.size w w' := by
  go_enter Tryz.func111, Tryz.ntmps111
  go_wp2
  exact bodyPost_ret (v := .agg #[.int .i64 0, .int .i64 4, .int .i64 5, .int .i64 6, .int .i64 7, .int .i64 1, .int .i64 2, .int .i64 3]) (results_cell_row rfl _ _ w.heap.size 108 _ (0, 0) _ rfl (Row.fresh _ _ _) Tryz.underlying108 rfl (by kernel_rfl)) rfl ⟨rfl, (Below.refl _ _).alloc (Nat.le_refl _) _⟩
theorem int_plain : Tryz.prog.plainKey 3 = true := by kernel_rfl
theorem int_one : Tryz.prog.cellsOf 3 = 1 := by kernel_rfl
/-- 'a[i]' of an array by value. -/
theorem run_index_row {P : Program} (w : World) {t e : TypeId} {n : Nat} {i0 : TypeInfo} (hu : P.underlying t = some (.array n e)) (hi : P.info? e = some i0) (hs : P.cellsOf e = 1) (hp : P.plainKey e = true) (cs : Array Value) (k : IntKind) (j : Nat) (hj : j < n) (v : Value) (hv : cs[j]? = some v) :
    (Instr.index t (.agg cs) (.int k (j : Int))).run P w = .ok v w := by
  have hn : 0 ≤ (j : Int) ∧ (j : Int) < (n : Int) := by omega
  have a := run_part_plain (P := P) w hp (xs := cs) (off := j) (v := v) hv
  simp [part, go_sem] at a
  simp [Instr.index, run_underlying hu, asIntOf, hn, go_sem, run_sizeOf w hi, hs, hj]
  exact a
theorem index_z4 (w : World) (a b c d : Int) (j : Nat) (hj : j < 4) : (Instr.index 110 (.agg #[.int .i64 a, .int .i64 b, .int .i64 c, .int .i64 d]) (.int .i64 (j : Int))).run Tryz.prog w = .ok (.int .i64 ([a, b, c, d].getD j 0)) w := by
  obtain ⟨i, hi⟩ : ∃ i, Tryz.prog.info? 3 = some i := Option.isSome_iff_exists.1 (by kernel_rfl)
  refine run_index_row (P := Tryz.prog) w Tryz.underlying110 hi int_one int_plain _ .i64 j hj _ ?_
  have : j = 0 ∨ j = 1 ∨ j = 2 ∨ j = 3 := by omega
  rcases this with rfl | rfl | rfl | rfl <;> rfl
theorem index_z8 (w : World) (L : List Int) (h : L.length = 8) (j : Nat) (hj : j < 8) : (Instr.index 108 (.agg (L.map (Value.int .i64)).toArray) (.int .i64 (j : Int))).run Tryz.prog w = .ok (.int .i64 (L.getD j 0)) w := by
  obtain ⟨i, hi⟩ : ∃ i, Tryz.prog.info? 3 = some i := Option.isSome_iff_exists.1 (by kernel_rfl)
  refine run_index_row (P := Tryz.prog) w Tryz.underlying108 hi int_one int_plain _ .i64 j hj _ ?_
  simp [List.getD, h, hj]
theorem eql_z4 (w : World) (a b c d : Int) : (binOp .eql 110 (.agg #[.int .i64 a, .int .i64 b, .int .i64 c, .int .i64 d]) (.agg #[.int .i64 0, .int .i64 0, .int .i64 0, .int .i64 0])).run Tryz.prog w = .ok (.bool ([a, b, c, d] == [0, 0, 0, 0])) w := by
  obtain ⟨i, hi⟩ : ∃ i, Tryz.prog.info? 3 = some i := Option.isSome_iff_exists.1 (by kernel_rfl)
  exact run_eql_ints (P := Tryz.prog) w .i64 Tryz.underlying110 hi Tryz.underlying3 int_plain int_one [a, b, c, d] [0, 0, 0, 0] rfl rfl
def qk (k j : Nat) (p : Int) : Int := if j < k then p else 0
def outK (c : Cf) (p0 p1 p2 p3 : Int) (k : Nat) : Array Value := #[.int .i64 (c.user - (qk k 0 p0 + qk k 1 p1 + qk k 2 p2 + qk k 3 p3)), .int .i64 c.boot, .int .i64 c.boot, .int .i64 c.rpa, .int .i64 (qk k 0 p0), .int .i64 (qk k 1 p1), .int .i64 (qk k 2 p2), .int .i64 (qk k 3 p3)]
/-- All sizes. -/
def sizesA (c : Cf) (s : St) : Array Value := #[.int .i64 (sizeV c s 0), .int .i64 (sizeV c s 1), .int .i64 (sizeV c s 2), .int .i64 (sizeV c s 3), .int .i64 (sizeV c s 4), .int .i64 (sizeV c s 5), .int .i64 (sizeV c s 6), .int .i64 (sizeV c s 7)]
theorem sizesA_info {c : Cf} {s : St} : (Tryz.prog.info? 108).map (·.size) = some (sizesA c s).size := by show _ = some 8; kernel_rfl
theorem sizesA_one (c : Cf) (s : St) : (sizesA c s).all (·.oneCell') = true := by simp [sizesA, Value.oneCell']
def St.za (s : St) : Array Value := #[.int .i64 s.z0, .int .i64 s.z1, .int .i64 s.z2, .int .i64 s.z3]
theorem mul_wrap {a b p : Int} (h : a * b = p) (h0 : 0 ≤ p) (h1 : p ≤ 16384) : Hid (IntKind.i64.wrap (a * b) = p) := by unfold Hid; rw [h, IntKind.wrap_i64]; omega
theorem mul_wrap' {a b p : Int} (h : a * b = p) (h0 : 0 ≤ p) (h1 : p ≤ 16384) : wrap64 (a * b) = p := by rw [h]; unfold wrap64; omega
theorem Sizes_any (c : Cf) (s : St) (hp : Plain c) (hs : StOk c s) (w : World) : Calls Tryz.prog 172 #[.agg c.l.toArray, .agg s.za] w fun e w' => e = .returned (.agg (sizesA c s)) ∧ Below w.heap.size w w' := by
  obtain ⟨p0, p1, p2, p3, e0, e1, e2, e3, es, b0, b1, b2, b3, bs⟩ := hs.parts (by have := hp.group; omega)
  have hu := hp.user.2
  have HA : Hid (outK c p0 p1 p2 p3 4 = sizesA c s) := by
    unfold Hid; simp [outK, sizesA, qk, sizeV, e0, e1, e2, e3, es]
  obtain ⟨cb, cp, cs, cu, co, cr, cg, ca, cz⟩ := c
  obtain ⟨z0, z1, z2, z3, en, dn⟩ := s
  simp only [Cf.l, St.za] at *
  have HE := eql_z4 (a := z0) (b := z1) (c := z2) (d := z3)
  by_cases hz : ([z0, z1, z2, z3] == [0, 0, 0, 0]) = true
  · have hzz := eq_of_beq hz
    simp only [List.cons.injEq, and_true] at hzz
    obtain ⟨rfl, rfl, rfl, rfl⟩ := hzz
    rw [hz] at HE
    have hS : sizesA ⟨cb, cp, cs, cu, co, cr, cg, ca, cz⟩ ⟨0, 0, 0, 0, en, dn⟩ = #[.int .i64 cu, .int .i64 co, .int .i64 co, .int .i64 cr, .int .i64 0, .int .i64 0, .int .i64 0, .int .i64 0] := by simp [sizesA, sizeV]
    have HSz := Lib.hid hS
    clear hS hz hp hs e0 e1 e2 e3 es HA b0 b1 b2 b3 bs hu
    go_enter Tryz.func172, Tryz.ntmps172
    go_wp2
    rw [HSz.out]
    have hR := (Row.fresh ((w.alloc (.cells #[.int .i64 cb, .int .i64 cp, .int .i64 cs, .int .i64 cu, .int .i64 co, .int .i64 cr, .int .i64 cg, .int .i64 ca, .int .i64 cz] 23)).alloc (.cells #[.int .i64 0, .int .i64 0, .int .i64 0, .int .i64 0] 110)) 108 #[.int .i64 cu, .int .i64 co, .int .i64 co, .int .i64 cr, .int .i64 0, .int .i64 0, .int .i64 0, .int .i64 0]).alloc (.cells #[.int .i64 cu, .int .i64 co, .int .i64 co, .int .i64 cr, .int .i64 0, .int .i64 0, .int .i64 0, .int .i64 0] 108)
    simp only [World.size_alloc] at hR
    refine bodyPost_ret (v := .agg #[.int .i64 cu, .int .i64 co, .int .i64 co, .int .i64 cr, .int .i64 0, .int .i64 0, .int .i64 0, .int .i64 0]) (results_cell_row rfl _ _ (w.heap.size + 1 + 1) 108 _ (0, 0) _ rfl hR Tryz.underlying108 rfl (by kernel_rfl)) rfl ⟨rfl, ?_⟩
    (repeat (first | (with_reducible refine Below.drew ?_) | (with_reducible refine below_drewN0 ?_ _) | ((with_reducible refine Below.setCell ?_ ?_ _); rotate_left; focus (first | omega | (simp; done) | (simp; omega) | (simp at *; omega))) | ((with_reducible refine Below.alloc ?_ ?_ _); rotate_left; focus (first | omega | (simp; done) | (simp; omega) | (simp at *; omega))) | (with_reducible exact Below.refl _ _)))
  · have hz' : ([z0, z1, z2, z3] == [0, 0, 0, 0]) = false := by simpa using hz
    rw [hz'] at HE
    have W0 := mul_wrap e0 b0 (by omega)
    have W1 := mul_wrap e1 b1 (by omega)
    have W2 := mul_wrap e2 b2 (by omega)
    have W3 := mul_wrap e3 b3 (by omega)
    clear hz hz' hp hs es
    go_enter Tryz.func172, Tryz.ntmps172
    go_wp2
    go_loopw [22] (fun i wr => ∃ k : Nat, k ≤ 4 ∧ i = .int .i64 k ∧ Row wr w.heap.size 23 #[.int .i64 cb, .int .i64 cp, .int .i64 cs, .int .i64 cu, .int .i64 co, .int .i64 cr, .int .i64 cg, .int .i64 ca, .int .i64 cz] ∧ Row wr (w.heap.size + 1 + 1 + 1) 108 (outK ⟨cb, cp, cs, cu, co, cr, cg, ca, cz⟩ p0 p1 p2 p3 k) ∧ Row wr (w.heap.size + 1 + 1) 108 #[.int .i64 0, .int .i64 0, .int .i64 0, .int .i64 0, .int .i64 0, .int .i64 0, .int .i64 0, .int .i64 0] ∧ Below w.heap.size w wr) (fun i _ => (4 - intOf i).toNat)
    case atStart =>
      refine ⟨0, by omega, rfl, (((Row.fresh w _ _).alloc _).alloc _).alloc _, ?_, ?_, by (repeat (first | (with_reducible refine Below.drew ?_) | (with_reducible refine below_drewN0 ?_ _) | ((with_reducible refine Below.setCell ?_ ?_ _); rotate_left; focus (first | omega | (simp; done) | (simp; omega) | (simp at *; omega))) | ((with_reducible refine Below.alloc ?_ ?_ _); rotate_left; focus (first | omega | (simp; done) | (simp; omega) | (simp at *; omega))) | (with_reducible exact Below.refl _ _)))⟩
      · have := Row.fresh (((w.alloc (.cells #[.int .i64 cb, .int .i64 cp, .int .i64 cs, .int .i64 cu, .int .i64 co, .int .i64 cr, .int .i64 cg, .int .i64 ca, .int .i64 cz] 23)).alloc (.cells #[.int .i64 z0, .int .i64 z1, .int .i64 z2, .int .i64 z3] 110)).alloc (.cells #[.int .i64 0, .int .i64 0, .int .i64 0, .int .i64 0, .int .i64 0, .int .i64 0, .int .i64 0, .int .i64 0] 108)) 108 (outK ⟨cb, cp, cs, cu, co, cr, cg, ca, cz⟩ p0 p1 p2 p3 0)
        simpa [outK, qk] using this
      · have := (Row.fresh ((w.alloc (.cells #[.int .i64 cb, .int .i64 cp, .int .i64 cs, .int .i64 cu, .int .i64 co, .int .i64 cr, .int .i64 cg, .int .i64 ca, .int .i64 cz] 23)).alloc (.cells #[.int .i64 z0, .int .i64 z1, .int .i64 z2, .int .i64 z3] 110)) 108 #[.int .i64 0, .int .i64 0, .int .i64 0, .int .i64 0, .int .i64 0, .int .i64 0, .int .i64 0, .int .i64 0]).alloc (.cells (outK ⟨cb, cp, cs, cu, co, cr, cg, ca, cz⟩ p0 p1 p2 p3 0) 108)
        simpa [outK, qk] using this
    case round =>
      obtain ⟨k, hk, hi, h1, h2, h3, h4⟩ := hrel
      have c6 := h1.cell 6
      have H1 := Lib.hid h1
      have H2 := Lib.hid h2
      have H3 := Lib.hid h3
      have H4 := Lib.hid h4
      have fz := fun j => h2.frozen j
      have hcell := fun j => h2.cell j
      clear h1 h2 h3 h4
      have hk' : k = 0 ∨ k = 1 ∨ k = 2 ∨ k = 3 ∨ k = 4 := by omega
      clear hk
      rcases hk' with rfl | rfl | rfl | rfl | rfl
      · have hi' : u22 = .int .i64 0 := hi
        subst hi'
        clear hi
        have d0 : wr.cell? ⟨w.heap.size + 1 + 1 + 1, 0, none⟩ = some (.int .i64 (cu)) := by rw [hcell]; simp [outK, qk]
        have d4 : wr.cell? ⟨w.heap.size + 1 + 1 + 1, 4 + 0, none⟩ = some (.int .i64 0) := by rw [hcell]; simp [outK, qk]
        have w0 := W0.out
        have hix : ∀ w : World, (Instr.index 110 (.agg #[.int .i64 z0, .int .i64 z1, .int .i64 z2, .int .i64 z3]) (.int .i64 0)).run Tryz.prog w = .ok (.int .i64 z0) w := fun w => index_z4 w z0 z1 z2 z3 0 (by omega)
        have w0' := mul_wrap' (a := z0) (b := cg) (p := p0) (by assumption) (by omega) (by omega)
        have HF : Hid (Row ((wr.setCell ⟨w.heap.size + 1 + 1 + 1, 4 + 0, none⟩ (.int .i64 p0)).setCell ⟨w.heap.size + 1 + 1 + 1, 0, none⟩ (.int .i64 (cu - p0))) (w.heap.size + 1 + 1 + 1) 108 (outK ⟨cb, cp, cs, cu, co, cr, cg, ca, cz⟩ p0 p1 p2 p3 1)) := by
          unfold Hid
          have := (H2.out.put (4 + 0) (.int .i64 p0)).put 0 (.int .i64 (cu - p0))
          have e : ((outK ⟨cb, cp, cs, cu, co, cr, cg, ca, cz⟩ p0 p1 p2 p3 0).setIfInBounds (4 + 0) (.int .i64 p0)).setIfInBounds 0 (.int .i64 (cu - p0)) = outK ⟨cb, cp, cs, cu, co, cr, cg, ca, cz⟩ p0 p1 p2 p3 1 := by
            simp [outK, qk]; try omega
          rwa [e] at this
        have HG : Hid (Row ((wr.setCell ⟨w.heap.size + 1 + 1 + 1, 4 + 0, none⟩ (.int .i64 p0)).setCell ⟨w.heap.size + 1 + 1 + 1, 0, none⟩ (.int .i64 (cu - p0))) w.heap.size 23 #[.int .i64 cb, .int .i64 cp, .int .i64 cs, .int .i64 cu, .int .i64 co, .int .i64 cr, .int .i64 cg, .int .i64 ca, .int .i64 cz]) := (H1.out.far (by simp; omega) _).far (by simp; omega) _
        have HI : Hid (Row ((wr.setCell ⟨w.heap.size + 1 + 1 + 1, 4 + 0, none⟩ (.int .i64 p0)).setCell ⟨w.heap.size + 1 + 1 + 1, 0, none⟩ (.int .i64 (cu - p0))) (w.heap.size + 1 + 1) 108 #[.int .i64 0, .int .i64 0, .int .i64 0, .int .i64 0, .int .i64 0, .int .i64 0, .int .i64 0, .int .i64 0]) := (H3.out.far (by simp) _).far (by simp) _
        have HJ : Hid (Below w.heap.size w ((wr.setCell ⟨w.heap.size + 1 + 1 + 1, 4 + 0, none⟩ (.int .i64 p0)).setCell ⟨w.heap.size + 1 + 1 + 1, 0, none⟩ (.int .i64 (cu - p0)))) := (H4.out.setCell (by simp; omega) _).setCell (by simp; omega) _
        clear hcell H1 H2 H3 H4 e0 e1 e2 e3
        simp only [Nat.reduceAdd] at *
        have fz0 := fz 0
        have fz4 := fz (4 + 0)
        clear fz
        simp at c6 fz4
        go_wp2
        go_roundw
        case rel => exact ⟨1, by omega, rfl, HG.out, HF.out, HI.out, HJ.out⟩
        case measure => simp [intOf]
      · have hi' : u22 = .int .i64 1 := hi
        subst hi'
        clear hi
        have d0 : wr.cell? ⟨w.heap.size + 1 + 1 + 1, 0, none⟩ = some (.int .i64 (cu - p0)) := by rw [hcell]; simp [outK, qk]
        have d4 : wr.cell? ⟨w.heap.size + 1 + 1 + 1, 4 + 1, none⟩ = some (.int .i64 0) := by rw [hcell]; simp [outK, qk]
        have w0 := W1.out
        have hix : ∀ w : World, (Instr.index 110 (.agg #[.int .i64 z0, .int .i64 z1, .int .i64 z2, .int .i64 z3]) (.int .i64 1)).run Tryz.prog w = .ok (.int .i64 z1) w := fun w => index_z4 w z0 z1 z2 z3 1 (by omega)
        have w0' := mul_wrap' (a := z1) (b := cg) (p := p1) (by assumption) (by omega) (by omega)
        have HF : Hid (Row ((wr.setCell ⟨w.heap.size + 1 + 1 + 1, 4 + 1, none⟩ (.int .i64 p1)).setCell ⟨w.heap.size + 1 + 1 + 1, 0, none⟩ (.int .i64 (cu - p0 - p1))) (w.heap.size + 1 + 1 + 1) 108 (outK ⟨cb, cp, cs, cu, co, cr, cg, ca, cz⟩ p0 p1 p2 p3 2)) := by
          unfold Hid
          have := (H2.out.put (4 + 1) (.int .i64 p1)).put 0 (.int .i64 (cu - p0 - p1))
          have e : ((outK ⟨cb, cp, cs, cu, co, cr, cg, ca, cz⟩ p0 p1 p2 p3 1).setIfInBounds (4 + 1) (.int .i64 p1)).setIfInBounds 0 (.int .i64 (cu - p0 - p1)) = outK ⟨cb, cp, cs, cu, co, cr, cg, ca, cz⟩ p0 p1 p2 p3 2 := by
            simp [outK, qk]; try omega
          rwa [e] at this
        have HG : Hid (Row ((wr.setCell ⟨w.heap.size + 1 + 1 + 1, 4 + 1, none⟩ (.int .i64 p1)).setCell ⟨w.heap.size + 1 + 1 + 1, 0, none⟩ (.int .i64 (cu - p0 - p1))) w.heap.size 23 #[.int .i64 cb, .int .i64 cp, .int .i64 cs, .int .i64 cu, .int .i64 co, .int .i64 cr, .int .i64 cg, .int .i64 ca, .int .i64 cz]) := (H1.out.far (by simp; omega) _).far (by simp; omega) _
        have HI : Hid (Row ((wr.setCell ⟨w.heap.size + 1 + 1 + 1, 4 + 1, none⟩ (.int .i64 p1)).setCell ⟨w.heap.size + 1 + 1 + 1, 0, none⟩ (.int .i64 (cu - p0 - p1))) (w.heap.size + 1 + 1) 108 #[.int .i64 0, .int .i64 0, .int .i64 0, .int .i64 0, .int .i64 0, .int .i64 0, .int .i64 0, .int .i64 0]) := (H3.out.far (by simp) _).far (by simp) _
        have HJ : Hid (Below w.heap.size w ((wr.setCell ⟨w.heap.size + 1 + 1 + 1, 4 + 1, none⟩ (.int .i64 p1)).setCell ⟨w.heap.size + 1 + 1 + 1, 0, none⟩ (.int .i64 (cu - p0 - p1)))) := (H4.out.setCell (by simp; omega) _).setCell (by simp; omega) _
        clear hcell H1 H2 H3 H4 e0 e1 e2 e3
        simp only [Nat.reduceAdd] at *
        have fz0 := fz 0
        have fz4 := fz (4 + 1)
        clear fz
        simp at c6 fz4
        go_wp2
        go_roundw
        case rel => exact ⟨2, by omega, rfl, HG.out, HF.out, HI.out, HJ.out⟩
        case measure => simp [intOf]
      · have hi' : u22 = .int .i64 2 := hi
        subst hi'
        clear hi
        have d0 : wr.cell? ⟨w.heap.size + 1 + 1 + 1, 0, none⟩ = some (.int .i64 (cu - (p0 + p1))) := by rw [hcell]; simp [outK, qk]
        have d4 : wr.cell? ⟨w.heap.size + 1 + 1 + 1, 4 + 2, none⟩ = some (.int .i64 0) := by rw [hcell]; simp [outK, qk]
        have w0 := W2.out
        have hix : ∀ w : World, (Instr.index 110 (.agg #[.int .i64 z0, .int .i64 z1, .int .i64 z2, .int .i64 z3]) (.int .i64 2)).run Tryz.prog w = .ok (.int .i64 z2) w := fun w => index_z4 w z0 z1 z2 z3 2 (by omega)
        have w0' := mul_wrap' (a := z2) (b := cg) (p := p2) (by assumption) (by omega) (by omega)
        have HF : Hid (Row ((wr.setCell ⟨w.heap.size + 1 + 1 + 1, 4 + 2, none⟩ (.int .i64 p2)).setCell ⟨w.heap.size + 1 + 1 + 1, 0, none⟩ (.int .i64 (cu - (p0 + p1) - p2))) (w.heap.size + 1 + 1 + 1) 108 (outK ⟨cb, cp, cs, cu, co, cr, cg, ca, cz⟩ p0 p1 p2 p3 3)) := by
          unfold Hid
          have := (H2.out.put (4 + 2) (.int .i64 p2)).put 0 (.int .i64 (cu - (p0 + p1) - p2))
          have e : ((outK ⟨cb, cp, cs, cu, co, cr, cg, ca, cz⟩ p0 p1 p2 p3 2).setIfInBounds (4 + 2) (.int .i64 p2)).setIfInBounds 0 (.int .i64 (cu - (p0 + p1) - p2)) = outK ⟨cb, cp, cs, cu, co, cr, cg, ca, cz⟩ p0 p1 p2 p3 3 := by
            simp [outK, qk]; try omega
          rwa [e] at this
        have HG : Hid (Row ((wr.setCell ⟨w.heap.size + 1 + 1 + 1, 4 + 2, none⟩ (.int .i64 p2)).setCell ⟨w.heap.size + 1 + 1 + 1, 0, none⟩ (.int .i64 (cu - (p0 + p1) - p2))) w.heap.size 23 #[.int .i64 cb, .int .i64 cp, .int .i64 cs, .int .i64 cu, .int .i64 co, .int .i64 cr, .int .i64 cg, .int .i64 ca, .int .i64 cz]) := (H1.out.far (by simp; omega) _).far (by simp; omega) _
        have HI : Hid (Row ((wr.setCell ⟨w.heap.size + 1 + 1 + 1, 4 + 2, none⟩ (.int .i64 p2)).setCell ⟨w.heap.size + 1 + 1 + 1, 0, none⟩ (.int .i64 (cu - (p0 + p1) - p2))) (w.heap.size + 1 + 1) 108 #[.int .i64 0, .int .i64 0, .int .i64 0, .int .i64 0, .int .i64 0, .int .i64 0, .int .i64 0, .int .i64 0]) := (H3.out.far (by simp) _).far (by simp) _
        have HJ : Hid (Below w.heap.size w ((wr.setCell ⟨w.heap.size + 1 + 1 + 1, 4 + 2, none⟩ (.int .i64 p2)).setCell ⟨w.heap.size + 1 + 1 + 1, 0, none⟩ (.int .i64 (cu - (p0 + p1) - p2)))) := (H4.out.setCell (by simp; omega) _).setCell (by simp; omega) _
        clear hcell H1 H2 H3 H4 e0 e1 e2 e3
        simp only [Nat.reduceAdd] at *
        have fz0 := fz 0
        have fz4 := fz (4 + 2)
        clear fz
        simp at c6 fz4
        go_wp2
        go_roundw
        case rel => exact ⟨3, by omega, rfl, HG.out, HF.out, HI.out, HJ.out⟩
        case measure => simp [intOf]
      · have hi' : u22 = .int .i64 3 := hi
        subst hi'
        clear hi
        have d0 : wr.cell? ⟨w.heap.size + 1 + 1 + 1, 0, none⟩ = some (.int .i64 (cu - (p0 + p1 + p2))) := by rw [hcell]; simp [outK, qk]
        have d4 : wr.cell? ⟨w.heap.size + 1 + 1 + 1, 4 + 3, none⟩ = some (.int .i64 0) := by rw [hcell]; simp [outK, qk]
        have w0 := W3.out
        have hix : ∀ w : World, (Instr.index 110 (.agg #[.int .i64 z0, .int .i64 z1, .int .i64 z2, .int .i64 z3]) (.int .i64 3)).run Tryz.prog w = .ok (.int .i64 z3) w := fun w => index_z4 w z0 z1 z2 z3 3 (by omega)
        have w0' := mul_wrap' (a := z3) (b := cg) (p := p3) (by assumption) (by omega) (by omega)
        have HF : Hid (Row ((wr.setCell ⟨w.heap.size + 1 + 1 + 1, 4 + 3, none⟩ (.int .i64 p3)).setCell ⟨w.heap.size + 1 + 1 + 1, 0, none⟩ (.int .i64 (cu - (p0 + p1 + p2) - p3))) (w.heap.size + 1 + 1 + 1) 108 (outK ⟨cb, cp, cs, cu, co, cr, cg, ca, cz⟩ p0 p1 p2 p3 4)) := by
          unfold Hid
          have := (H2.out.put (4 + 3) (.int .i64 p3)).put 0 (.int .i64 (cu - (p0 + p1 + p2) - p3))
          have e : ((outK ⟨cb, cp, cs, cu, co, cr, cg, ca, cz⟩ p0 p1 p2 p3 3).setIfInBounds (4 + 3) (.int .i64 p3)).setIfInBounds 0 (.int .i64 (cu - (p0 + p1 + p2) - p3)) = outK ⟨cb, cp, cs, cu, co, cr, cg, ca, cz⟩ p0 p1 p2 p3 4 := by
            simp [outK, qk]; try omega
          rwa [e] at this
        have HG : Hid (Row ((wr.setCell ⟨w.heap.size + 1 + 1 + 1, 4 + 3, none⟩ (.int .i64 p3)).setCell ⟨w.heap.size + 1 + 1 + 1, 0, none⟩ (.int .i64 (cu - (p0 + p1 + p2) - p3))) w.heap.size 23 #[.int .i64 cb, .int .i64 cp, .int .i64 cs, .int .i64 cu, .int .i64 co, .int .i64 cr, .int .i64 cg, .int .i64 ca, .int .i64 cz]) := (H1.out.far (by simp; omega) _).far (by simp; omega) _
        have HI : Hid (Row ((wr.setCell ⟨w.heap.size + 1 + 1 + 1, 4 + 3, none⟩ (.int .i64 p3)).setCell ⟨w.heap.size + 1 + 1 + 1, 0, none⟩ (.int .i64 (cu - (p0 + p1 + p2) - p3))) (w.heap.size + 1 + 1) 108 #[.int .i64 0, .int .i64 0, .int .i64 0, .int .i64 0, .int .i64 0, .int .i64 0, .int .i64 0, .int .i64 0]) := (H3.out.far (by simp) _).far (by simp) _
        have HJ : Hid (Below w.heap.size w ((wr.setCell ⟨w.heap.size + 1 + 1 + 1, 4 + 3, none⟩ (.int .i64 p3)).setCell ⟨w.heap.size + 1 + 1 + 1, 0, none⟩ (.int .i64 (cu - (p0 + p1 + p2) - p3)))) := (H4.out.setCell (by simp; omega) _).setCell (by simp; omega) _
        clear hcell H1 H2 H3 H4 e0 e1 e2 e3
        simp only [Nat.reduceAdd] at *
        have fz0 := fz 0
        have fz4 := fz (4 + 3)
        clear fz
        simp at c6 fz4
        go_wp2
        go_roundw
        case rel => exact ⟨4, by omega, rfl, HG.out, HF.out, HI.out, HJ.out⟩
        case measure => simp [intOf]
      · have hi' : u22 = .int .i64 4 := hi
        subst hi'
        have HO : Hid (Row wr (w.heap.size + 1 + 1 + 1) 108 (sizesA ⟨cb, cp, cs, cu, co, cr, cg, ca, cz⟩ ⟨z0, z1, z2, z3, en, dn⟩)) := by
          have := H2.out
          rw [show ((4 : Nat) : Int) = 4 from rfl] at *
          rw [HA.out] at this; exact this
        have HZ := H3
        have HB := H4
        clear hcell c6 H1 H2 H3 H4 fz HE W0 W1 W2 W3 HA hi
        go_wp2_with (first | (with_reducible refine wpList_load_whole (o := ⟨some 42, .load 108 (.tmp 5), _, _, _, _⟩) rfl 108 (.tmp 5) rfl (w.heap.size + 1 + 1 + 1) rfl 108 (sizesA ⟨cb, cp, cs, cu, co, cr, cg, ca, cz⟩ ⟨z0, z1, z2, z3, en, dn⟩) HO.out 8 3 Tryz.underlying108 sizesA_info ?_) | (with_reducible refine wpList_store_whole (o := ⟨none, .store 108 (.tmp 4) (.tmp 42), _, _, _, _⟩) rfl 108 (.tmp 4) (.tmp 42) rfl (w.heap.size + 1 + 1) (sizesA ⟨cb, cp, cs, cu, co, cr, cg, ca, cz⟩ ⟨z0, z1, z2, z3, en, dn⟩) rfl rfl 108 #[.int .i64 0, .int .i64 0, .int .i64 0, .int .i64 0, .int .i64 0, .int .i64 0, .int .i64 0, .int .i64 0] HZ.out sizesA_info rfl (sizesA_one _ _) ?_))
        intro w3 HR3 hg3
        go_wp2_with fail
        refine bodyPost_ret (v := .agg (sizesA ⟨cb, cp, cs, cu, co, cr, cg, ca, cz⟩ ⟨z0, z1, z2, z3, en, dn⟩)) (results_cell_row rfl _ _ (w.heap.size + 1 + 1) 108 _ (0, 0) _ rfl HR3.out Tryz.underlying108 rfl sizesA_info) rfl ⟨rfl, ?_⟩
        exact below_grown HB.out hg3 (HB.out).size (by omega)
end Go.Proofs.YtclhhdodebdmjaaGreat

namespace Go.Proofs.YtclhhdodebdmjaaGreat
open Go.RowKit Go.MapKept Go.ChangeMaps
set_option linter.unusedVariables false
set_option linter.unusedSimpArgs false
set_option maxRecDepth 100000

/-- A table in memory, whether it has been reckoned or not. -/
def TbIs (w : World) (g : Nat) (c : Cf) (s now : St) : Prop := ∃ r, Row w g 197 (tabV c s now r)
/-- What first holds behind k rounds. -/
def frK (c : Cf) (s : St) (k a : Nat) : Int := if orderL.idxOf a < k then firstV c s a else 0
def tabK (c : Cf) (s now : St) (k : Nat) : Array Value :=
  (c.l ++ (s.l ++ (now.l ++ ([Value.int .u32 0, Value.int .i32 1, Value.int .u32 0] ++ ((List.range 8).map (fun a => Value.int .i64 (sizeV c now a)) ++ (List.range 8).map (fun a => Value.int .i64 (frK c now k a))))))).toArray
theorem tabW_sizes (c : Cf) (s now : St) (n0 n1 n2 n3 n4 n5 n6 n7 : Int) : (((((((((tabW c s now 0 1 false).setIfInBounds 24 (.int .i64 n0)).setIfInBounds 25 (.int .i64 n1)).setIfInBounds 26 (.int .i64 n2)).setIfInBounds 27 (.int .i64 n3)).setIfInBounds 28 (.int .i64 n4)).setIfInBounds 29 (.int .i64 n5)).setIfInBounds 30 (.int .i64 n6)).setIfInBounds 31 (.int .i64 n7)) = (c.l ++ (s.l ++ (now.l ++ ([Value.int .u32 0, Value.int .i32 1, Value.int .u32 0] ++ ([Value.int .i64 n0, .int .i64 n1, .int .i64 n2, .int .i64 n3, .int .i64 n4, .int .i64 n5, .int .i64 n6, .int .i64 n7] ++ [Value.int .i64 0, .int .i64 0, .int .i64 0, .int .i64 0, .int .i64 0, .int .i64 0, .int .i64 0, .int .i64 0]))))).toArray := by
  unfold tabW
  rw [show List.range 8 = [0, 1, 2, 3, 4, 5, 6, 7] from rfl]
  simp only [Cf.l, St.l, List.cons_append, List.nil_append, List.map_cons, List.map_nil, List.setIfInBounds_toArray, List.set_cons_succ, List.set_cons_zero, Bool.false_eq_true, if_false]
theorem tabK_all (c : Cf) (s now : St) : tabK c s now 8 = tabW c s now 0 1 true := by
  unfold tabK tabW
  rw [show List.range 8 = [0, 1, 2, 3, 4, 5, 6, 7] from rfl]
  simp [frK, orderL, List.idxOf, List.findIdx, List.findIdx.go]
set_option maxHeartbeats 4000000 in
theorem reckon1 (g : Nat) (pl : Addr) (hpb : ¬ g = pl.block) (c : Cf) (s now : St) (hp : Plain c) (hs : StOk c now) (w : World) (hpl : w.cell? pl = some (.pointer (some ⟨g, 0, none⟩))) (h : Row w g 197 (tabW c s now 0 1 false)) :
    Calls Tryz.prog 171 #[.pointer (some pl)] w fun e w' => e = .returned (.tuple #[]) ∧ Row w' g 197 (tabW c s now 0 1 true) ∧ Turns w w' [g] := by
  have HS := fun wr => Lib.hid (Sizes_any c now hp hs wr)
  have k1 : ∀ t : Kept w [], t.u.cell? pl = some (.pointer (some ⟨g, 0, none⟩)) := fun t => t.h.cell hpl (by simp)
  have hR : ∀ t : Kept w [], Row t.u g 197 (tabW c s now 0 1 false) := fun t => t.h.row h (by simp)
  obtain ⟨n0, n1, n2, n3, n4, n5, n6, n7, s0, s1, s2, s3, s4, s5, s6, s7, f0, f4, f5, f6, f7, f1, f2, f3, ht, b0, b1, b2, b3, b4, b5, b6, b7, bt⟩ := sizes_are hp hs
  have hsz : sizesA c now = #[.int .i64 n0, .int .i64 n1, .int .i64 n2, .int .i64 n3, .int .i64 n4, .int .i64 n5, .int .i64 n6, .int .i64 n7] := by simp [sizesA, s0, s1, s2, s3, s4, s5, s6, s7]
  rw [hsz] at HS
  have HT := Lib.hid ht
  have HT2 := Lib.hid bt
  have HW : ∀ k, k ≤ 8 → Hid (tabK c s now k = (c.l ++ (s.l ++ (now.l ++ ([Value.int .u32 0, Value.int .i32 1, Value.int .u32 0] ++ ([Value.int .i64 n0, .int .i64 n1, .int .i64 n2, .int .i64 n3, .int .i64 n4, .int .i64 n5, .int .i64 n6, .int .i64 n7] ++
      [Value.int .i64 0, .int .i64 (if k ≤ 5 then 0 else n0 + n4 + n5 + n6 + n7), .int .i64 (if k ≤ 6 then 0 else n0 + n4 + n5 + n6 + n7 + n1), .int .i64 (if k ≤ 7 then 0 else n0 + n4 + n5 + n6 + n7 + n1 + n2), .int .i64 (if k ≤ 1 then 0 else n0), .int .i64 (if k ≤ 2 then 0 else n0 + n4), .int .i64 (if k ≤ 3 then 0 else n0 + n4 + n5), .int .i64 (if k ≤ 4 then 0 else n0 + n4 + n5 + n6)]))))).toArray) := by
    intro k hk
    unfold Hid
    have : k = 0 ∨ k = 1 ∨ k = 2 ∨ k = 3 ∨ k = 4 ∨ k = 5 ∨ k = 6 ∨ k = 7 ∨ k = 8 := by omega
    rcases this with rfl | rfl | rfl | rfl | rfl | rfl | rfl | rfl | rfl
    all_goals
      unfold tabK
      rw [show List.range 8 = [0, 1, 2, 3, 4, 5, 6, 7] from rfl]
      simp [frK, orderL, s0, s1, s2, s3, s4, s5, s6, s7, f0, f1, f2, f3, f4, f5, f6, f7, List.idxOf, List.findIdx, List.findIdx.go]
  clear s0 s1 s2 s3 s4 s5 s6 s7 f0 f1 f2 f3 f4 f5 f6 f7 hsz ht bt
  obtain ⟨cb, cp, cs, cu, co, cr, cg, ca, cz⟩ := c
  obtain ⟨z0, z1, z2, z3, en, dn⟩ := now
  have q0 : ∀ t : Kept w [], t.u.cell? ⟨g, 0, none⟩ = some (.int .i64 cb) := fun t => by rw [(hR t).cell]; rfl
  have q1 : ∀ t : Kept w [], t.u.cell? ⟨g, 1, none⟩ = some (.int .i64 cp) := fun t => by rw [(hR t).cell]; rfl
  have q2 : ∀ t : Kept w [], t.u.cell? ⟨g, 2, none⟩ = some (.int .i64 cs) := fun t => by rw [(hR t).cell]; rfl
  have q3 : ∀ t : Kept w [], t.u.cell? ⟨g, 3, none⟩ = some (.int .i64 cu) := fun t => by rw [(hR t).cell]; rfl
  have q4 : ∀ t : Kept w [], t.u.cell? ⟨g, 4, none⟩ = some (.int .i64 co) := fun t => by rw [(hR t).cell]; rfl
  have q5 : ∀ t : Kept w [], t.u.cell? ⟨g, 5, none⟩ = some (.int .i64 cr) := fun t => by rw [(hR t).cell]; rfl
  have q6 : ∀ t : Kept w [], t.u.cell? ⟨g, 6, none⟩ = some (.int .i64 cg) := fun t => by rw [(hR t).cell]; rfl
  have q7 : ∀ t : Kept w [], t.u.cell? ⟨g, 7, none⟩ = some (.int .i64 ca) := fun t => by rw [(hR t).cell]; rfl
  have q8 : ∀ t : Kept w [], t.u.cell? ⟨g, 8, none⟩ = some (.int .i64 cz) := fun t => by rw [(hR t).cell]; rfl
  have r0 : ∀ t : Kept w [], t.u.cell? ⟨g, 15, none⟩ = some (.int .i64 z0) := fun t => by rw [(hR t).cell]; rfl
  have r1 : ∀ t : Kept w [], t.u.cell? ⟨g, 16, none⟩ = some (.int .i64 z1) := fun t => by rw [(hR t).cell]; rfl
  have r2 : ∀ t : Kept w [], t.u.cell? ⟨g, 17, none⟩ = some (.int .i64 z2) := fun t => by rw [(hR t).cell]; rfl
  have r3 : ∀ t : Kept w [], t.u.cell? ⟨g, 18, none⟩ = some (.int .i64 z3) := fun t => by rw [(hR t).cell]; rfl
  simp only [Cf.l, St.za] at *
  have HR0 := Lib.hid h
  have HP0 := Lib.hid hpl
  clear hR h hpl hp hs
  go_enter Tryz.func171, Tryz.ntmps171
  go_wp2_with fail
  refine wp_region_noPanic ?_
  (refine region_kept ([]) [0, 1, 2, 3, 4, 5, 6, 7, 8, 9] [10, 11, 12, 13] (by kernel_rfl) (by kernel_rfl) (fun _ _ _ _ _ h => h) ?_; simp only [List.filterMap_cons, List.getElem?_cons_zero, List.getElem?_cons_succ, List.filterMap_nil]; (repeat ((show wpQuiet _ _ _ _ (_ :: _) _); go_big_quiet_step (fail))); refine wpQuiet_nil ?_)
  clear q0 q1 q2 q3 q4 q5 q6 q7 q8 r0 r1 r2 r3 k1
  refine wpSeqS_step ?_
  go_wp2_with fail
  refine (HS _).out.mono ?_
  rintro e w1 ⟨rfl, hb⟩
  have hb1 : Below w.heap.size w w1 := (Below.refl _ _).drew.trans hb
  have HB1 := Lib.hid hb1
  clear hb HS
  go_wp2_with fail
  refine outQ_normal (Turns.of_below hb1 _) ?_
  refine wpSeqS_step ?_
  go_wp2_with fail
  refine outQ_normal (Turns.of_below hb1 _) ?_
  refine wpSeqS_step ?_
  go_wp2_with fail
  refine outQ_normal (Turns.of_below hb1 _) ?_
  have hr1 := HR0.out.below hb1 HR0.out.lt
  have HR1 := Lib.hid hr1
  have u0 : w1.cell? ⟨g, 24, none⟩ = some (.int .i64 0) := by rw [hr1.cell]; rfl
  have v0 : w1.frozen? ⟨g, 24, none⟩ = false := hr1.frozen _
  have u1 : w1.cell? ⟨g, 25, none⟩ = some (.int .i64 0) := by rw [hr1.cell]; rfl
  have v1 : w1.frozen? ⟨g, 25, none⟩ = false := hr1.frozen _
  have u2 : w1.cell? ⟨g, 26, none⟩ = some (.int .i64 0) := by rw [hr1.cell]; rfl
  have v2 : w1.frozen? ⟨g, 26, none⟩ = false := hr1.frozen _
  have u3 : w1.cell? ⟨g, 27, none⟩ = some (.int .i64 0) := by rw [hr1.cell]; rfl
  have v3 : w1.frozen? ⟨g, 27, none⟩ = false := hr1.frozen _
  have u4 : w1.cell? ⟨g, 28, none⟩ = some (.int .i64 0) := by rw [hr1.cell]; rfl
  have v4 : w1.frozen? ⟨g, 28, none⟩ = false := hr1.frozen _
  have u5 : w1.cell? ⟨g, 29, none⟩ = some (.int .i64 0) := by rw [hr1.cell]; rfl
  have v5 : w1.frozen? ⟨g, 29, none⟩ = false := hr1.frozen _
  have u6 : w1.cell? ⟨g, 30, none⟩ = some (.int .i64 0) := by rw [hr1.cell]; rfl
  have v6 : w1.frozen? ⟨g, 30, none⟩ = false := hr1.frozen _
  have u7 : w1.cell? ⟨g, 31, none⟩ = some (.int .i64 0) := by rw [hr1.cell]; rfl
  have v7 : w1.frozen? ⟨g, 31, none⟩ = false := hr1.frozen _
  clear hr1
  have HRK : Hid (Row ((((((((w1.setCell ⟨g, 24, none⟩ (.int .i64 n0)).setCell ⟨g, 25, none⟩ (.int .i64 n1)).setCell ⟨g, 26, none⟩ (.int .i64 n2)).setCell ⟨g, 27, none⟩ (.int .i64 n3)).setCell ⟨g, 28, none⟩ (.int .i64 n4)).setCell ⟨g, 29, none⟩ (.int .i64 n5)).setCell ⟨g, 30, none⟩ (.int .i64 n6)).setCell ⟨g, 31, none⟩ (.int .i64 n7)) g 197 (tabK ⟨cb, cp, cs, cu, co, cr, cg, ca, cz⟩ s ⟨z0, z1, z2, z3, en, dn⟩ 0)) := by
    have := ((((((((HR1.out.put 24 (.int .i64 n0)).put 25 (.int .i64 n1)).put 26 (.int .i64 n2)).put 27 (.int .i64 n3)).put 28 (.int .i64 n4)).put 29 (.int .i64 n5)).put 30 (.int .i64 n6)).put 31 (.int .i64 n7))
    rw [tabW_sizes] at this
    rw [(HW 0 (by omega)).out]
    exact this
  have hTK : Turns w ((((((((w1.setCell ⟨g, 24, none⟩ (.int .i64 n0)).setCell ⟨g, 25, none⟩ (.int .i64 n1)).setCell ⟨g, 26, none⟩ (.int .i64 n2)).setCell ⟨g, 27, none⟩ (.int .i64 n3)).setCell ⟨g, 28, none⟩ (.int .i64 n4)).setCell ⟨g, 29, none⟩ (.int .i64 n5)).setCell ⟨g, 30, none⟩ (.int .i64 n6)).setCell ⟨g, 31, none⟩ (.int .i64 n7)) [g] := (((((((((Turns.of_below HB1.out [g]).setCell (by simp) _).setCell (by simp) _).setCell (by simp) _).setCell (by simp) _).setCell (by simp) _).setCell (by simp) _).setCell (by simp) _).setCell (by simp) _)
  have HTK := Lib.hid hTK
  have HPK : Hid (((((((((w1.setCell ⟨g, 24, none⟩ (.int .i64 n0)).setCell ⟨g, 25, none⟩ (.int .i64 n1)).setCell ⟨g, 26, none⟩ (.int .i64 n2)).setCell ⟨g, 27, none⟩ (.int .i64 n3)).setCell ⟨g, 28, none⟩ (.int .i64 n4)).setCell ⟨g, 29, none⟩ (.int .i64 n5)).setCell ⟨g, 30, none⟩ (.int .i64 n6)).setCell ⟨g, 31, none⟩ (.int .i64 n7)).cell? pl = some (.pointer (some ⟨g, 0, none⟩))) := hTK.cell HP0.out (by simp; exact fun h => hpb h.symm)
  refine wpSeqS_last ?_
  go_wp2_with fail
  refine NoPanic.normal ?_
  clear u0 u1 u2 u3 u4 u5 u6 u7 v0 v1 v2 v3 v4 v5 v6 v7 HR1 HB1 hb1 HR0 hTK HP0
  generalize ((((((((w1.setCell ⟨g, 24, none⟩ (.int .i64 n0)).setCell ⟨g, 25, none⟩ (.int .i64 n1)).setCell ⟨g, 26, none⟩ (.int .i64 n2)).setCell ⟨g, 27, none⟩ (.int .i64 n3)).setCell ⟨g, 28, none⟩ (.int .i64 n4)).setCell ⟨g, 29, none⟩ (.int .i64 n5)).setCell ⟨g, 30, none⟩ (.int .i64 n6)).setCell ⟨g, 31, none⟩ (.int .i64 n7)) = w2 at *
  go_wp2_with fail
  refine (order_any _).mono ?_
  rintro e w3 ⟨rfl, hb3⟩
  have HR3 := Lib.hid (HRK.out.below hb3 HRK.out.lt)
  have HT3 := Lib.hid (HTK.out.then_below hb3)
  have HP3 : Hid (w3.cell? pl = some (.pointer (some ⟨g, 0, none⟩))) := (Turns.of_below hb3 []).cell HPK.out (by simp)
  clear hb3 HRK HTK HPK
  go_wp2
  go_loopw [1, 18] (fun av i wr => ∃ k : Nat, k ≤ 8 ∧ i = .int .i64 k ∧ av = .int .i64 (([0, n0, n0 + n4, n0 + n4 + n5, n0 + n4 + n5 + n6, n0 + n4 + n5 + n6 + n7, n0 + n4 + n5 + n6 + n7 + n1, n0 + n4 + n5 + n6 + n7 + n1 + n2, n0 + n4 + n5 + n6 + n7 + n1 + n2 + n3] : List Int).getD k 0) ∧ Row wr g 197 (tabK ⟨cb, cp, cs, cu, co, cr, cg, ca, cz⟩ s ⟨z0, z1, z2, z3, en, dn⟩ k) ∧ wr.cell? pl = some (.pointer (some ⟨g, 0, none⟩)) ∧ Turns w wr [g]) (fun _ i _ => (8 - intOf i).toNat)
  case atStart => exact ⟨0, by omega, rfl, rfl, HR3.out, HP3.out, HT3.out⟩
  case round =>
    obtain ⟨k, hk, hi, ha, h1, hpl, h3⟩ := hrel
    have H1 := Lib.hid h1
    have HPl := Lib.hid hpl
    have H3 := Lib.hid h3
    have hcell := fun j => h1.cell j
    have fz := fun j => h1.frozen j
    rw [(HW k hk).out] at hcell
    clear h1 h3 HR3 HP3 HT3
    have hk' : k = 0 ∨ k = 1 ∨ k = 2 ∨ k = 3 ∨ k = 4 ∨ k = 5 ∨ k = 6 ∨ k = 7 ∨ k = 8 := by omega
    clear hk
    rcases hk' with rfl | rfl | rfl | rfl | rfl | rfl | rfl | rfl | rfl
    · have hi' : u18 = .int .i64 0 := hi
      have ha' : u1 = .int .i64 (0) := ha
      subst hi'
      subst ha'
      clear hi ha
      have hix : ∀ w : World, (Instr.index 108 (.agg #[.int .i64 0, .int .i64 4, .int .i64 5, .int .i64 6, .int .i64 7, .int .i64 1, .int .i64 2, .int .i64 3]) (.int .i64 0)).run Tryz.prog w = .ok (.int .i64 0) w := fun w => index_z8 w [0, 4, 5, 6, 7, 1, 2, 3] rfl 0 (by omega)
      have d0 : wr.cell? ⟨g, 32, none⟩ = some (.int .i64 0) := by rw [hcell]; rfl
      have d1 : wr.cell? ⟨g, 24, none⟩ = some (.int .i64 n0) := by rw [hcell]; rfl
      have fz0 := fz 32
      have HF : Hid (Row (wr.setCell ⟨g, 32, none⟩ (.int .i64 (0))) g 197 (tabK ⟨cb, cp, cs, cu, co, cr, cg, ca, cz⟩ s ⟨z0, z1, z2, z3, en, dn⟩ 1)) := by
        unfold Hid
        have := H1.out.put 32 (.int .i64 (0))
        rw [(HW 0 (by omega)).out] at this
        rw [(HW 1 (by omega)).out]
        simpa [Cf.l, St.l] using this
      have hT : Turns w (wr.setCell ⟨g, 32, none⟩ (.int .i64 (0))) [g] := H3.out.setCell (by simp) _
      have HT5 := Lib.hid hT
      have HP : Hid ((wr.setCell ⟨g, 32, none⟩ (.int .i64 (0))).cell? pl = some (.pointer (some ⟨g, 0, none⟩))) := (World.cell?_setCell_other _ ⟨g, 32, none⟩ pl _ (fun h => hpb (by rw [← h]))).trans HPl.out
      have hbt : n0 + n4 + n5 + n6 + n7 + n1 + n2 + n3 ≤ 17152 := by have := HT.out; have := HT2.out; omega
      clear hcell fz H1 H3 hT HW
      have hp2 := HP.out
      go_wp2
      go_roundw
      case rel => exact ⟨1, by omega, rfl, rfl, HF.out, HP.out, HT5.out⟩
      case measure => simp [intOf]
    · have hi' : u18 = .int .i64 1 := hi
      have ha' : u1 = .int .i64 (n0) := ha
      subst hi'
      subst ha'
      clear hi ha
      have hix : ∀ w : World, (Instr.index 108 (.agg #[.int .i64 0, .int .i64 4, .int .i64 5, .int .i64 6, .int .i64 7, .int .i64 1, .int .i64 2, .int .i64 3]) (.int .i64 1)).run Tryz.prog w = .ok (.int .i64 4) w := fun w => index_z8 w [0, 4, 5, 6, 7, 1, 2, 3] rfl 1 (by omega)
      have d0 : wr.cell? ⟨g, 36, none⟩ = some (.int .i64 0) := by rw [hcell]; rfl
      have d1 : wr.cell? ⟨g, 28, none⟩ = some (.int .i64 n4) := by rw [hcell]; rfl
      have fz0 := fz 36
      have HF : Hid (Row (wr.setCell ⟨g, 36, none⟩ (.int .i64 (n0))) g 197 (tabK ⟨cb, cp, cs, cu, co, cr, cg, ca, cz⟩ s ⟨z0, z1, z2, z3, en, dn⟩ 2)) := by
        unfold Hid
        have := H1.out.put 36 (.int .i64 (n0))
        rw [(HW 1 (by omega)).out] at this
        rw [(HW 2 (by omega)).out]
        simpa [Cf.l, St.l] using this
      have hT : Turns w (wr.setCell ⟨g, 36, none⟩ (.int .i64 (n0))) [g] := H3.out.setCell (by simp) _
      have HT5 := Lib.hid hT
      have HP : Hid ((wr.setCell ⟨g, 36, none⟩ (.int .i64 (n0))).cell? pl = some (.pointer (some ⟨g, 0, none⟩))) := (World.cell?_setCell_other _ ⟨g, 36, none⟩ pl _ (fun h => hpb (by rw [← h]))).trans HPl.out
      have hbt : n0 + n4 + n5 + n6 + n7 + n1 + n2 + n3 ≤ 17152 := by have := HT.out; have := HT2.out; omega
      clear hcell fz H1 H3 hT HW
      have hp2 := HP.out
      go_wp2
      go_roundw
      case rel => exact ⟨2, by omega, rfl, rfl, HF.out, HP.out, HT5.out⟩
      case measure => simp [intOf]
    · have hi' : u18 = .int .i64 2 := hi
      have ha' : u1 = .int .i64 (n0 + n4) := ha
      subst hi'
      subst ha'
      clear hi ha
      have hix : ∀ w : World, (Instr.index 108 (.agg #[.int .i64 0, .int .i64 4, .int .i64 5, .int .i64 6, .int .i64 7, .int .i64 1, .int .i64 2, .int .i64 3]) (.int .i64 2)).run Tryz.prog w = .ok (.int .i64 5) w := fun w => index_z8 w [0, 4, 5, 6, 7, 1, 2, 3] rfl 2 (by omega)
      have d0 : wr.cell? ⟨g, 37, none⟩ = some (.int .i64 0) := by rw [hcell]; rfl
      have d1 : wr.cell? ⟨g, 29, none⟩ = some (.int .i64 n5) := by rw [hcell]; rfl
      have fz0 := fz 37
      have HF : Hid (Row (wr.setCell ⟨g, 37, none⟩ (.int .i64 (n0 + n4))) g 197 (tabK ⟨cb, cp, cs, cu, co, cr, cg, ca, cz⟩ s ⟨z0, z1, z2, z3, en, dn⟩ 3)) := by
        unfold Hid
        have := H1.out.put 37 (.int .i64 (n0 + n4))
        rw [(HW 2 (by omega)).out] at this
        rw [(HW 3 (by omega)).out]
        simpa [Cf.l, St.l] using this
      have hT : Turns w (wr.setCell ⟨g, 37, none⟩ (.int .i64 (n0 + n4))) [g] := H3.out.setCell (by simp) _
      have HT5 := Lib.hid hT
      have HP : Hid ((wr.setCell ⟨g, 37, none⟩ (.int .i64 (n0 + n4))).cell? pl = some (.pointer (some ⟨g, 0, none⟩))) := (World.cell?_setCell_other _ ⟨g, 37, none⟩ pl _ (fun h => hpb (by rw [← h]))).trans HPl.out
      have hbt : n0 + n4 + n5 + n6 + n7 + n1 + n2 + n3 ≤ 17152 := by have := HT.out; have := HT2.out; omega
      clear hcell fz H1 H3 hT HW
      have hp2 := HP.out
      go_wp2
      go_roundw
      case rel => exact ⟨3, by omega, rfl, rfl, HF.out, HP.out, HT5.out⟩
      case measure => simp [intOf]
    · have hi' : u18 = .int .i64 3 := hi
      have ha' : u1 = .int .i64 (n0 + n4 + n5) := ha
      subst hi'
      subst ha'
      clear hi ha
      have hix : ∀ w : World, (Instr.index 108 (.agg #[.int .i64 0, .int .i64 4, .int .i64 5, .int .i64 6, .int .i64 7, .int .i64 1, .int .i64 2, .int .i64 3]) (.int .i64 3)).run Tryz.prog w = .ok (.int .i64 6) w := fun w => index_z8 w [0, 4, 5, 6, 7, 1, 2, 3] rfl 3 (by omega)
      have d0 : wr.cell? ⟨g, 38, none⟩ = some (.int .i64 0) := by rw [hcell]; rfl
      have d1 : wr.cell? ⟨g, 30, none⟩ = some (.int .i64 n6) := by rw [hcell]; rfl
      have fz0 := fz 38
      have HF : Hid (Row (wr.setCell ⟨g, 38, none⟩ (.int .i64 (n0 + n4 + n5))) g 197 (tabK ⟨cb, cp, cs, cu, co, cr, cg, ca, cz⟩ s ⟨z0, z1, z2, z3, en, dn⟩ 4)) := by
        unfold Hid
        have := H1.out.put 38 (.int .i64 (n0 + n4 + n5))
        rw [(HW 3 (by omega)).out] at this
        rw [(HW 4 (by omega)).out]
        simpa [Cf.l, St.l] using this
      have hT : Turns w (wr.setCell ⟨g, 38, none⟩ (.int .i64 (n0 + n4 + n5))) [g] := H3.out.setCell (by simp) _
      have HT5 := Lib.hid hT
      have HP : Hid ((wr.setCell ⟨g, 38, none⟩ (.int .i64 (n0 + n4 + n5))).cell? pl = some (.pointer (some ⟨g, 0, none⟩))) := (World.cell?_setCell_other _ ⟨g, 38, none⟩ pl _ (fun h => hpb (by rw [← h]))).trans HPl.out
      have hbt : n0 + n4 + n5 + n6 + n7 + n1 + n2 + n3 ≤ 17152 := by have := HT.out; have := HT2.out; omega
      clear hcell fz H1 H3 hT HW
      have hp2 := HP.out
      go_wp2
      go_roundw
      case rel => exact ⟨4, by omega, rfl, rfl, HF.out, HP.out, HT5.out⟩
      case measure => simp [intOf]
    · have hi' : u18 = .int .i64 4 := hi
      have ha' : u1 = .int .i64 (n0 + n4 + n5 + n6) := ha
      subst hi'
      subst ha'
      clear hi ha
      have hix : ∀ w : World, (Instr.index 108 (.agg #[.int .i64 0, .int .i64 4, .int .i64 5, .int .i64 6, .int .i64 7, .int .i64 1, .int .i64 2, .int .i64 3]) (.int .i64 4)).run Tryz.prog w = .ok (.int .i64 7) w := fun w => index_z8 w [0, 4, 5, 6, 7, 1, 2, 3] rfl 4 (by omega)
      have d0 : wr.cell? ⟨g, 39, none⟩ = some (.int .i64 0) := by rw [hcell]; rfl
      have d1 : wr.cell? ⟨g, 31, none⟩ = some (.int .i64 n7) := by rw [hcell]; rfl
      have fz0 := fz 39
      have HF : Hid (Row (wr.setCell ⟨g, 39, none⟩ (.int .i64 (n0 + n4 + n5 + n6))) g 197 (tabK ⟨cb, cp, cs, cu, co, cr, cg, ca, cz⟩ s ⟨z0, z1, z2, z3, en, dn⟩ 5)) := by
        unfold Hid
        have := H1.out.put 39 (.int .i64 (n0 + n4 + n5 + n6))
        rw [(HW 4 (by omega)).out] at this
        rw [(HW 5 (by omega)).out]
        simpa [Cf.l, St.l] using this
      have hT : Turns w (wr.setCell ⟨g, 39, none⟩ (.int .i64 (n0 + n4 + n5 + n6))) [g] := H3.out.setCell (by simp) _
      have HT5 := Lib.hid hT
      have HP : Hid ((wr.setCell ⟨g, 39, none⟩ (.int .i64 (n0 + n4 + n5 + n6))).cell? pl = some (.pointer (some ⟨g, 0, none⟩))) := (World.cell?_setCell_other _ ⟨g, 39, none⟩ pl _ (fun h => hpb (by rw [← h]))).trans HPl.out
      have hbt : n0 + n4 + n5 + n6 + n7 + n1 + n2 + n3 ≤ 17152 := by have := HT.out; have := HT2.out; omega
      clear hcell fz H1 H3 hT HW
      have hp2 := HP.out
      go_wp2
      go_roundw
      case rel => exact ⟨5, by omega, rfl, rfl, HF.out, HP.out, HT5.out⟩
      case measure => simp [intOf]
    · have hi' : u18 = .int .i64 5 := hi
      have ha' : u1 = .int .i64 (n0 + n4 + n5 + n6 + n7) := ha
      subst hi'
      subst ha'
      clear hi ha
      have hix : ∀ w : World, (Instr.index 108 (.agg #[.int .i64 0, .int .i64 4, .int .i64 5, .int .i64 6, .int .i64 7, .int .i64 1, .int .i64 2, .int .i64 3]) (.int .i64 5)).run Tryz.prog w = .ok (.int .i64 1) w := fun w => index_z8 w [0, 4, 5, 6, 7, 1, 2, 3] rfl 5 (by omega)
      have d0 : wr.cell? ⟨g, 33, none⟩ = some (.int .i64 0) := by rw [hcell]; rfl
      have d1 : wr.cell? ⟨g, 25, none⟩ = some (.int .i64 n1) := by rw [hcell]; rfl
      have fz0 := fz 33
      have HF : Hid (Row (wr.setCell ⟨g, 33, none⟩ (.int .i64 (n0 + n4 + n5 + n6 + n7))) g 197 (tabK ⟨cb, cp, cs, cu, co, cr, cg, ca, cz⟩ s ⟨z0, z1, z2, z3, en, dn⟩ 6)) := by
        unfold Hid
        have := H1.out.put 33 (.int .i64 (n0 + n4 + n5 + n6 + n7))
        rw [(HW 5 (by omega)).out] at this
        rw [(HW 6 (by omega)).out]
        simpa [Cf.l, St.l] using this
      have hT : Turns w (wr.setCell ⟨g, 33, none⟩ (.int .i64 (n0 + n4 + n5 + n6 + n7))) [g] := H3.out.setCell (by simp) _
      have HT5 := Lib.hid hT
      have HP : Hid ((wr.setCell ⟨g, 33, none⟩ (.int .i64 (n0 + n4 + n5 + n6 + n7))).cell? pl = some (.pointer (some ⟨g, 0, none⟩))) := (World.cell?_setCell_other _ ⟨g, 33, none⟩ pl _ (fun h => hpb (by rw [← h]))).trans HPl.out
      have hbt : n0 + n4 + n5 + n6 + n7 + n1 + n2 + n3 ≤ 17152 := by have := HT.out; have := HT2.out; omega
      clear hcell fz H1 H3 hT HW
      have hp2 := HP.out
      go_wp2
      go_roundw
      case rel => exact ⟨6, by omega, rfl, rfl, HF.out, HP.out, HT5.out⟩
      case measure => simp [intOf]
    · have hi' : u18 = .int .i64 6 := hi
      have ha' : u1 = .int .i64 (n0 + n4 + n5 + n6 + n7 + n1) := ha
      subst hi'
      subst ha'
      clear hi ha
      have hix : ∀ w : World, (Instr.index 108 (.agg #[.int .i64 0, .int .i64 4, .int .i64 5, .int .i64 6, .int .i64 7, .int .i64 1, .int .i64 2, .int .i64 3]) (.int .i64 6)).run Tryz.prog w = .ok (.int .i64 2) w := fun w => index_z8 w [0, 4, 5, 6, 7, 1, 2, 3] rfl 6 (by omega)
      have d0 : wr.cell? ⟨g, 34, none⟩ = some (.int .i64 0) := by rw [hcell]; rfl
      have d1 : wr.cell? ⟨g, 26, none⟩ = some (.int .i64 n2) := by rw [hcell]; rfl
      have fz0 := fz 34
      have HF : Hid (Row (wr.setCell ⟨g, 34, none⟩ (.int .i64 (n0 + n4 + n5 + n6 + n7 + n1))) g 197 (tabK ⟨cb, cp, cs, cu, co, cr, cg, ca, cz⟩ s ⟨z0, z1, z2, z3, en, dn⟩ 7)) := by
        unfold Hid
        have := H1.out.put 34 (.int .i64 (n0 + n4 + n5 + n6 + n7 + n1))
        rw [(HW 6 (by omega)).out] at this
        rw [(HW 7 (by omega)).out]
        simpa [Cf.l, St.l] using this
      have hT : Turns w (wr.setCell ⟨g, 34, none⟩ (.int .i64 (n0 + n4 + n5 + n6 + n7 + n1))) [g] := H3.out.setCell (by simp) _
      have HT5 := Lib.hid hT
      have HP : Hid ((wr.setCell ⟨g, 34, none⟩ (.int .i64 (n0 + n4 + n5 + n6 + n7 + n1))).cell? pl = some (.pointer (some ⟨g, 0, none⟩))) := (World.cell?_setCell_other _ ⟨g, 34, none⟩ pl _ (fun h => hpb (by rw [← h]))).trans HPl.out
      have hbt : n0 + n4 + n5 + n6 + n7 + n1 + n2 + n3 ≤ 17152 := by have := HT.out; have := HT2.out; omega
      clear hcell fz H1 H3 hT HW
      have hp2 := HP.out
      go_wp2
      go_roundw
      case rel => exact ⟨7, by omega, rfl, rfl, HF.out, HP.out, HT5.out⟩
      case measure => simp [intOf]
    · have hi' : u18 = .int .i64 7 := hi
      have ha' : u1 = .int .i64 (n0 + n4 + n5 + n6 + n7 + n1 + n2) := ha
      subst hi'
      subst ha'
      clear hi ha
      have hix : ∀ w : World, (Instr.index 108 (.agg #[.int .i64 0, .int .i64 4, .int .i64 5, .int .i64 6, .int .i64 7, .int .i64 1, .int .i64 2, .int .i64 3]) (.int .i64 7)).run Tryz.prog w = .ok (.int .i64 3) w := fun w => index_z8 w [0, 4, 5, 6, 7, 1, 2, 3] rfl 7 (by omega)
      have d0 : wr.cell? ⟨g, 35, none⟩ = some (.int .i64 0) := by rw [hcell]; rfl
      have d1 : wr.cell? ⟨g, 27, none⟩ = some (.int .i64 n3) := by rw [hcell]; rfl
      have fz0 := fz 35
      have HF : Hid (Row (wr.setCell ⟨g, 35, none⟩ (.int .i64 (n0 + n4 + n5 + n6 + n7 + n1 + n2))) g 197 (tabK ⟨cb, cp, cs, cu, co, cr, cg, ca, cz⟩ s ⟨z0, z1, z2, z3, en, dn⟩ 8)) := by
        unfold Hid
        have := H1.out.put 35 (.int .i64 (n0 + n4 + n5 + n6 + n7 + n1 + n2))
        rw [(HW 7 (by omega)).out] at this
        rw [(HW 8 (by omega)).out]
        simpa [Cf.l, St.l] using this
      have hT : Turns w (wr.setCell ⟨g, 35, none⟩ (.int .i64 (n0 + n4 + n5 + n6 + n7 + n1 + n2))) [g] := H3.out.setCell (by simp) _
      have HT5 := Lib.hid hT
      have HP : Hid ((wr.setCell ⟨g, 35, none⟩ (.int .i64 (n0 + n4 + n5 + n6 + n7 + n1 + n2))).cell? pl = some (.pointer (some ⟨g, 0, none⟩))) := (World.cell?_setCell_other _ ⟨g, 35, none⟩ pl _ (fun h => hpb (by rw [← h]))).trans HPl.out
      have hbt : n0 + n4 + n5 + n6 + n7 + n1 + n2 + n3 ≤ 17152 := by have := HT.out; have := HT2.out; omega
      clear hcell fz H1 H3 hT HW
      have hp2 := HP.out
      go_wp2
      go_roundw
      case rel => exact ⟨8, by omega, rfl, rfl, HF.out, HP.out, HT5.out⟩
      case measure => simp [intOf]
    · have hi' : u18 = .int .i64 8 := hi
      subst hi'
      have HF : Hid (Row wr g 197 (tabW ⟨cb, cp, cs, cu, co, cr, cg, ca, cz⟩ s ⟨z0, z1, z2, z3, en, dn⟩ 0 1 true)) := by
        have := H1.out
        rwa [tabK_all] at this
      clear hi ha hcell fz H1
      go_wp2
      go_end0
      exact ⟨rfl, HF.out, H3.out⟩
/-- reckon. -/
theorem reckon_any (g : Nat) (c : Cf) (s now : St) (hp : OkC c) (hs : StOk c now) (w : World) (h : TbIs w g c s now) :
    Calls Tryz.prog 110 #[.pointer (some ⟨g, 0, none⟩)] w fun e w' => e = .returned (.tuple #[]) ∧ Row w' g 197 (tabV c s now true) ∧ Turns w w' [g] := by
  obtain ⟨r, h⟩ := h
  have hlt := h.lt
  have hmf : ∀ (fn : Fn) (first cap : Array Value) (w : World), (Instr.makeFunc fn first cap).run Tryz.prog w = .ok (.func fn first cap) w := fun _ _ _ _ => rfl
  have HR1 := Lib.hid (h.alloc (.cells #[.pointer (some ⟨g, 0, none⟩)] 42))
  have hc0 : (w.alloc (.cells #[.pointer (some ⟨g, 0, none⟩)] 42)).cell? ⟨w.heap.size, 0, none⟩ = some (.pointer (some ⟨g, 0, none⟩)) := by simp
  have HT0 : Hid (Turns w (w.alloc (.cells #[.pointer (some ⟨g, 0, none⟩)] 42)) []) := (Turns.refl _ _).alloc _
  have hne : ¬ g = w.heap.size := by omega
  cases r with
  | false =>
    rw [tabV_W] at HR1
    have HK : Reckons2 g ⟨w.heap.size, 0, none⟩ c s now := fun W a b => reckon1 g ⟨w.heap.size, 0, none⟩ hne c s now hp.1 hs W a b
    have HD := Lib.hid (do_first g ⟨w.heap.size, 0, none⟩ c s now HK hne _ hc0 HR1.out)
    clear HK h hlt hne hp hs
    go_enter Tryz.func110, Tryz.ntmps110
    go_wp2_with (go_at_call 170; refine HD.out.mono ?_; rintro e w2 ⟨rfl, hr, ht⟩)
    go_end0
    exact ⟨rfl, hr, (HT0.out.mono (by simp)).trans ht (by simp)⟩
  | true =>
    have hcd : (w.alloc (.cells #[.pointer (some ⟨g, 0, none⟩)] 42)).cell? ⟨g, 21, none⟩ = some (.int .u32 1) := by rw [HR1.out.cell]; rfl
    have HD := fun fv => Lib.hid (do_done ⟨g, 21, none⟩ fv _ hcd)
    clear h hlt hne hp hs hcd
    go_enter Tryz.func110, Tryz.ntmps110
    go_wp2_with (go_at_call 170; refine (HD _).out.mono ?_; rintro e w2 ⟨rfl, rfl⟩)
    go_end0
    exact ⟨rfl, HR1.out, HT0.out.mono (by simp)⟩
/-- Size, of an area that there is. -/
theorem Size_in (g : Nat) (c : Cf) (s now : St) (hp : OkC c) (hs : StOk c now) (n : Nat) (hn : n < 8) (w : World) (h : TbIs w g c s now) :
    Calls Tryz.prog 163 #[.pointer (some ⟨g, 0, none⟩), .int .i64 n] w fun e w' => e = .returned (.int .i64 (sizeV c now n)) ∧ Row w' g 197 (tabV c s now true) ∧ Turns w w' [g] := by
  have HR := Lib.hid (reckon_any g c s now hp hs w h)
  clear h hp hs
  go_enter Tryz.func163, Tryz.ntmps163
  go_wp2_with fail
  refine HR.out.mono ?_
  rintro e w2 ⟨rfl, hr, ht⟩
  have HF := Lib.hid hr
  have hl : w2.cell? ⟨g, 24 + n, none⟩ = some (.int .i64 (sizeV c now n)) := by
    rw [hr.cell]
    have : n = 0 ∨ n = 1 ∨ n = 2 ∨ n = 3 ∨ n = 4 ∨ n = 5 ∨ n = 6 ∨ n = 7 := by omega
    rcases this with rfl | rfl | rfl | rfl | rfl | rfl | rfl | rfl <;> rfl
  clear hr HR
  go_wp2
  go_ret
  exact ⟨rfl, HF.out, ht⟩
/-- Size. -/
theorem Size_any (g : Nat) (c : Cf) (s now : St) (hp : OkC c) (hs : StOk c now) (a : Int) (w : World) (h : TbIs w g c s now) :
    Calls Tryz.prog 163 #[.pointer (some ⟨g, 0, none⟩), .int .i64 a] w fun e w' => e = .returned (.int .i64 (sizeI c now a)) ∧ TbIs w' g c s now ∧ Turns w w' [g] := by
  by_cases ha : 0 ≤ a ∧ a < 8
  · have HE : sizeI c now a = sizeV c now a.toNat := by unfold sizeI; rw [if_pos ha]
    obtain ⟨n, rfl⟩ : ∃ n : Nat, a = n := ⟨a.toNat, by omega⟩
    rw [HE]
    exact (Size_in g c s now hp hs n (by omega) w h).mono fun e w' h => ⟨h.1, ⟨_, h.2.1⟩, h.2.2⟩
  · have hz : sizeI c now a = 0 := by unfold sizeI; rw [if_neg ha]
    rw [hz]
    clear hz hp hs
    by_cases h0 : a < 0
    · go_enter Tryz.func163, Tryz.ntmps163
      go_wp2
      go_ret
      exact ⟨rfl, h, Turns.refl _ _⟩
    · have h1 : 8 ≤ a := by omega
      clear ha
      go_enter Tryz.func163, Tryz.ntmps163
      go_wp2
      go_ret
      exact ⟨rfl, h, Turns.refl _ _⟩
end Go.Proofs.YtclhhdodebdmjaaGreat

namespace Go.Proofs.YtclhhdodebdmjaaGreat
open Go.RowKit Go.MapKept Go.ChangeMaps
set_option linter.unusedVariables false
set_option linter.unusedSimpArgs false
set_option maxRecDepth 100000

def placeW (c : Cf) (t : St) (a s : Int) : Value := .tuple #[.int .i64 ((placeI c t a s).getD 0), .bool (placeI c t a s).isSome]
def ofW (c : Cf) (t : St) (p : Int) : Value := match ofI c t p with | some x => .tuple #[.int .i64 x.1, .int .i64 x.2, .bool true] | Option.none => .tuple #[.int .i64 0, .int .i64 0, .bool false]
theorem Place_any (g : Nat) (c : Cf) (s now : St) (hp : OkC c) (hs : StOk c now) (a x : Int) (w : World) (h : TbIs w g c s now) :
    Calls Tryz.prog 101 #[.pointer (some ⟨g, 0, none⟩), .int .i64 a, .int .i64 x] w fun e w' => e = .returned (placeW c now a x) ∧ TbIs w' g c s now ∧ Turns w w' [g] := by
  by_cases h0 : x < 0
  · have hz : placeW c now a x = .tuple #[.int .i64 0, .bool false] := by unfold placeW placeI; rw [if_neg (by omega)]; rfl
    rw [hz]
    clear hz hp hs
    go_enter Tryz.func101, Tryz.ntmps101
    go_wp2
    go_ret2
    exact ⟨rfl, h, Turns.refl _ _⟩
  · by_cases h1 : x < sizeI c now a
    · have ha : 0 ≤ a ∧ a < 8 := by
        apply Classical.byContradiction
        intro hn
        unfold sizeI at h1; rw [if_neg hn] at h1; omega
      obtain ⟨n, rfl⟩ : ∃ n : Nat, a = n := ⟨a.toNat, by omega⟩
      have hz : placeW c now n x = .tuple #[.int .i64 (firstV c now n + x), .bool true] := by unfold placeW placeI; rw [if_pos (by omega)]; rfl
      have HE : sizeI c now n = sizeV c now n := by unfold sizeI; rw [if_pos ha]; rfl
      rw [HE] at h1
      rw [hz]
      have hfb := firstV_bd hp.1 hs n
      have hsb := sizeV_bd hp.1 hs n
      have HS := Lib.hid (Size_in g c s now hp hs n (by omega) w h)
      obtain ⟨f, hf⟩ : ∃ f, f = firstV c now n := ⟨_, rfl⟩
      obtain ⟨z, hz'⟩ : ∃ z, z = sizeV c now n := ⟨_, rfl⟩
      rw [← hf] at hfb ⊢
      rw [← hz'] at hfb hsb HS h1
      obtain ⟨hfb0, _, hfb1⟩ := hfb
      have hn8 : n < 8 := by omega
      have hx : x ≤ 16384 := by omega
      have HFf := Lib.hid hf
      clear hz hp hs h HE hz' hf ha
      go_enter Tryz.func101, Tryz.ntmps101
      go_wp2_with fail
      refine HS.out.mono ?_
      rintro e w2 ⟨rfl, hr, ht⟩
      have HF := Lib.hid hr
      have hl : w2.cell? ⟨g, 32 + n, none⟩ = some (.int .i64 f) := by
        rw [hr.cell, HFf.out]
        have : n = 0 ∨ n = 1 ∨ n = 2 ∨ n = 3 ∨ n = 4 ∨ n = 5 ∨ n = 6 ∨ n = 7 := by omega
        rcases this with rfl | rfl | rfl | rfl | rfl | rfl | rfl | rfl <;> rfl
      clear hr HS
      go_wp2
      go_ret2
      exact ⟨rfl, ⟨_, HF.out⟩, ht⟩
    · have hz : placeW c now a x = .tuple #[.int .i64 0, .bool false] := by unfold placeW placeI; rw [if_neg (by omega)]; rfl
      rw [hz]
      have HS := Lib.hid (Size_any g c s now hp hs a w h)
      obtain ⟨z, hz'⟩ : ∃ z, z = sizeI c now a := ⟨_, rfl⟩
      rw [← hz'] at HS h1
      clear hz hp hs h hz'
      go_enter Tryz.func101, Tryz.ntmps101
      go_wp2_with fail
      refine HS.out.mono ?_
      rintro e w2 ⟨rfl, hr, ht⟩
      go_wp2
      go_ret2
      exact ⟨rfl, hr, ht⟩
/-- Does a place lie in an area? -/
def inA (c : Cf) (t : St) (p : Int) (a : Nat) : Bool := decide (firstV c t a ≤ p ∧ p - firstV c t a < sizeV c t a)
theorem ofW_hit (c : Cf) (t : St) (p : Int) (k : Nat) (hk : k < 8) (hn : ∀ j, j < k → inA c t p (orderL.getD j 0) = false) (h : inA c t p (orderL.getD k 0) = true) : ofW c t p = .tuple #[.int .i64 (orderL.getD k 0 : Nat), .int .i64 (p - firstV c t (orderL.getD k 0)), .bool true] := by
  have e : ofI c t p = some (orderL.getD k 0, p - firstV c t (orderL.getD k 0)) := by
    unfold ofI
    have hf : orderL.find? (inA c t p) = some (orderL.getD k 0) := by
      have : k = 0 ∨ k = 1 ∨ k = 2 ∨ k = 3 ∨ k = 4 ∨ k = 5 ∨ k = 6 ∨ k = 7 := by omega
      have h0 := hn 0
      have h1 := hn 1
      have h2 := hn 2
      have h3 := hn 3
      have h4 := hn 4
      have h5 := hn 5
      have h6 := hn 6
      clear hn
      rcases this with rfl | rfl | rfl | rfl | rfl | rfl | rfl | rfl <;> simp [orderL] at h h0 h1 h2 h3 h4 h5 h6 ⊢ <;> simp [List.find?, *]
    show (orderL.find? (inA c t p)).map _ = _
    rw [hf]; rfl
  unfold ofW; rw [e]
theorem ofW_miss (c : Cf) (t : St) (p : Int) (hn : ∀ j, j < 8 → inA c t p (orderL.getD j 0) = false) : ofW c t p = .tuple #[.int .i64 0, .int .i64 0, .bool false] := by
  have e : ofI c t p = Option.none := by
    unfold ofI
    have hf : orderL.find? (inA c t p) = Option.none := by
      rw [List.find?_eq_none]
      intro x hx
      obtain ⟨j, hj, rfl⟩ := List.getElem_of_mem hx
      have := hn j hj
      simp [List.getD, hj] at this
      simp [this]
    show (orderL.find? (inA c t p)).map _ = _
    rw [hf]; rfl
  unfold ofW; rw [e]
set_option maxHeartbeats 4000000 in
theorem Of_any (g : Nat) (c : Cf) (s now : St) (hp : OkC c) (hs : StOk c now) (p : Int) (hp0 : 0 ≤ p) (hp1 : p ≤ 1000000) (w : World) (h : TbIs w g c s now) :
    Calls Tryz.prog 46 #[.pointer (some ⟨g, 0, none⟩), .int .i64 p] w fun e w' => e = .returned (ofW c now p) ∧ Row w' g 197 (tabV c s now true) ∧ Turns w w' [g] := by
  have HRk := Lib.hid (reckon_any g c s now hp hs w h)
  have Hp := Lib.hid hp
  have Hs := Lib.hid hs
  clear h hp hs
  go_enter Tryz.func46, Tryz.ntmps46
  go_wp2_with fail
  refine HRk.out.mono ?_
  rintro e w2 ⟨rfl, hr, ht⟩
  have HR2 := Lib.hid hr
  have HT2 := Lib.hid ht
  clear hr ht HRk
  go_wp2_with fail
  refine (order_any _).mono ?_
  rintro e w3 ⟨rfl, hb3⟩
  have HR3 := Lib.hid (HR2.out.below hb3 HR2.out.lt)
  have HT3 := Lib.hid (HT2.out.then_below hb3)
  clear hb3 HR2 HT2
  go_wp2
  go_loopw [13] (fun i wr => ∃ k : Nat, k ≤ 8 ∧ i = .int .i64 k ∧ Row wr g 197 (tabV c s now true) ∧ (∀ j, j < k → inA c now p (orderL.getD j 0) = false) ∧ Turns w wr [g]) (fun i _ => (8 - intOf i).toNat)
  case atStart => exact ⟨0, by omega, rfl, HR3.out, fun j hj => by omega, HT3.out⟩
  case round =>
    obtain ⟨k, hk, hi, h1, hn, h3⟩ := hrel
    have HR := Lib.hid h1
    have HN := Lib.hid hn
    have HT := Lib.hid h3
    have hcell := fun j => h1.cell j
    clear h1 hn h3 HR3 HT3
    have hk' : k = 0 ∨ k = 1 ∨ k = 2 ∨ k = 3 ∨ k = 4 ∨ k = 5 ∨ k = 6 ∨ k = 7 ∨ k = 8 := by omega
    clear hk
    rcases hk' with rfl | rfl | rfl | rfl | rfl | rfl | rfl | rfl | rfl
    · have hi' : u13 = .int .i64 0 := hi
      subst hi'
      clear hi
      have hix : ∀ w : World, (Instr.index 108 (.agg #[.int .i64 0, .int .i64 4, .int .i64 5, .int .i64 6, .int .i64 7, .int .i64 1, .int .i64 2, .int .i64 3]) (.int .i64 0)).run Tryz.prog w = .ok (.int .i64 0) w := fun w => index_z8 w [0, 4, 5, 6, 7, 1, 2, 3] rfl 0 (by omega)
      have d0 : wr.cell? ⟨g, 32, none⟩ = some (.int .i64 (firstV c now 0)) := by rw [hcell]; rfl
      have d1 : wr.cell? ⟨g, 24, none⟩ = some (.int .i64 (sizeV c now 0)) := by rw [hcell]; rfl
      have hfb := firstV_bd Hp.out.1 Hs.out 0
      have HI : Hid (inA c now p 0 = decide (firstV c now 0 ≤ p ∧ p - firstV c now 0 < sizeV c now 0)) := rfl
      have HOt := fun h => Lib.hid (ofW_hit c now p 0 (by omega) HN.out h)
      simp only [show orderL.getD 0 0 = 0 from rfl] at HOt
      obtain ⟨f, hf⟩ : ∃ f, f = firstV c now 0 := ⟨_, rfl⟩
      obtain ⟨z, hz'⟩ : ∃ z, z = sizeV c now 0 := ⟨_, rfl⟩
      rw [← hf] at hfb d0 HI HOt
      rw [← hz'] at hfb d1 HI
      obtain ⟨hfb0, _, hfb1⟩ := hfb
      have HFf := Lib.hid hf
      clear hf hz' hcell
      by_cases g1 : f ≤ p
      · by_cases g2 : p - f < z
        · have HOw := HOt (by rw [HI.out]; simp [g1, g2])
          clear HOt HI
          go_wp2
          go_ret3
          exact ⟨by rw [HOw.out]; rfl, HR.out, HT.out⟩
        · have HN' : Hid (∀ j, j < 1 → inA c now p (orderL.getD j 0) = false) := by
            intro j hj
            by_cases hjk : j < 0
            · exact HN.out j hjk
            · obtain rfl : j = 0 := by omega
              show inA c now p 0 = false
              rw [HI.out]; simp [g2]
          clear HOt HI
          go_wp2
          go_roundw
          case rel => exact ⟨1, by omega, rfl, HR.out, HN'.out, HT.out⟩
          case measure => simp [intOf]
      · have HN' : Hid (∀ j, j < 1 → inA c now p (orderL.getD j 0) = false) := by
          intro j hj
          by_cases hjk : j < 0
          · exact HN.out j hjk
          · obtain rfl : j = 0 := by omega
            show inA c now p 0 = false
            rw [HI.out]; simp [g1]
        clear HOt HI
        go_wp2
        go_roundw
        case rel => exact ⟨1, by omega, rfl, HR.out, HN'.out, HT.out⟩
        case measure => simp [intOf]
    · have hi' : u13 = .int .i64 1 := hi
      subst hi'
      clear hi
      have hix : ∀ w : World, (Instr.index 108 (.agg #[.int .i64 0, .int .i64 4, .int .i64 5, .int .i64 6, .int .i64 7, .int .i64 1, .int .i64 2, .int .i64 3]) (.int .i64 1)).run Tryz.prog w = .ok (.int .i64 4) w := fun w => index_z8 w [0, 4, 5, 6, 7, 1, 2, 3] rfl 1 (by omega)
      have d0 : wr.cell? ⟨g, 36, none⟩ = some (.int .i64 (firstV c now 4)) := by rw [hcell]; rfl
      have d1 : wr.cell? ⟨g, 28, none⟩ = some (.int .i64 (sizeV c now 4)) := by rw [hcell]; rfl
      have hfb := firstV_bd Hp.out.1 Hs.out 4
      have HI : Hid (inA c now p 4 = decide (firstV c now 4 ≤ p ∧ p - firstV c now 4 < sizeV c now 4)) := rfl
      have HOt := fun h => Lib.hid (ofW_hit c now p 1 (by omega) HN.out h)
      simp only [show orderL.getD 1 0 = 4 from rfl] at HOt
      obtain ⟨f, hf⟩ : ∃ f, f = firstV c now 4 := ⟨_, rfl⟩
      obtain ⟨z, hz'⟩ : ∃ z, z = sizeV c now 4 := ⟨_, rfl⟩
      rw [← hf] at hfb d0 HI HOt
      rw [← hz'] at hfb d1 HI
      obtain ⟨hfb0, _, hfb1⟩ := hfb
      have HFf := Lib.hid hf
      clear hf hz' hcell
      by_cases g1 : f ≤ p
      · by_cases g2 : p - f < z
        · have HOw := HOt (by rw [HI.out]; simp [g1, g2])
          clear HOt HI
          go_wp2
          go_ret3
          exact ⟨by rw [HOw.out]; rfl, HR.out, HT.out⟩
        · have HN' : Hid (∀ j, j < 2 → inA c now p (orderL.getD j 0) = false) := by
            intro j hj
            by_cases hjk : j < 1
            · exact HN.out j hjk
            · obtain rfl : j = 1 := by omega
              show inA c now p 4 = false
              rw [HI.out]; simp [g2]
          clear HOt HI
          go_wp2
          go_roundw
          case rel => exact ⟨2, by omega, rfl, HR.out, HN'.out, HT.out⟩
          case measure => simp [intOf]
      · have HN' : Hid (∀ j, j < 2 → inA c now p (orderL.getD j 0) = false) := by
          intro j hj
          by_cases hjk : j < 1
          · exact HN.out j hjk
          · obtain rfl : j = 1 := by omega
            show inA c now p 4 = false
            rw [HI.out]; simp [g1]
        clear HOt HI
        go_wp2
        go_roundw
        case rel => exact ⟨2, by omega, rfl, HR.out, HN'.out, HT.out⟩
        case measure => simp [intOf]
    · have hi' : u13 = .int .i64 2 := hi
      subst hi'
      clear hi
      have hix : ∀ w : World, (Instr.index 108 (.agg #[.int .i64 0, .int .i64 4, .int .i64 5, .int .i64 6, .int .i64 7, .int .i64 1, .int .i64 2, .int .i64 3]) (.int .i64 2)).run Tryz.prog w = .ok (.int .i64 5) w := fun w => index_z8 w [0, 4, 5, 6, 7, 1, 2, 3] rfl 2 (by omega)
      have d0 : wr.cell? ⟨g, 37, none⟩ = some (.int .i64 (firstV c now 5)) := by rw [hcell]; rfl
      have d1 : wr.cell? ⟨g, 29, none⟩ = some (.int .i64 (sizeV c now 5)) := by rw [hcell]; rfl
      have hfb := firstV_bd Hp.out.1 Hs.out 5
      have HI : Hid (inA c now p 5 = decide (firstV c now 5 ≤ p ∧ p - firstV c now 5 < sizeV c now 5)) := rfl
      have HOt := fun h => Lib.hid (ofW_hit c now p 2 (by omega) HN.out h)
      simp only [show orderL.getD 2 0 = 5 from rfl] at HOt
      obtain ⟨f, hf⟩ : ∃ f, f = firstV c now 5 := ⟨_, rfl⟩
      obtain ⟨z, hz'⟩ : ∃ z, z = sizeV c now 5 := ⟨_, rfl⟩
      rw [← hf] at hfb d0 HI HOt
      rw [← hz'] at hfb d1 HI
      obtain ⟨hfb0, _, hfb1⟩ := hfb
      have HFf := Lib.hid hf
      clear hf hz' hcell
      by_cases g1 : f ≤ p
      · by_cases g2 : p - f < z
        · have HOw := HOt (by rw [HI.out]; simp [g1, g2])
          clear HOt HI
          go_wp2
          go_ret3
          exact ⟨by rw [HOw.out]; rfl, HR.out, HT.out⟩
        · have HN' : Hid (∀ j, j < 3 → inA c now p (orderL.getD j 0) = false) := by
            intro j hj
            by_cases hjk : j < 2
            · exact HN.out j hjk
            · obtain rfl : j = 2 := by omega
              show inA c now p 5 = false
              rw [HI.out]; simp [g2]
          clear HOt HI
          go_wp2
          go_roundw
          case rel => exact ⟨3, by omega, rfl, HR.out, HN'.out, HT.out⟩
          case measure => simp [intOf]
      · have HN' : Hid (∀ j, j < 3 → inA c now p (orderL.getD j 0) = false) := by
          intro j hj
          by_cases hjk : j < 2
          · exact HN.out j hjk
          · obtain rfl : j = 2 := by omega
            show inA c now p 5 = false
            rw [HI.out]; simp [g1]
        clear HOt HI
        go_wp2
        go_roundw
        case rel => exact ⟨3, by omega, rfl, HR.out, HN'.out, HT.out⟩
        case measure => simp [intOf]
    · have hi' : u13 = .int .i64 3 := hi
      subst hi'
      clear hi
      have hix : ∀ w : World, (Instr.index 108 (.agg #[.int .i64 0, .int .i64 4, .int .i64 5, .int .i64 6, .int .i64 7, .int .i64 1, .int .i64 2, .int .i64 3]) (.int .i64 3)).run Tryz.prog w = .ok (.int .i64 6) w := fun w => index_z8 w [0, 4, 5, 6, 7, 1, 2, 3] rfl 3 (by omega)
      have d0 : wr.cell? ⟨g, 38, none⟩ = some (.int .i64 (firstV c now 6)) := by rw [hcell]; rfl
      have d1 : wr.cell? ⟨g, 30, none⟩ = some (.int .i64 (sizeV c now 6)) := by rw [hcell]; rfl
      have hfb := firstV_bd Hp.out.1 Hs.out 6
      have HI : Hid (inA c now p 6 = decide (firstV c now 6 ≤ p ∧ p - firstV c now 6 < sizeV c now 6)) := rfl
      have HOt := fun h => Lib.hid (ofW_hit c now p 3 (by omega) HN.out h)
      simp only [show orderL.getD 3 0 = 6 from rfl] at HOt
      obtain ⟨f, hf⟩ : ∃ f, f = firstV c now 6 := ⟨_, rfl⟩
      obtain ⟨z, hz'⟩ : ∃ z, z = sizeV c now 6 := ⟨_, rfl⟩
      rw [← hf] at hfb d0 HI HOt
      rw [← hz'] at hfb d1 HI
      obtain ⟨hfb0, _, hfb1⟩ := hfb
      have HFf := Lib.hid hf
      clear hf hz' hcell
      by_cases g1 : f ≤ p
      · by_cases g2 : p - f < z
        · have HOw := HOt (by rw [HI.out]; simp [g1, g2])
          clear HOt HI
          go_wp2
          go_ret3
          exact ⟨by rw [HOw.out]; rfl, HR.out, HT.out⟩
        · have HN' : Hid (∀ j, j < 4 → inA c now p (orderL.getD j 0) = false) := by
            intro j hj
            by_cases hjk : j < 3
            · exact HN.out j hjk
            · obtain rfl : j = 3 := by omega
              show inA c now p 6 = false
              rw [HI.out]; simp [g2]
          clear HOt HI
          go_wp2
          go_roundw
          case rel => exact ⟨4, by omega, rfl, HR.out, HN'.out, HT.out⟩
          case measure => simp [intOf]
      · have HN' : Hid (∀ j, j < 4 → inA c now p (orderL.getD j 0) = false) := by
          intro j hj
          by_cases hjk : j < 3
          · exact HN.out j hjk
          · obtain rfl : j = 3 := by omega
            show inA c now p 6 = false
            rw [HI.out]; simp [g1]
        clear HOt HI
        go_wp2
        go_roundw
        case rel => exact ⟨4, by omega, rfl, HR.out, HN'.out, HT.out⟩
        case measure => simp [intOf]
    · have hi' : u13 = .int .i64 4 := hi
      subst hi'
      clear hi
      have hix : ∀ w : World, (Instr.index 108 (.agg #[.int .i64 0, .int .i64 4, .int .i64 5, .int .i64 6, .int .i64 7, .int .i64 1, .int .i64 2, .int .i64 3]) (.int .i64 4)).run Tryz.prog w = .ok (.int .i64 7) w := fun w => index_z8 w [0, 4, 5, 6, 7, 1, 2, 3] rfl 4 (by omega)
      have d0 : wr.cell? ⟨g, 39, none⟩ = some (.int .i64 (firstV c now 7)) := by rw [hcell]; rfl
      have d1 : wr.cell? ⟨g, 31, none⟩ = some (.int .i64 (sizeV c now 7)) := by rw [hcell]; rfl
      have hfb := firstV_bd Hp.out.1 Hs.out 7
      have HI : Hid (inA c now p 7 = decide (firstV c now 7 ≤ p ∧ p - firstV c now 7 < sizeV c now 7)) := rfl
      have HOt := fun h => Lib.hid (ofW_hit c now p 4 (by omega) HN.out h)
      simp only [show orderL.getD 4 0 = 7 from rfl] at HOt
      obtain ⟨f, hf⟩ : ∃ f, f = firstV c now 7 := ⟨_, rfl⟩
      obtain ⟨z, hz'⟩ : ∃ z, z = sizeV c now 7 := ⟨_, rfl⟩
      rw [← hf] at hfb d0 HI HOt
      rw [← hz'] at hfb d1 HI
      obtain ⟨hfb0, _, hfb1⟩ := hfb
      have HFf := Lib.hid hf
      clear hf hz' hcell
      by_cases g1 : f ≤ p
      · by_cases g2 : p - f < z
        · have HOw := HOt (by rw [HI.out]; simp [g1, g2])
          clear HOt HI
          go_wp2
          go_ret3
          exact ⟨by rw [HOw.out]; rfl, HR.out, HT.out⟩
        · have HN' : Hid (∀ j, j < 5 → inA c now p (orderL.getD j 0) = false) := by
            intro j hj
            by_cases hjk : j < 4
            · exact HN.out j hjk
            · obtain rfl : j = 4 := by omega
              show inA c now p 7 = false
              rw [HI.out]; simp [g2]
          clear HOt HI
          go_wp2
          go_roundw
          case rel => exact ⟨5, by omega, rfl, HR.out, HN'.out, HT.out⟩
          case measure => simp [intOf]
      · have HN' : Hid (∀ j, j < 5 → inA c now p (orderL.getD j 0) = false) := by
          intro j hj
          by_cases hjk : j < 4
          · exact HN.out j hjk
          · obtain rfl : j = 4 := by omega
            show inA c now p 7 = false
            rw [HI.out]; simp [g1]
        clear HOt HI
        go_wp2
        go_roundw
        case rel => exact ⟨5, by omega, rfl, HR.out, HN'.out, HT.out⟩
        case measure => simp [intOf]
    · have hi' : u13 = .int .i64 5 := hi
      subst hi'
      clear hi
      have hix : ∀ w : World, (Instr.index 108 (.agg #[.int .i64 0, .int .i64 4, .int .i64 5, .int .i64 6, .int .i64 7, .int .i64 1, .int .i64 2, .int .i64 3]) (.int .i64 5)).run Tryz.prog w = .ok (.int .i64 1) w := fun w => index_z8 w [0, 4, 5, 6, 7, 1, 2, 3] rfl 5 (by omega)
      have d0 : wr.cell? ⟨g, 33, none⟩ = some (.int .i64 (firstV c now 1)) := by rw [hcell]; rfl
      have d1 : wr.cell? ⟨g, 25, none⟩ = some (.int .i64 (sizeV c now 1)) := by rw [hcell]; rfl
      have hfb := firstV_bd Hp.out.1 Hs.out 1
      have HI : Hid (inA c now p 1 = decide (firstV c now 1 ≤ p ∧ p - firstV c now 1 < sizeV c now 1)) := rfl
      have HOt := fun h => Lib.hid (ofW_hit c now p 5 (by omega) HN.out h)
      simp only [show orderL.getD 5 0 = 1 from rfl] at HOt
      obtain ⟨f, hf⟩ : ∃ f, f = firstV c now 1 := ⟨_, rfl⟩
      obtain ⟨z, hz'⟩ : ∃ z, z = sizeV c now 1 := ⟨_, rfl⟩
      rw [← hf] at hfb d0 HI HOt
      rw [← hz'] at hfb d1 HI
      obtain ⟨hfb0, _, hfb1⟩ := hfb
      have HFf := Lib.hid hf
      clear hf hz' hcell
      by_cases g1 : f ≤ p
      · by_cases g2 : p - f < z
        · have HOw := HOt (by rw [HI.out]; simp [g1, g2])
          clear HOt HI
          go_wp2
          go_ret3
          exact ⟨by rw [HOw.out]; rfl, HR.out, HT.out⟩
        · have HN' : Hid (∀ j, j < 6 → inA c now p (orderL.getD j 0) = false) := by
            intro j hj
            by_cases hjk : j < 5
            · exact HN.out j hjk
            · obtain rfl : j = 5 := by omega
              show inA c now p 1 = false
              rw [HI.out]; simp [g2]
          clear HOt HI
          go_wp2
          go_roundw
          case rel => exact ⟨6, by omega, rfl, HR.out, HN'.out, HT.out⟩
          case measure => simp [intOf]
      · have HN' : Hid (∀ j, j < 6 → inA c now p (orderL.getD j 0) = false) := by
          intro j hj
          by_cases hjk : j < 5
          · exact HN.out j hjk
          · obtain rfl : j = 5 := by omega
            show inA c now p 1 = false
            rw [HI.out]; simp [g1]
        clear HOt HI
        go_wp2
        go_roundw
        case rel => exact ⟨6, by omega, rfl, HR.out, HN'.out, HT.out⟩
        case measure => simp [intOf]
    · have hi' : u13 = .int .i64 6 := hi
      subst hi'
      clear hi
      have hix : ∀ w : World, (Instr.index 108 (.agg #[.int .i64 0, .int .i64 4, .int .i64 5, .int .i64 6, .int .i64 7, .int .i64 1, .int .i64 2, .int .i64 3]) (.int .i64 6)).run Tryz.prog w = .ok (.int .i64 2) w := fun w => index_z8 w [0, 4, 5, 6, 7, 1, 2, 3] rfl 6 (by omega)
      have d0 : wr.cell? ⟨g, 34, none⟩ = some (.int .i64 (firstV c now 2)) := by rw [hcell]; rfl
      have d1 : wr.cell? ⟨g, 26, none⟩ = some (.int .i64 (sizeV c now 2)) := by rw [hcell]; rfl
      have hfb := firstV_bd Hp.out.1 Hs.out 2
      have HI : Hid (inA c now p 2 = decide (firstV c now 2 ≤ p ∧ p - firstV c now 2 < sizeV c now 2)) := rfl
      have HOt := fun h => Lib.hid (ofW_hit c now p 6 (by omega) HN.out h)
      simp only [show orderL.getD 6 0 = 2 from rfl] at HOt
      obtain ⟨f, hf⟩ : ∃ f, f = firstV c now 2 := ⟨_, rfl⟩
      obtain ⟨z, hz'⟩ : ∃ z, z = sizeV c now 2 := ⟨_, rfl⟩
      rw [← hf] at hfb d0 HI HOt
      rw [← hz'] at hfb d1 HI
      obtain ⟨hfb0, _, hfb1⟩ := hfb
      have HFf := Lib.hid hf
      clear hf hz' hcell
      by_cases g1 : f ≤ p
      · by_cases g2 : p - f < z
        · have HOw := HOt (by rw [HI.out]; simp [g1, g2])
          clear HOt HI
          go_wp2
          go_ret3
          exact ⟨by rw [HOw.out]; rfl, HR.out, HT.out⟩
        · have HN' : Hid (∀ j, j < 7 → inA c now p (orderL.getD j 0) = false) := by
            intro j hj
            by_cases hjk : j < 6
            · exact HN.out j hjk
            · obtain rfl : j = 6 := by omega
              show inA c now p 2 = false
              rw [HI.out]; simp [g2]
          clear HOt HI
          go_wp2
          go_roundw
          case rel => exact ⟨7, by omega, rfl, HR.out, HN'.out, HT.out⟩
          case measure => simp [intOf]
      · have HN' : Hid (∀ j, j < 7 → inA c now p (orderL.getD j 0) = false) := by
          intro j hj
          by_cases hjk : j < 6
          · exact HN.out j hjk
          · obtain rfl : j = 6 := by omega
            show inA c now p 2 = false
            rw [HI.out]; simp [g1]
        clear HOt HI
        go_wp2
        go_roundw
        case rel => exact ⟨7, by omega, rfl, HR.out, HN'.out, HT.out⟩
        case measure => simp [intOf]
    · have hi' : u13 = .int .i64 7 := hi
      subst hi'
      clear hi
      have hix : ∀ w : World, (Instr.index 108 (.agg #[.int .i64 0, .int .i64 4, .int .i64 5, .int .i64 6, .int .i64 7, .int .i64 1, .int .i64 2, .int .i64 3]) (.int .i64 7)).run Tryz.prog w = .ok (.int .i64 3) w := fun w => index_z8 w [0, 4, 5, 6, 7, 1, 2, 3] rfl 7 (by omega)
      have d0 : wr.cell? ⟨g, 35, none⟩ = some (.int .i64 (firstV c now 3)) := by rw [hcell]; rfl
      have d1 : wr.cell? ⟨g, 27, none⟩ = some (.int .i64 (sizeV c now 3)) := by rw [hcell]; rfl
      have hfb := firstV_bd Hp.out.1 Hs.out 3
      have HI : Hid (inA c now p 3 = decide (firstV c now 3 ≤ p ∧ p - firstV c now 3 < sizeV c now 3)) := rfl
      have HOt := fun h => Lib.hid (ofW_hit c now p 7 (by omega) HN.out h)
      simp only [show orderL.getD 7 0 = 3 from rfl] at HOt
      obtain ⟨f, hf⟩ : ∃ f, f = firstV c now 3 := ⟨_, rfl⟩
      obtain ⟨z, hz'⟩ : ∃ z, z = sizeV c now 3 := ⟨_, rfl⟩
      rw [← hf] at hfb d0 HI HOt
      rw [← hz'] at hfb d1 HI
      obtain ⟨hfb0, _, hfb1⟩ := hfb
      have HFf := Lib.hid hf
      clear hf hz' hcell
      by_cases g1 : f ≤ p
      · by_cases g2 : p - f < z
        · have HOw := HOt (by rw [HI.out]; simp [g1, g2])
          clear HOt HI
          go_wp2
          go_ret3
          exact ⟨by rw [HOw.out]; rfl, HR.out, HT.out⟩
        · have HN' : Hid (∀ j, j < 8 → inA c now p (orderL.getD j 0) = false) := by
            intro j hj
            by_cases hjk : j < 7
            · exact HN.out j hjk
            · obtain rfl : j = 7 := by omega
              show inA c now p 3 = false
              rw [HI.out]; simp [g2]
          clear HOt HI
          go_wp2
          go_roundw
          case rel => exact ⟨8, by omega, rfl, HR.out, HN'.out, HT.out⟩
          case measure => simp [intOf]
      · have HN' : Hid (∀ j, j < 8 → inA c now p (orderL.getD j 0) = false) := by
          intro j hj
          by_cases hjk : j < 7
          · exact HN.out j hjk
          · obtain rfl : j = 7 := by omega
            show inA c now p 3 = false
            rw [HI.out]; simp [g1]
        clear HOt HI
        go_wp2
        go_roundw
        case rel => exact ⟨8, by omega, rfl, HR.out, HN'.out, HT.out⟩
        case measure => simp [intOf]
    · have hi' : u13 = .int .i64 8 := hi
      subst hi'
      have HOw := Lib.hid (ofW_miss c now p HN.out)
      clear hi hcell
      go_wp2
      go_ret3
      exact ⟨by rw [HOw.out]; rfl, HR.out, HT.out⟩
end Go.Proofs.YtclhhdodebdmjaaGreat

namespace Go.Proofs.YtclhhdodebdmjaaGreat
open Go.RowKit
set_option linter.unusedVariables false
set_option linter.unusedSimpArgs false

theorem grown_setRow {w : World} {g : Nat} (cs : Array Value) : w.grownBy (w.setRow g cs) (some g) := ⟨rfl, rfl, rfl, by simp, fun k _ hk => setRow_other w g k _ (fun e => hk (by rw [e]))⟩
end Go.Proofs.YtclhhdodebdmjaaGreat
