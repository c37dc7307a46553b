/- What follows is laid together from several texts of mine, in their order. -/
import Derived.Test.YtclhhdodebdmjaaGreatQ9
import Derived.OwnWalk
import Derived.Deep.MidRow
import Derived.BigFrame
import Derived.Great.BuildSlice

namespace Go.Proofs.YtclhhdodebdmjaaGreat
open Go.RowKit Go.MapKept Go.ChangeMaps
set_option linter.unusedVariables false
set_option linter.unusedSimpArgs false
set_option maxRecDepth 100000

def b8 (l : List Nat) : List Value := l.map fun (x : Nat) => Value.int .u8 (x : Int)
/-- What was asked, as the program keeps it. -/
def askV : Ask → Value
  | .no => .nilIface
  | .key r => .iface 262 (.agg #[.int .i64 (r : Int)])
  | .wr r a => .iface 265 (.agg #[.int .i64 (r : Int), .int .i64 (a : Int)])
  | .cnt n => .iface 267 (.agg (b8 n).toArray)
  | .rd n a => .iface 269 (.agg (b8 n ++ [Value.int .i64 (a : Int)]).toArray)
  | .oth k => .iface 271 (.agg #[.int .i64 (k : Int)])
def z67 : List Value := .bool false :: .bool false :: .int .i64 0 :: List.replicate 64 (.int .u8 0)
def stL (k : Rk) : List Value := b8 k.key ++ [Value.bool k.has, Value.int .u32 (k.ctr : Int)]
def kRow (n : Int) (k : Rk) : Array Value := (Value.int .i64 n :: (stL k ++ (askV k.now :: (askV k.last :: z67)))).toArray
def RpIs (w : World) (K : Nat) (n : Int) (k : Rk) : Prop := Row w K 251 (kRow n k)
structure RkOk (k : Rk) : Prop where
  len : k.key.length = 32
  small : ∀ x ∈ k.key, x < 256
  ctr : k.ctr < 4294967296
  none : k.has = false → k.ctr = 0 ∧ k.key = List.replicate 32 0
theorem neq_k32 (w : World) : (binOp .neq 135 (.agg #[.int .u8 0, .int .u8 0, .int .u8 0, .int .u8 0, .int .u8 0, .int .u8 0, .int .u8 0, .int .u8 0, .int .u8 0, .int .u8 0, .int .u8 0, .int .u8 0, .int .u8 0, .int .u8 0, .int .u8 0, .int .u8 0, .int .u8 0, .int .u8 0, .int .u8 0, .int .u8 0, .int .u8 0, .int .u8 0, .int .u8 0, .int .u8 0, .int .u8 0, .int .u8 0, .int .u8 0, .int .u8 0, .int .u8 0, .int .u8 0, .int .u8 0, .int .u8 0]) (.agg #[.int .u8 0, .int .u8 0, .int .u8 0, .int .u8 0, .int .u8 0, .int .u8 0, .int .u8 0, .int .u8 0, .int .u8 0, .int .u8 0, .int .u8 0, .int .u8 0, .int .u8 0, .int .u8 0, .int .u8 0, .int .u8 0, .int .u8 0, .int .u8 0, .int .u8 0, .int .u8 0, .int .u8 0, .int .u8 0, .int .u8 0, .int .u8 0, .int .u8 0, .int .u8 0, .int .u8 0, .int .u8 0, .int .u8 0, .int .u8 0, .int .u8 0, .int .u8 0])).run Tryz.prog w = .ok (.bool false) w := by
  obtain ⟨i, hi⟩ : ∃ i, Tryz.prog.info? 5 = some i := Option.isSome_iff_exists.1 (by kernel_rfl)
  have := run_neq_ints (P := Tryz.prog) w .u8 Tryz.underlying135 hi Tryz.underlying5 (by kernel_rfl) (by kernel_rfl) (List.replicate 32 0) (List.replicate 32 0) rfl rfl
  exact this
theorem build_area' (n : Int) (v0 v1 v2 v3 v4 v5 v6 v7 v8 v9 v10 v11 v12 v13 v14 v15 v16 v17 v18 v19 v20 v21 v22 v23 v24 v25 v26 v27 v28 v29 v30 v31 v32 v33 : Value) : Tryz.prog.built 251 [(0, .int .i64 n), (1, .agg (v0 :: v1 :: v2 :: v3 :: v4 :: v5 :: v6 :: v7 :: v8 :: v9 :: v10 :: v11 :: v12 :: v13 :: v14 :: v15 :: v16 :: v17 :: v18 :: v19 :: v20 :: v21 :: v22 :: v23 :: v24 :: v25 :: v26 :: v27 :: v28 :: v29 :: v30 :: v31 :: v32 :: v33 :: []).toArray)] = some (Value.int .i64 n :: ((v0 :: v1 :: v2 :: v3 :: v4 :: v5 :: v6 :: v7 :: v8 :: v9 :: v10 :: v11 :: v12 :: v13 :: v14 :: v15 :: v16 :: v17 :: v18 :: v19 :: v20 :: v21 :: v22 :: v23 :: v24 :: v25 :: v26 :: v27 :: v28 :: v29 :: v30 :: v31 :: v32 :: v33 :: []) ++ (Value.nilIface :: (Value.nilIface :: z67)))).toArray := by kernel_rfl
theorem build_area (n : Int) (l : List Value) (h : l.length = 34) : Tryz.prog.built 251 [(0, .int .i64 n), (1, .agg l.toArray)] = some (Value.int .i64 n :: (l ++ (Value.nilIface :: (Value.nilIface :: z67)))).toArray := by
  match l, h with
  | v0 :: v1 :: v2 :: v3 :: v4 :: v5 :: v6 :: v7 :: v8 :: v9 :: v10 :: v11 :: v12 :: v13 :: v14 :: v15 :: v16 :: v17 :: v18 :: v19 :: v20 :: v21 :: v22 :: v23 :: v24 :: v25 :: v26 :: v27 :: v28 :: v29 :: v30 :: v31 :: v32 :: v33 :: [], _ => exact build_area' n v0 v1 v2 v3 v4 v5 v6 v7 v8 v9 v10 v11 v12 v13 v14 v15 v16 v17 v18 v19 v20 v21 v22 v23 v24 v25 v26 v27 v28 v29 v30 v31 v32 v33
def rz : List Value := z67 ++ ([Value.bool false, Value.int .i64 0, Value.int .i64 0] ++ (b8 (List.replicate 16 0) ++ [Value.int .i64 0, Value.int .i64 0, Value.int .i64 0, Value.int .i64 0]))
theorem rbuild_area' (n : Int) (v0 v1 v2 v3 v4 v5 v6 v7 v8 v9 v10 v11 v12 v13 v14 v15 v16 v17 v18 v19 v20 v21 v22 v23 v24 v25 v26 v27 v28 v29 v30 v31 v32 v33 : Value) : Tryz.prog.built 180 [(0, .int .i64 n), (1, .agg (v0 :: v1 :: v2 :: v3 :: v4 :: v5 :: v6 :: v7 :: v8 :: v9 :: v10 :: v11 :: v12 :: v13 :: v14 :: v15 :: v16 :: v17 :: v18 :: v19 :: v20 :: v21 :: v22 :: v23 :: v24 :: v25 :: v26 :: v27 :: v28 :: v29 :: v30 :: v31 :: v32 :: v33 :: []).toArray)] = some (Value.int .i64 n :: ((v0 :: v1 :: v2 :: v3 :: v4 :: v5 :: v6 :: v7 :: v8 :: v9 :: v10 :: v11 :: v12 :: v13 :: v14 :: v15 :: v16 :: v17 :: v18 :: v19 :: v20 :: v21 :: v22 :: v23 :: v24 :: v25 :: v26 :: v27 :: v28 :: v29 :: v30 :: v31 :: v32 :: v33 :: []) ++ rz)).toArray := by kernel_rfl
theorem rbuild_area (n : Int) (l : List Value) (h : l.length = 34) : Tryz.prog.built 180 [(0, .int .i64 n), (1, .agg l.toArray)] = some (Value.int .i64 n :: (l ++ rz)).toArray := by
  match l, h with
  | v0 :: v1 :: v2 :: v3 :: v4 :: v5 :: v6 :: v7 :: v8 :: v9 :: v10 :: v11 :: v12 :: v13 :: v14 :: v15 :: v16 :: v17 :: v18 :: v19 :: v20 :: v21 :: v22 :: v23 :: v24 :: v25 :: v26 :: v27 :: v28 :: v29 :: v30 :: v31 :: v32 :: v33 :: [], _ => exact rbuild_area' n v0 v1 v2 v3 v4 v5 v6 v7 v8 v9 v10 v11 v12 v13 v14 v15 v16 v17 v18 v19 v20 v21 v22 v23 v24 v25 v26 v27 v28 v29 v30 v31 v32 v33
/-- A whole struct loaded from a block that is known whole. -/
theorem wpList_load_rowR {P : Program} {ops : Array Oper} {rest : List Oper} {o : Oper} {a : Act} {w : World} {Q : Exit → Act → World → Prop} (hgd : o.guard = none) (ty : TypeId) (x : Operand) (ho : o.op = .load ty x)
    (g : Nat) (hx : a.eval x = .pointer (some ⟨g, 0, none⟩)) (t : TypeId) (cs : Array Value) (hg : Row w g t cs) (d : TypeDesc)
    (hu : P.underlying ty = some d) (hd : (match d with | .struct _ | .array _ _ => true | _ => false) = true) (hi : (P.info? ty).map (·.size) = some cs.size)
    (h : wpList P ops Q rest (a.put o.dst (.agg cs)) w) : wpList P ops Q (o :: rest) a w :=
  wpList_load_row hgd ty x ho g hx t cs (0, 0) d hg hu hd hi h
/-- Of a guarded operation that is wanted: a part of a row is read. -/
theorem wpList_load_midG {P : Program} {ops : Array Oper} {rest : List Oper} {op : Oper} {a : Act} {w : World} {Q : Exit → Act → World → Prop} (hw : Region.wanted op (yielded ops a.tmps) = true) (ty : TypeId) (x : Operand) (ho : op.op = .load ty x)
    (b o : Nat) (hx : a.eval x = .pointer (some ⟨b, o, none⟩)) (cs : List Value) (d : TypeDesc) (hc : w.rangeAt b o cs)
    (hu : P.underlying ty = some d) (hd : d.isRow = true) (hi : (P.info? ty).map (·.size) = some cs.length)
    (h : wpList P ops Q rest (a.put op.dst (.agg cs.toArray)) w) : wpList P ops Q (op :: rest) a w :=
  wpList_step fun K hK => by rw [if_pos hw]; exact wp_load_mid ty x ho b o hx cs d hc hu hd hi (hK _ _ h)
/-- What was asked, as the reference keeps it. -/
def rAskOk : Ask → Nat → Nat → List Nat → Nat → Prop
  | .no, a, r, _, _ => a = 0 ∧ r = 0
  | .key r', a, r, _, _ => a = 1 ∧ r = r'
  | .wr r' x', a, r, _, x => a = 3 ∧ r = r' ∧ x = x'
  | .cnt n', a, r, n, _ => a = 2 ∧ r = 0 ∧ n = n'
  | .rd n' x', a, r, n, x => a = 4 ∧ r = 0 ∧ n = n' ∧ x = x'
  | .oth k, a, r, _, _ => a = k ∧ r = 1
def rkRow (n : Int) (k : Rk) (la : List Value) (a r : Nat) (nc : List Nat) (x ka kr kx : Nat) : Array Value :=
  (Value.int .i64 n :: (stL k ++ (la ++ ([Value.bool false, Value.int .i64 (a : Int), Value.int .i64 (r : Int)] ++ (b8 nc ++ [Value.int .i64 (x : Int), Value.int .i64 (ka : Int), Value.int .i64 (kr : Int), Value.int .i64 (kx : Int)]))))).toArray
def RrIs (w : World) (K : Nat) (n : Int) (k : Rk) : Prop := ∃ la a r nc x ka kr kx, Row w K 180 (rkRow n k la a r nc x ka kr kx) ∧ la.length = 67 ∧ nc.length = 16 ∧ rAskOk k.now a r nc x ∧ rAskOk k.last ka kr nc kx
set_option maxHeartbeats 1000000 in
theorem RNew_no (n : Int) (hn : 1 ≤ n ∧ n ≤ 256) (k : Rk) (hk : RkOk k) (hz : k.has = false) (w : World) : Calls Tryz.prog 81 #[.int .i64 n, .agg (stL k).toArray] w fun e w' => ∃ K, e = .returned (.tuple #[.pointer (some ⟨K, 0, none⟩), .int .i64 0]) ∧ Row w' K 251 (Value.int .i64 n :: (stL k ++ (Value.nilIface :: (Value.nilIface :: z67)))).toArray ∧ w.heap.size ≤ K ∧ Below w.heap.size w w' := by
  obtain ⟨sA, hsA⟩ : ∃ sA, sA = (stL k).toArray := ⟨_, rfl⟩
  have hl := hk.len
  have s32 : sA[32]? = some (.bool false) := by rw [hsA, ← hz]; simp [stL, b8, hl]
  have s33 : sA[33]? = some (.int .u32 (k.ctr : Int)) := by rw [hsA]; simp [stL, b8, hl]
  have hkey : (sA.extract 0 32).toList = List.replicate 32 (Value.int .u8 0) := by
    rw [hsA]; simp [stL, b8, (hk.none hz).2]
  rw [(hk.none hz).1] at s33
  have HG : Hid ((w.alloc (.cells sA 137)).rangeAt w.heap.size 0 (List.replicate 32 (Value.int .u8 0))) := by
    have := World.rangeAt_of_block (b := w.heap.size) (Row.fresh w 137 sA) 0 32
    rw [show (0 + 32) = 32 from rfl, hkey] at this; exact this
  have hst : stL k = sA.toList := by rw [hsA]
  rw [← hsA, hst]
  have hsz : sA.size = 34 := by rw [hsA]; simp [stL, b8, hl]
  have HRs : Hid (Row (w.alloc (.cells sA 137)) w.heap.size 137 sA) := Row.fresh w _ sA
  have HSz : Hid ((Tryz.prog.info? 137).map (·.size) = some sA.size) := by unfold Hid; rw [hsz]; kernel_rfl
  have HBd : Hid (Tryz.prog.built 251 [(0, .int .i64 n), (1, .agg sA)] = some (Value.int .i64 n :: (sA.toList ++ (Value.nilIface :: (Value.nilIface :: z67)))).toArray) := by
    have := build_area n sA.toList (by simpa using hsz)
    unfold Hid; simpa using this
  have hq := neq_k32
  have HW : ∃ z, z = (Value.nilIface :: (Value.nilIface :: z67)) := ⟨_, rfl⟩
  obtain ⟨z, hz6⟩ := HW
  rw [← hz6] at HBd ⊢
  have HR : Hid (Row ((w.alloc (.cells sA 137)).alloc (.cells (Value.int .i64 n :: (sA.toList ++ z)).toArray 251)) (w.heap.size + 1) 251 (Value.int .i64 n :: (sA.toList ++ z)).toArray) := by
    have := Row.fresh (w.alloc (.cells sA 137)) 251 (Value.int .i64 n :: (sA.toList ++ z)).toArray
    unfold Hid; simpa using this
  have HB : Hid (Below w.heap.size w ((w.alloc (.cells sA 137)).alloc (.cells (Value.int .i64 n :: (sA.toList ++ z)).toArray 251))) := by unfold Hid; (repeat (first | (with_reducible refine Below.drew ?_) | (with_reducible refine below_drewN0 ?_ _) | ((with_reducible refine Below.setCell ?_ ?_ _); rotate_left; focus (first | omega | (simp; done) | (simp; omega) | (simp at *; omega))) | ((with_reducible refine Below.alloc ?_ ?_ _); rotate_left; focus (first | omega | (simp; done) | (simp; omega) | (simp at *; omega))) | (with_reducible exact Below.refl _ _)))
  obtain ⟨h1, h2⟩ := hn
  clear hsA hl hk hz hz6 hsz hst
  go_enter Tryz.func81, Tryz.ntmps81
  go_wp2_with (first | (with_reducible refine wpList_load_midG (op := ⟨some 22, .load 135 (.tmp 21), _, _, _, _⟩) ?hw 135 (.tmp 21) rfl w.heap.size 0 rfl (List.replicate 32 (Value.int .u8 0)) _ HG.out Tryz.underlying135 rfl (by kernel_rfl) ?_) | (with_reducible refine wpList_load_rowR (o := ⟨some 29, .load 137 (.tmp 3), _, _, _, _⟩) rfl 137 (.tmp 3) rfl w.heap.size rfl 137 sA HRs.out _ Tryz.underlying137 rfl HSz.out ?_) | (with_reducible refine wpList_buildTo (o := ⟨some 30, .build 251 #[(0, .tmp 28), (1, .tmp 29)], _, _, _, _⟩) rfl 251 #[(0, .tmp 28), (1, .tmp 29)] rfl (some 30) rfl (Value.int .i64 n :: (sA.toList ++ z)).toArray (by with_unfolding_all exact HBd.out) ?_))
  go_ret2
  exact ⟨_, rfl, HR.out, by omega, HB.out⟩
set_option maxHeartbeats 1000000 in
theorem RNew_yes (n : Int) (hn : 1 ≤ n ∧ n ≤ 256) (k : Rk) (hk : RkOk k) (hz : k.has = true) (w : World) : Calls Tryz.prog 81 #[.int .i64 n, .agg (stL k).toArray] w fun e w' => ∃ K, e = .returned (.tuple #[.pointer (some ⟨K, 0, none⟩), .int .i64 0]) ∧ Row w' K 251 (Value.int .i64 n :: (stL k ++ (Value.nilIface :: (Value.nilIface :: z67)))).toArray ∧ w.heap.size ≤ K ∧ Below w.heap.size w w' := by
  obtain ⟨sA, hsA⟩ : ∃ sA, sA = (stL k).toArray := ⟨_, rfl⟩
  have hl := hk.len
  have s32 : sA[32]? = some (.bool true) := by rw [hsA, ← hz]; simp [stL, b8, hl]
  have s33 : sA[33]? = some (.int .u32 (k.ctr : Int)) := by rw [hsA]; simp [stL, b8, hl]
  have hst : stL k = sA.toList := by rw [hsA]
  rw [← hsA, hst]
  have hsz : sA.size = 34 := by rw [hsA]; simp [stL, b8, hl]
  have HRs : Hid (Row (w.alloc (.cells sA 137)) w.heap.size 137 sA) := Row.fresh w _ sA
  have HSz : Hid ((Tryz.prog.info? 137).map (·.size) = some sA.size) := by unfold Hid; rw [hsz]; kernel_rfl
  have HBd : Hid (Tryz.prog.built 251 [(0, .int .i64 n), (1, .agg sA)] = some (Value.int .i64 n :: (sA.toList ++ (Value.nilIface :: (Value.nilIface :: z67)))).toArray) := by
    have := build_area n sA.toList (by simpa using hsz)
    unfold Hid; simpa using this
  have hq := neq_k32
  have HW : ∃ z, z = (Value.nilIface :: (Value.nilIface :: z67)) := ⟨_, rfl⟩
  obtain ⟨z, hz6⟩ := HW
  rw [← hz6] at HBd ⊢
  have HR : Hid (Row ((w.alloc (.cells sA 137)).alloc (.cells (Value.int .i64 n :: (sA.toList ++ z)).toArray 251)) (w.heap.size + 1) 251 (Value.int .i64 n :: (sA.toList ++ z)).toArray) := by
    have := Row.fresh (w.alloc (.cells sA 137)) 251 (Value.int .i64 n :: (sA.toList ++ z)).toArray
    unfold Hid; simpa using this
  have HB : Hid (Below w.heap.size w ((w.alloc (.cells sA 137)).alloc (.cells (Value.int .i64 n :: (sA.toList ++ z)).toArray 251))) := by unfold Hid; (repeat (first | (with_reducible refine Below.drew ?_) | (with_reducible refine below_drewN0 ?_ _) | ((with_reducible refine Below.setCell ?_ ?_ _); rotate_left; focus (first | omega | (simp; done) | (simp; omega) | (simp at *; omega))) | ((with_reducible refine Below.alloc ?_ ?_ _); rotate_left; focus (first | omega | (simp; done) | (simp; omega) | (simp at *; omega))) | (with_reducible exact Below.refl _ _)))
  obtain ⟨h1, h2⟩ := hn
  clear hsA hl hk hz hz6 hsz hst
  go_enter Tryz.func81, Tryz.ntmps81
  go_wp2_with (first | (with_reducible refine wpList_load_rowR (o := ⟨some 29, .load 137 (.tmp 3), _, _, _, _⟩) rfl 137 (.tmp 3) rfl w.heap.size rfl 137 sA HRs.out _ Tryz.underlying137 rfl HSz.out ?_) | (with_reducible refine wpList_buildTo (o := ⟨some 30, .build 251 #[(0, .tmp 28), (1, .tmp 29)], _, _, _, _⟩) rfl 251 #[(0, .tmp 28), (1, .tmp 29)] rfl (some 30) rfl (Value.int .i64 n :: (sA.toList ++ z)).toArray (by with_unfolding_all exact HBd.out) ?_))
  go_ret2
  exact ⟨_, rfl, HR.out, by omega, HB.out⟩
theorem RNew_any (n : Int) (hn : 1 ≤ n ∧ n ≤ 256) (k : Rk) (hk : RkOk k) (w : World) : Calls Tryz.prog 81 #[.int .i64 n, .agg (stL k).toArray] w fun e w' => ∃ K, e = .returned (.tuple #[.pointer (some ⟨K, 0, none⟩), .int .i64 0]) ∧ RpIs w' K n { k with now := .no, last := .no } ∧ w.heap.size ≤ K ∧ Below w.heap.size w w' := by
  by_cases hz : k.has = true
  case neg => exact (RNew_no n hn k hk (by simpa using hz) w).mono fun e w' ⟨K, h1, h2, h3⟩ => ⟨K, h1, h2, h3⟩
  case pos => exact (RNew_yes n hn k hk hz w).mono fun e w' ⟨K, h1, h2, h3⟩ => ⟨K, h1, h2, h3⟩
set_option maxHeartbeats 1000000 in
theorem rRNew_no (n : Int) (hn : 1 ≤ n ∧ n ≤ 256) (k : Rk) (hk : RkOk k) (hz : k.has = false) (w : World) : Calls Tryz.prog 58 #[.int .i64 n, .agg (stL k).toArray] w fun e w' => ∃ K, e = .returned (.tuple #[.pointer (some ⟨K, 0, none⟩), .int .i64 0]) ∧ Row w' K 180 (Value.int .i64 n :: (stL k ++ rz)).toArray ∧ w.heap.size ≤ K ∧ Below w.heap.size w w' := by
  obtain ⟨sA, hsA⟩ : ∃ sA, sA = (stL k).toArray := ⟨_, rfl⟩
  have hl := hk.len
  have s32 : sA[32]? = some (.bool false) := by rw [hsA, ← hz]; simp [stL, b8, hl]
  have s33 : sA[33]? = some (.int .u32 (k.ctr : Int)) := by rw [hsA]; simp [stL, b8, hl]
  have hkey : (sA.extract 0 32).toList = List.replicate 32 (Value.int .u8 0) := by
    rw [hsA]; simp [stL, b8, (hk.none hz).2]
  rw [(hk.none hz).1] at s33
  have HG : Hid ((w.alloc (.cells sA 146)).rangeAt w.heap.size 0 (List.replicate 32 (Value.int .u8 0))) := by
    have := World.rangeAt_of_block (b := w.heap.size) (Row.fresh w 146 sA) 0 32
    rw [show (0 + 32) = 32 from rfl, hkey] at this; exact this
  have hst : stL k = sA.toList := by rw [hsA]
  rw [← hsA, hst]
  have hsz : sA.size = 34 := by rw [hsA]; simp [stL, b8, hl]
  have HRs : Hid (Row (w.alloc (.cells sA 146)) w.heap.size 146 sA) := Row.fresh w _ sA
  have HSz : Hid ((Tryz.prog.info? 146).map (·.size) = some sA.size) := by unfold Hid; rw [hsz]; kernel_rfl
  have HBd : Hid (Tryz.prog.built 180 [(0, .int .i64 n), (1, .agg sA)] = some (Value.int .i64 n :: (sA.toList ++ rz)).toArray) := by
    have := rbuild_area n sA.toList (by simpa using hsz)
    unfold Hid; simpa using this
  have hq := neq_k32
  have HW : ∃ z, z = rz := ⟨_, rfl⟩
  obtain ⟨z, hz6⟩ := HW
  rw [← hz6] at HBd ⊢
  have HR : Hid (Row ((w.alloc (.cells sA 146)).alloc (.cells (Value.int .i64 n :: (sA.toList ++ z)).toArray 180)) (w.heap.size + 1) 180 (Value.int .i64 n :: (sA.toList ++ z)).toArray) := by
    have := Row.fresh (w.alloc (.cells sA 146)) 180 (Value.int .i64 n :: (sA.toList ++ z)).toArray
    unfold Hid; simpa using this
  have HB : Hid (Below w.heap.size w ((w.alloc (.cells sA 146)).alloc (.cells (Value.int .i64 n :: (sA.toList ++ z)).toArray 180))) := by unfold Hid; (repeat (first | (with_reducible refine Below.drew ?_) | (with_reducible refine below_drewN0 ?_ _) | ((with_reducible refine Below.setCell ?_ ?_ _); rotate_left; focus (first | omega | (simp; done) | (simp; omega) | (simp at *; omega))) | ((with_reducible refine Below.alloc ?_ ?_ _); rotate_left; focus (first | omega | (simp; done) | (simp; omega) | (simp at *; omega))) | (with_reducible exact Below.refl _ _)))
  obtain ⟨h1, h2⟩ := hn
  clear hsA hl hk hz hz6 hsz hst
  go_enter Tryz.func58, Tryz.ntmps58
  go_wp2_with (first | (with_reducible refine wpList_load_midG (op := ⟨some 22, .load 135 (.tmp 21), _, _, _, _⟩) ?hw 135 (.tmp 21) rfl w.heap.size 0 rfl (List.replicate 32 (Value.int .u8 0)) _ HG.out Tryz.underlying135 rfl (by kernel_rfl) ?_) | (with_reducible refine wpList_load_rowR (o := ⟨some 29, .load 146 (.tmp 3), _, _, _, _⟩) rfl 146 (.tmp 3) rfl w.heap.size rfl 146 sA HRs.out _ Tryz.underlying146 rfl HSz.out ?_) | (with_reducible refine wpList_buildTo (o := ⟨some 30, .build 180 #[(0, .tmp 28), (1, .tmp 29)], _, _, _, _⟩) rfl 180 #[(0, .tmp 28), (1, .tmp 29)] rfl (some 30) rfl (Value.int .i64 n :: (sA.toList ++ z)).toArray (by with_unfolding_all exact HBd.out) ?_))
  go_ret2
  exact ⟨_, rfl, HR.out, by omega, HB.out⟩
set_option maxHeartbeats 1000000 in
theorem rRNew_yes (n : Int) (hn : 1 ≤ n ∧ n ≤ 256) (k : Rk) (hk : RkOk k) (hz : k.has = true) (w : World) : Calls Tryz.prog 58 #[.int .i64 n, .agg (stL k).toArray] w fun e w' => ∃ K, e = .returned (.tuple #[.pointer (some ⟨K, 0, none⟩), .int .i64 0]) ∧ Row w' K 180 (Value.int .i64 n :: (stL k ++ rz)).toArray ∧ w.heap.size ≤ K ∧ Below w.heap.size w w' := by
  obtain ⟨sA, hsA⟩ : ∃ sA, sA = (stL k).toArray := ⟨_, rfl⟩
  have hl := hk.len
  have s32 : sA[32]? = some (.bool true) := by rw [hsA, ← hz]; simp [stL, b8, hl]
  have s33 : sA[33]? = some (.int .u32 (k.ctr : Int)) := by rw [hsA]; simp [stL, b8, hl]
  have hst : stL k = sA.toList := by rw [hsA]
  rw [← hsA, hst]
  have hsz : sA.size = 34 := by rw [hsA]; simp [stL, b8, hl]
  have HRs : Hid (Row (w.alloc (.cells sA 146)) w.heap.size 146 sA) := Row.fresh w _ sA
  have HSz : Hid ((Tryz.prog.info? 146).map (·.size) = some sA.size) := by unfold Hid; rw [hsz]; kernel_rfl
  have HBd : Hid (Tryz.prog.built 180 [(0, .int .i64 n), (1, .agg sA)] = some (Value.int .i64 n :: (sA.toList ++ rz)).toArray) := by
    have := rbuild_area n sA.toList (by simpa using hsz)
    unfold Hid; simpa using this
  have hq := neq_k32
  have HW : ∃ z, z = rz := ⟨_, rfl⟩
  obtain ⟨z, hz6⟩ := HW
  rw [← hz6] at HBd ⊢
  have HR : Hid (Row ((w.alloc (.cells sA 146)).alloc (.cells (Value.int .i64 n :: (sA.toList ++ z)).toArray 180)) (w.heap.size + 1) 180 (Value.int .i64 n :: (sA.toList ++ z)).toArray) := by
    have := Row.fresh (w.alloc (.cells sA 146)) 180 (Value.int .i64 n :: (sA.toList ++ z)).toArray
    unfold Hid; simpa using this
  have HB : Hid (Below w.heap.size w ((w.alloc (.cells sA 146)).alloc (.cells (Value.int .i64 n :: (sA.toList ++ z)).toArray 180))) := by unfold Hid; (repeat (first | (with_reducible refine Below.drew ?_) | (with_reducible refine below_drewN0 ?_ _) | ((with_reducible refine Below.setCell ?_ ?_ _); rotate_left; focus (first | omega | (simp; done) | (simp; omega) | (simp at *; omega))) | ((with_reducible refine Below.alloc ?_ ?_ _); rotate_left; focus (first | omega | (simp; done) | (simp; omega) | (simp at *; omega))) | (with_reducible exact Below.refl _ _)))
  obtain ⟨h1, h2⟩ := hn
  clear hsA hl hk hz hz6 hsz hst
  go_enter Tryz.func58, Tryz.ntmps58
  go_wp2_with (first | (with_reducible refine wpList_load_rowR (o := ⟨some 29, .load 146 (.tmp 3), _, _, _, _⟩) rfl 146 (.tmp 3) rfl w.heap.size rfl 146 sA HRs.out _ Tryz.underlying146 rfl HSz.out ?_) | (with_reducible refine wpList_buildTo (o := ⟨some 30, .build 180 #[(0, .tmp 28), (1, .tmp 29)], _, _, _, _⟩) rfl 180 #[(0, .tmp 28), (1, .tmp 29)] rfl (some 30) rfl (Value.int .i64 n :: (sA.toList ++ z)).toArray (by with_unfolding_all exact HBd.out) ?_))
  go_ret2
  exact ⟨_, rfl, HR.out, by omega, HB.out⟩
theorem rRNew_any (n : Int) (hn : 1 ≤ n ∧ n ≤ 256) (k : Rk) (hk : RkOk k) (w : World) : Calls Tryz.prog 58 #[.int .i64 n, .agg (stL k).toArray] w fun e w' => ∃ K, e = .returned (.tuple #[.pointer (some ⟨K, 0, none⟩), .int .i64 0]) ∧ RrIs w' K n { k with now := .no, last := .no } ∧ w.heap.size ≤ K ∧ Below w.heap.size w w' := by
  by_cases hz : k.has = true
  case neg => exact (rRNew_no n hn k hk (by simpa using hz) w).mono fun e w' ⟨K, h1, h2, h3⟩ => ⟨K, h1, ⟨z67, 0, 0, List.replicate 16 0, 0, 0, 0, 0, h2, rfl, rfl, ⟨rfl, rfl⟩, ⟨rfl, rfl⟩⟩, h3⟩
  case pos => exact (rRNew_yes n hn k hk hz w).mono fun e w' ⟨K, h1, h2, h3⟩ => ⟨K, h1, ⟨z67, 0, 0, List.replicate 16 0, 0, 0, 0, 0, h2, rfl, rfl, ⟨rfl, rfl⟩, ⟨rfl, rfl⟩⟩, h3⟩
end Go.Proofs.YtclhhdodebdmjaaGreat
