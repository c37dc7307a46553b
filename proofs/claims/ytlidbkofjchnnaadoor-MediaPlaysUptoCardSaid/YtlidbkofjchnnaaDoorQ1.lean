/- What follows is laid together from several texts of mine, in their order. -/
import Derived.Test.YtlidbkofjchnnaaDoorRows
import Derived.WalkKit
import Derived.WalkLawsBesides
import Derived.WalkSpells
import Derived.Lib.Hide
import Derived.Deep.QuietTactic
import Derived.BigQuiet
import Derived.Deep.RegionHeld3
import Derived.Deep.DeepCutAuto
import Derived.Deep.DeepFit
import Derived.ChangeKeysEq
import Derived.Maps.AppendAt
import Derived.Deep.AppendLies
import Derived.Deep.RegionLaw
import Derived.Laws.CopyOwn
import Derived.Laws.Tables
import Derived.Lib.TrailingZeros
import Derived.Laws.Bits64b
import Derived.Shelf.Spec.TrailingZeros
import Derived.Deep.RegionHeldLaw

namespace Go.Proofs.YtlidbkofjchnnaaDoor
open Go.RowKit
set_option linter.unusedVariables false
set_option linter.unusedSimpArgs false

/-- A slice's elements: its cells hold these bytes. -/
def Cells8 (w : World) (a : Option Addr) (l : List Nat) : Prop :=
  ∀ i, i < l.length → ∃ b off, a = some ⟨b, off, none⟩ ∧ w.cell? ⟨b, off + i, none⟩ = some (.int .u8 (l.getD i 0 : Nat))

theorem Cells8.nil {w : World} {a : Option Addr} : Cells8 w a [] := fun i h => by simp at h
theorem Cells8.at0 {w : World} {b off : Nat} {l : List Nat} (h : Cells8 w (some ⟨b, off, none⟩) l) (i : Nat) (hi : i < l.length) :
    w.cell? ⟨b, off + i, none⟩ = some (.int .u8 (l.getD i 0 : Nat)) := by
  obtain ⟨b', off', e, h⟩ := h i hi
  simp at e
  obtain ⟨rfl, rfl⟩ := e
  exact h
theorem Cells8.addr {w : World} {a : Option Addr} {l : List Nat} (h : Cells8 w a l) (hl : l ≠ []) : ∃ b off, a = some ⟨b, off, none⟩ := by
  obtain ⟨b, off, e, _⟩ := h 0 (by cases l <;> simp_all)
  exact ⟨b, off, e⟩

theorem take_getD (l : List Nat) (k : Nat) (h : k < l.length) : l.take (k + 1) = l.take k ++ [l.getD k 0] := by
  rw [List.take_succ_eq_append_getElem h]; simp [List.getD, h]
theorem getD_mem (l : List Nat) (k : Nat) (h : k < l.length) : l.getD k 0 ∈ l := by
  simp [List.getD, h]

/-- Block g is just these cells, of element type t, none frozen. -/
def Row (w : World) (g : Nat) (t : TypeId) (cs : Array Value) : Prop := w.heap[g]? = some (.cells cs t (0, 0))
theorem Row.lt {w : World} {g : Nat} {t : TypeId} {cs : Array Value} (h : Row w g t cs) : g < w.heap.size := by
  unfold Row at h
  exact (Array.getElem?_eq_some_iff.1 h).1
theorem Row.cell {w : World} {g : Nat} {t : TypeId} {cs : Array Value} (h : Row w g t cs) (i : Nat) : w.cell? ⟨g, i, none⟩ = cs[i]? := cell_of_row w g i cs t (0, 0) h
theorem Row.frozen {w : World} {g : Nat} {t : TypeId} {cs : Array Value} (h : Row w g t cs) (i : Nat) : w.frozen? ⟨g, i, none⟩ = false := by
  unfold Row at h; simp [World.frozen?, h]
theorem Row.fresh (w : World) (t : TypeId) (cs : Array Value) : Row (w.alloc (.cells cs t)) w.heap.size t cs := heap_alloc_new w _
theorem Row.drewN {w : World} {g : Nat} {t : TypeId} {cs : Array Value} (h : Row w g t cs) (n : Nat) : Row (w.drewN n) g t cs := h
theorem Row.alloc {w : World} {g : Nat} {t : TypeId} {cs : Array Value} (h : Row w g t cs) (o : Obj) : Row (w.alloc o) g t cs := (Below.heap_alloc w o g h.lt).trans h
theorem Row.put {w : World} {g : Nat} {t : TypeId} {cs : Array Value} (h : Row w g t cs) (i : Nat) (u : Value) : Row (w.setCell ⟨g, i, none⟩ u) g t (cs.setIfInBounds i u) := by
  unfold Row at h ⊢; simp [World.setCell, Array.getElem?_modify, h]
theorem Row.far {w : World} {g : Nat} {t : TypeId} {cs : Array Value} (h : Row w g t cs) {p : Addr} (hp : g ≠ p.block) (u : Value) : Row (w.setCell p u) g t cs := (Below.heap_setCell w p u g hp).trans h
theorem Row.below {w w' : World} {B g : Nat} {t : TypeId} {cs : Array Value} (h : Row w g t cs) (hb : Below B w w') (hg : g < B) : Row w' g t cs := (hb.block g hg).trans h

theorem quiet_add {P : Program} {f : FuncId} {args : Array Value} {w : World} {a n : Nat} {v : Value}
    (h : Calls P f args (w.drewN (a + n)) fun e w' => e = .returned v ∧ ∃ m, w' = (w.drewN (a + n)).drewN m) :
    Calls P f args (w.drewN (a + n)) fun e w'' => e = .returned v ∧ ∃ m, w'' = w.drewN (a + m) :=
  h.mono fun _ _ ⟨he, m, hm⟩ => ⟨he, n + m, by rw [hm, World.drewN_drewN, Nat.add_assoc]⟩
theorem quiet_same {P : Program} {f : FuncId} {args : Array Value} {w : World} {n : Nat} {v : Value}
    (h : Calls P f args (w.drewN n) fun e w' => e = .returned v ∧ w.drewN n = w') : Calls P f args (w.drewN n) fun e w'' => e = .returned v ∧ ∃ m, w'' = w.drewN m :=
  h.mono fun _ _ ⟨he, hm⟩ => ⟨he, n, hm.symm⟩
theorem below_drewN0 {B : Nat} {a w : World} (h : Below B a w) (n : Nat) : Below B a (w.drewN n) := ⟨h.os, h.tape, h.output, h.size, h.block⟩

/-! Arrays of integers, held against one another. -/
section
variable {P : Program} (w : World)
theorem run_eqItems_int (d : Nat) {e : TypeId} (k : IntKind) (xs ys : List Int) (he : P.underlying e = some (.int k)) (hp : P.plainKey e = true) : ∀ is : List Nat, (∀ j ∈ is, j < xs.length ∧ j < ys.length) →
    (Op.eqItems (d + 1) e 1 (xs.map (Value.int k)).toArray (ys.map (Value.int k)).toArray is).run P w = .ok (is.all fun j => xs.getD j 0 == ys.getD j 0) w
  | [], _ => by simp [Op.eqItems]
  | j :: is, h => by
    obtain ⟨h1, h2⟩ := h j (by simp)
    have a := run_part_plain (P := P) w hp (xs := (xs.map (Value.int k)).toArray) (off := j) (v := .int k (xs.getD j 0)) (by simp [List.getD, h1])
    have b := run_part_plain (P := P) w hp (xs := (ys.map (Value.int k)).toArray) (off := j) (v := .int k (ys.getD j 0)) (by simp [List.getD, h2])
    have c := run_equalIn_int (P := P) w d e k k (xs.getD j 0) (ys.getD j 0) he
    simp only [Op.eqItems, Sem.run_bind, Nat.mul_one, a, b, c, Result.andThen_ok, List.all_cons]
    cases xs.getD j 0 == ys.getD j 0
    · simp
    · simpa using run_eqItems_int d k xs ys he hp is (fun x hx => h x (by simp [hx]))

theorem run_eql_ints {t e : TypeId} {n : Nat} {i : TypeInfo} (k : IntKind) (hu : P.underlying t = some (.array n e)) (hi : P.info? e = some i) (he : P.underlying e = some (.int k)) (hp : P.plainKey e = true) (hc : P.cellsOf e = 1)
    (xs ys : List Int) (hx : xs.length = n) (hy : ys.length = n) :
    (binOp .eql t (.agg (xs.map (Value.int k)).toArray) (.agg (ys.map (Value.int k)).toArray)).run P w = .ok (.bool (xs == ys)) w := by
  have h : (Op.equalIn 10000 t (.agg (xs.map (Value.int k)).toArray) (.agg (ys.map (Value.int k)).toArray)).run P w = .ok (xs == ys) w := by
    rw [run_equalIn_array w 9999 _ _ hu hi, hc, run_eqItems_int w 9998 k xs ys he hp _ (fun j hj => by simp at hj; omega)]
    congr 1
    rw [Bool.eq_iff_iff, List.all_eq_true, beq_iff_eq]
    constructor
    · intro h
      apply List.ext_getElem (by omega)
      intro j h1 h2
      have := h j (by simp; omega)
      simpa [List.getD, h1, h2] using this
    · rintro rfl; simp
  simp only [binOp]
  simp [Op.equal, Op.maxDepth, h]
theorem run_neq_ints {t e : TypeId} {n : Nat} {i : TypeInfo} (k : IntKind) (hu : P.underlying t = some (.array n e)) (hi : P.info? e = some i) (he : P.underlying e = some (.int k)) (hp : P.plainKey e = true) (hc : P.cellsOf e = 1)
    (xs ys : List Int) (hx : xs.length = n) (hy : ys.length = n) :
    (binOp .neq t (.agg (xs.map (Value.int k)).toArray) (.agg (ys.map (Value.int k)).toArray)).run P w = .ok (.bool (xs != ys)) w := by
  have h : (Op.equalIn 10000 t (.agg (xs.map (Value.int k)).toArray) (.agg (ys.map (Value.int k)).toArray)).run P w = .ok (xs == ys) w := by
    rw [run_equalIn_array w 9999 _ _ hu hi, hc, run_eqItems_int w 9998 k xs ys he hp _ (fun j hj => by simp at hj; omega)]
    congr 1
    rw [Bool.eq_iff_iff, List.all_eq_true, beq_iff_eq]
    constructor
    · intro h
      apply List.ext_getElem (by omega)
      intro j h1 h2
      have := h j (by simp; omega)
      simpa [List.getD, h1, h2] using this
    · rintro rfl; simp
  simp only [binOp]
  simp [Op.equal, Op.maxDepth, h, bne]
end

theorem bcell {W w1 : World} (hb : Below W.heap.size W w1) : (∀ b o, b < W.heap.size → w1.cell? ⟨b, o, none⟩ = W.cell? ⟨b, o, none⟩) ∧ (∀ b o, b < W.heap.size → w1.frozen? ⟨b, o, none⟩ = W.frozen? ⟨b, o, none⟩) :=
  ⟨fun b o h => hb.cell (p := ⟨b, o, none⟩) h, fun b o h => hb.frozen (p := ⟨b, o, none⟩) h⟩
end Go.Proofs.YtlidbkofjchnnaaDoor

namespace Go.Proofs.YtlidbkofjchnnaaDoor
open Go.RowKit
set_option linter.unusedVariables false
set_option linter.unusedSimpArgs false

theorem addr_add (b off j : Nat) : (⟨b, off, none⟩ : Addr).add j = ⟨b, off + j, none⟩ := by
  unfold Addr.add; split
  · simp_all
  · rfl
theorem addr_add0 (b j : Nat) : (⟨b, 0, none⟩ : Addr).add j = ⟨b, j, none⟩ := by rw [addr_add, Nat.zero_add]
/-- What is appended: m elements of some cells each; where there are any, they lie at an address. -/
structure Src (w : World) (size : Nat) (A : Option Addr) (m : Nat) (news : List Value) : Prop where
  len : news.length = m * size
  lies : 0 < m → ∃ ad, A = some ad ∧ ∀ j u, news[j]? = some u → w.cell? (ad.add j) = some u
theorem Src.of_at {w : World} {size : Nat} {ad : Addr} {m : Nat} {news : List Value} (hl : news.length = m * size) (h : ∀ j u, news[j]? = some u → w.cell? (ad.add j) = some u) : Src w size (some ad) m news :=
  ⟨hl, fun _ => ⟨ad, rfl, h⟩⟩
theorem Src.of_own {w : World} {base : Nat} {e : TypeId} {size n : Nat} {A : Option Addr} {c : Nat} {xs : List Value} (h : w.ownsRow base e size (.slice A n c) n xs) : Src w size A n xs := by
  refine ⟨h.1, fun hn => ?_⟩
  rcases h.2 with ⟨h1, h2⟩ | ⟨g, cap, cur, hv, _, _, _⟩
  · omega
  · injection hv with hv _ _
    subst hv
    exact ⟨_, rfl, h.cells (g := g) rfl⟩
theorem Src.bytes {w : World} {A : Option Addr} {l : List Nat} (h : Cells8 w A l) : Src w 1 A l.length (l.map fun (x : Nat) => Value.int .u8 (x : Int)) := by
  refine ⟨by simp, fun hn => ?_⟩
  obtain ⟨b, off, rfl⟩ := h.addr (by intro e; simp [e] at hn)
  refine ⟨_, rfl, fun j u hu => ?_⟩
  have hj : j < l.length := by
    rcases Nat.lt_or_ge j l.length with h1 | h1
    · exact h1
    · rw [List.getElem?_eq_none (by simpa using h1)] at hu; cases hu
  have := h.at0 j hj
  simp only [List.getElem?_map, List.getElem?_eq_getElem hj, Option.map_some, Option.some.injEq] at hu
  subst hu
  rw [addr_add]
  rw [this]; simp [List.getD, hj]
theorem Src.keep {w w' : World} {size : Nat} {A : Option Addr} {m : Nat} {news : List Value} (h : Src w size A m news) (hk : ∀ a v, w.cell? a = some v → w'.cell? a = some v) : Src w' size A m news :=
  ⟨h.len, fun hm => by obtain ⟨ad, e, hc⟩ := h.lies hm; exact ⟨ad, e, fun j u hu => hk _ _ (hc j u hu)⟩⟩

section
variable {P : Program} (w : World)
theorem run_append_src (base : Nat) (t ty e : TypeId) (i : TypeInfo) (z : Value) (size bytes : Nat) (ht : P.underlying t = some (.slice e)) (hi : P.info? e = some i) (hz : i.zero = some z)
    (hsize : i.size = size) (hby : i.bytes = bytes) (hzs : z.cells.size = size) (hsz : 0 < size)
    (v : Value) (n : Nat) (xs : List Value) (hown : w.ownsRow base e size v n xs)
    (A : Option Addr) (m c : Nat) (news : List Value) (hs : Src w size A m news) (h1 : ∀ u ∈ news, u.oneCell' = true)
    (h63 : n + m ≤ maxLen) (hbytes : (n + m) * bytes ≤ 140737488355328) (hbase : base ≤ w.heap.size) :
    ∃ v' w', (Builtin.append_ #[t, t] ty #[v, .slice A m c]).run P w = .ok v' w' ∧ w'.ownsRow base e size v' (n + m) (xs ++ news) ∧ w.grownBy w' v.ownBlock ∧
      (v'.ownBlock = v.ownBlock ∨ v'.ownBlock = some w.heap.size) := by
  cases A with
  | none =>
    have hm : m = 0 := by
      rcases Nat.eq_zero_or_pos m with h | h
      · exact h
      · obtain ⟨_, e, _⟩ := hs.lies h; cases e
    subst hm
    have hnil : news = [] := List.eq_nil_of_length_eq_zero (by simpa using hs.len)
    subst hnil
    refine ⟨v, w, ?_, by simpa using hown, ⟨rfl, rfl, rfl, Nat.le_refl _, fun _ _ _ => rfl⟩, .inl rfl⟩
    rcases hown.2 with ⟨rfl, rfl⟩ | ⟨g, cap, cur, rfl, _, _, hnc, _⟩
    · simp [Builtin.append_, run_underlying ht, sizeOf, typeInfo, hi, Builtin.lenOf, Builtin.firstCells]
    · simp [Builtin.append_, run_underlying ht, sizeOf, typeInfo, hi, Builtin.lenOf, Builtin.firstCells, hnc, storeCells]
  | some ad =>
    have hcells : ∀ j u, news[j]? = some u → w.cell? (ad.add j) = some u := by
      intro j u hu
      rcases Nat.eq_zero_or_pos m with h | h
      · subst h
        have hnil : news = [] := List.eq_nil_of_length_eq_zero (by simpa using hs.len)
        subst hnil; simp at hu
      · obtain ⟨ad', e, hc⟩ := hs.lies h
        injection e with e; subst e; exact hc j u hu
    obtain ⟨v', w', hr, h2, h3, _, h5⟩ := run_append_own_at (P := P) w base t ty e i z size bytes ht hi hz hsize hby hzs hsz v n xs hown ad m c news hs.len hcells h1 h63 hbytes hbase
    exact ⟨v', w', hr, h2, h3, h5⟩

theorem wp_append_src {o : Oper} {a : Act} {K : Act → World → Prop} {Q : Exit → Act → World → Prop} (s x : Operand) (t : TypeId)
    (ho : o.op = .call { callee := .builtin .append, args := #[s, x], argTypes := #[t, t] })
    (base : Nat) (e : TypeId) (i : TypeInfo) (z : Value) (size bytes : Nat) (ht : P.underlying t = some (.slice e)) (hi : P.info? e = some i) (hz : i.zero = some z)
    (hsize : i.size = size) (hby : i.bytes = bytes) (hzs : z.cells.size = size) (hsz : 0 < size)
    (v : Value) (n : Nat) (xs : List Value) (hv : a.eval s = v) (hown : w.ownsRow base e size v n xs)
    (A : Option Addr) (m c : Nat) (news : List Value) (hx : a.eval x = .slice A m c) (hs : Src w size A m news) (h1 : ∀ u ∈ news, u.oneCell' = true)
    (h63 : n + m ≤ maxLen) (hbytes : (n + m) * bytes ≤ 140737488355328) (hbase : base ≤ w.heap.size)
    (h : ∀ v' w', w'.ownsRow base e size v' (n + m) (xs ++ news) → w.grownBy w' v.ownBlock → (v'.ownBlock = v.ownBlock ∨ v'.ownBlock = some w.heap.size) → K (a.put o.dst v') w') : o.wp P a w K Q := by
  obtain ⟨v', w', hr, h2, h3, h4⟩ := run_append_src (P := P) w base t o.type e i z size bytes ht hi hz hsize hby hzs hsz v n xs hown A m c news hs h1 h63 hbytes hbase
  unfold Oper.wp execOp
  simp only [ho, resolve, invoke, builtin, Sem.run_bind, Sem.run_pure, Result.andThen_ok, List.map_toArray, List.map_cons, List.map_nil, hv, hx, hr]
  exact h v' w' h2 h3 h4

theorem wpList_append_src {ops : Array Oper} {rest : List Oper} {o : Oper} {a : Act} {Q : Exit → Act → World → Prop} (hgd : o.guard = none) (s x : Operand) (t : TypeId)
    (ho : o.op = .call { callee := .builtin .append, args := #[s, x], argTypes := #[t, t] })
    (base : Nat) (e : TypeId) (i : TypeInfo) (z : Value) (size bytes : Nat) (ht : P.underlying t = some (.slice e)) (hi : P.info? e = some i) (hz : i.zero = some z)
    (hsize : i.size = size) (hby : i.bytes = bytes) (hzs : z.cells.size = size) (hsz : 0 < size)
    (v : Value) (n : Nat) (xs : List Value) (hv : a.eval s = v) (hown : w.ownsRow base e size v n xs)
    (A : Option Addr) (m c : Nat) (news : List Value) (hx : a.eval x = .slice A m c) (hs : Src w size A m news) (h1 : ∀ u ∈ news, u.oneCell' = true)
    (h63 : n + m ≤ maxLen) (hbytes : (n + m) * bytes ≤ 140737488355328) (hbase : base ≤ w.heap.size)
    (h : ∀ v' w', w'.ownsRow base e size v' (n + m) (xs ++ news) → w.grownBy w' v.ownBlock → (v'.ownBlock = v.ownBlock ∨ v'.ownBlock = some w.heap.size) → wpList P ops Q rest (a.put o.dst v') w') : wpList P ops Q (o :: rest) a w :=
  wpList_plain hgd fun _ hK => wp_append_src w s x t ho base e i z size bytes ht hi hz hsize hby hzs hsz v n xs hv hown A m c news hx hs h1 h63 hbytes hbase fun v' w' h2 h3 h4 => hK _ _ (h v' w' h2 h3 h4)

theorem step_append_src {ops : Array Oper} {o : Oper} {a : Act} {K : Act → World → Prop} {Q : Exit → Act → World → Prop} {E : Prop} (hgd : o.guard = none) (s x : Operand) (t : TypeId)
    (ho : o.op = .call { callee := .builtin .append, args := #[s, x], argTypes := #[t, t] })
    (base : Nat) (e : TypeId) (i : TypeInfo) (z : Value) (size bytes : Nat) (ht : P.underlying t = some (.slice e)) (hi : P.info? e = some i) (hz : i.zero = some z)
    (hsize : i.size = size) (hby : i.bytes = bytes) (hzs : z.cells.size = size) (hsz : 0 < size)
    (v : Value) (n : Nat) (xs : List Value) (hv : a.eval s = v) (hown : w.ownsRow base e size v n xs)
    (A : Option Addr) (m c : Nat) (news : List Value) (hx : a.eval x = .slice A m c) (hs : Src w size A m news) (h1 : ∀ u ∈ news, u.oneCell' = true)
    (h63 : n + m ≤ maxLen) (hbytes : (n + m) * bytes ≤ 140737488355328) (hbase : base ≤ w.heap.size)
    (h : ∀ v' w', w'.ownsRow base e size v' (n + m) (xs ++ news) → w.grownBy w' v.ownBlock → (v'.ownBlock = v.ownBlock ∨ v'.ownBlock = some w.heap.size) → K (a.put o.dst v') w') :
    if Region.wanted o (yielded ops a.tmps) = true then Oper.wp P o a w K Q else E := by
  rw [if_pos (by simp [Region.wanted, hgd])]
  exact wp_append_src w s x t ho base e i z size bytes ht hi hz hsize hby hzs hsz v n xs hv hown A m c news hx hs h1 h63 hbytes hbase h
end

theorem wpList_copy_src {P : Program} {w : World} {ops : Array Oper} {rest : List Oper} {o : Oper} {a : Act} {Q : Exit → Act → World → Prop} (hgd : o.guard = none) (d s : Operand) (dT sT : TypeId)
    (ho : o.op = .call { callee := .builtin .copy, args := #[d, s], argTypes := #[dT, sT] }) (elem : TypeId) (hu : P.underlying dT = some (.slice elem)) (hsz : (P.info? elem).map (·.size) = some 1)
    (A : Option Addr) (dLen dCap m mc : Nat) (g off : Nat) (hd : a.eval d = .slice (some ⟨g, off, none⟩) dLen dCap) (hx : a.eval s = .slice A m mc)
    (cur : List Value) (t : TypeId) (hg : Row w g t cur.toArray) (news : List Value) (hs : Src w 1 A m news) (h1 : ∀ u ∈ news, u.oneCell' = true)
    (hfit : off + min m dLen ≤ cur.length) (B : Nat) (w0 : World) (hb : Below B w0 w) (hBg : B ≤ g)
    (h : ∀ w', Hid (Row w' g t (splice cur off (news.take dLen)).toArray) → Below B w0 w' → wpList P ops Q rest (a.put o.dst (goInt ((min m dLen : Nat) : Int))) w') :
    wpList P ops Q (o :: rest) a w := by
  have hl : news.length = m := by simpa using hs.len
  have hcl : (news.take dLen).length = min m dLen := by rw [List.length_take, hl, Nat.min_comm]
  refine wpList_copy_splice hgd d s dT sT ho elem hu hsz (some ⟨g, off, none⟩) A dLen dCap m mc hd hx g off cur t hg (news.take dLen) (by rw [hcl]) ?_ (by rw [hcl]; exact hfit) (fun v hv => h1 v (List.mem_of_mem_take hv)) B w0 hb hBg ?_
  · intro hp
    obtain ⟨ad, e, hc⟩ := hs.lies (by omega)
    refine ⟨rfl, ad, e, fun j v hv => hc j v ?_⟩
    rw [List.getElem?_take] at hv
    split at hv
    · exact hv
    · cases hv
  · intro w' h1 h2
    have := h w' h1 h2
    rw [hcl]; exact this

/-- A whole array loaded from a block that is known whole. -/
theorem wpList_load_whole {P : Program} {w : World} {ops : Array Oper} {rest : List Oper} {o : Oper} {a : Act} {Q : Exit → Act → World → Prop} (hgd : o.guard = none) (ty : TypeId) (x : Operand) (ho : o.op = .load ty x)
    (g : Nat) (hx : a.eval x = .pointer (some ⟨g, 0, none⟩)) (t : TypeId) (cs : Array Value) (hg : Row w g t cs) (n : Nat) (e : TypeId)
    (hu : P.underlying ty = some (.array n e)) (hi : (P.info? ty).map (·.size) = some cs.size)
    (h : wpList P ops Q rest (a.put o.dst (.agg cs)) w) : wpList P ops Q (o :: rest) a w :=
  wpList_load_row hgd ty x ho g hx t cs (0, 0) _ hg hu rfl hi h
/-- A whole array stored over a block that is known whole. -/
theorem wpList_store_whole {P : Program} {w : World} {ops : Array Oper} {rest : List Oper} {o : Oper} {a : Act} {Q : Exit → Act → World → Prop} (hgd : o.guard = none) (ty : TypeId) (x y : Operand) (ho : o.op = .store ty x y)
    (g : Nat) (cells : Array Value) (hx : a.eval x = .pointer (some ⟨g, 0, none⟩)) (hy : a.eval y = .agg cells)
    (t : TypeId) (old : Array Value) (hg : Row w g t old) (hi : (P.info? ty).map (·.size) = some cells.size)
    (hold : old.size = cells.size) (h1 : cells.all (·.oneCell') = true)
    (h : ∀ w', Hid (Row w' g t cells) → w.grownBy w' (some g) → wpList P ops Q rest (a.put o.dst undef) w') : wpList P ops Q (o :: rest) a w :=
  wpList_store_row hgd ty x y ho g cells hx hy t old hg hi hold h1
    (h _ (setRow_heap w g old cells t _ hg) ⟨rfl, rfl, rfl, by simp, fun k _ hk => setRow_other w g k _ (fun e => hk (by rw [e]))⟩)
theorem grown_row {w w' : World} {g g' : Nat} {t : TypeId} {cs : Array Value} (h : Row w g t cs) (hg : w.grownBy w' (some g')) (hne : g ≠ g') : Row w' g t cs := (hg.block g h.lt (by simpa using hne)).trans h
theorem below_grown {B : Nat} {a w w' : World} {g : Nat} (h : Below B a w) (hg : w.grownBy w' (some g)) (hB : B ≤ w.heap.size) (hr : B ≤ g) : Below B a w' := h.grown hg hB (fun k hk => by injection hk with hk; omega)

/-- The cells that an owned row of bytes shows. -/
theorem Cells8.of_own {w : World} {base : Nat} {e : TypeId} {A : Option Addr} {n c : Nat} {l : List Nat} (h : w.ownsRow base e 1 (.slice A n c) n (l.map fun (x : Nat) => Value.int .u8 (x : Int))) : n = l.length ∧ Cells8 w A l := by
  have hn : n = l.length := by have := h.1; simpa using this.symm
  refine ⟨hn, fun i hi => ?_⟩
  rcases h.2 with ⟨h1, h2⟩ | ⟨g, cap, cur, hv, _, _, _⟩
  · omega
  · injection hv with hv _ _
    subst hv
    refine ⟨g, 0, rfl, ?_⟩
    have := h.cells (g := g) rfl i (.int .u8 (l.getD i 0 : Nat)) (by simp [List.getD, hi])
    rw [addr_add] at this
    exact this
theorem own_at {w : World} {base : Nat} {e : TypeId} {size : Nat} {v : Value} {n : Nat} {xs : List Value} (h : w.ownsRow base e size v n xs) (hn : 0 < n) : ∃ g c, v = .slice (some ⟨g, 0, none⟩) n c ∧ base ≤ g ∧ g < w.heap.size ∧ n ≤ c ∧ c ≤ maxLen := by
  have hlt := h.lt
  rcases h.2 with ⟨rfl, rfl⟩ | ⟨g, cap, cur, rfl, h0, _, h1, h2, _⟩
  · omega
  · exact ⟨g, cap, rfl, h0, (hlt g rfl).2, h1, h2⟩
theorem own_shape {w : World} {base : Nat} {e : TypeId} {size : Nat} {v : Value} {n : Nat} {xs : List Value} (h : w.ownsRow base e size v n xs) : ∃ A c, v = .slice A n c ∧ n ≤ c ∧ c ≤ maxLen := by
  rcases h.2 with ⟨rfl, rfl⟩ | ⟨g, cap, cur, rfl, _, _, h1, h2, _⟩
  · exact ⟨none, 0, rfl, Nat.le_refl _, by simp [maxLen]⟩
  · exact ⟨_, _, rfl, h1, h2⟩
theorem Cells8.below {w w' : World} {b off : Nat} {l : List Nat} {B : Nat} (h : Cells8 w (some ⟨b, off, none⟩) l) (hb : Below B w w') (hlt : b < B) : Cells8 w' (some ⟨b, off, none⟩) l := by
  intro i hi
  refine ⟨b, off, rfl, ?_⟩
  rw [hb.cell (p := ⟨b, off + i, none⟩) hlt]
  exact h.at0 i hi
theorem Cells8.keep {w w' : World} {a : Option Addr} {l : List Nat} (h : Cells8 w a l) (hk : ∀ p v, w.cell? p = some v → w'.cell? p = some v) : Cells8 w' a l := by
  intro i hi
  obtain ⟨b, off, e, hc⟩ := h i hi
  exact ⟨b, off, e, hk _ _ hc⟩
/-- Old cells stay, as one fact: below a heap's size nothing turns. -/
theorem keep_below {w w' : World} (hb : Below w.heap.size w w') : ∀ p v, w.cell? p = some v → w'.cell? p = some v := fun p v h => by
  rw [hb.cell (World.block_lt_of_cell? w p h)]; exact h
theorem keep_grown {w w' : World} (hg : w.grownBy w' none) : ∀ p v, w.cell? p = some v → w'.cell? p = some v := fun p v h => hg.cell h (by simp)
theorem grown_below {w w' : World} (h : Below w.heap.size w w') (row : Option Nat) : w.grownBy w' row := ⟨h.os, h.tape, h.output, h.size, fun i hi _ => h.block i hi⟩
theorem own_below {w w' : World} {base : Nat} {e : TypeId} {size : Nat} {v : Value} {n : Nat} {xs : List Value} (h : w.ownsRow base e size v n xs) (hb : Below w.heap.size w w') : w'.ownsRow base e size v n xs :=
  h.kept (grown_below hb none) (by cases hv : v.ownBlock <;> simp)
theorem own_drewN {w : World} {base : Nat} {e : TypeId} {size : Nat} {v : Value} {n : Nat} {xs : List Value} (h : w.ownsRow base e size v n xs) (k : Nat) : (w.drewN k).ownsRow base e size v n xs := h
theorem own_mono {w : World} {base base' : Nat} {e : TypeId} {size : Nat} {v : Value} {n : Nat} {xs : List Value} (h : w.ownsRow base e size v n xs) (hb : base' ≤ base) : w.ownsRow base' e size v n xs := by
  refine ⟨h.1, ?_⟩
  rcases h.2 with h1 | ⟨g, cap, cur, h1, h2, h3⟩
  · exact .inl h1
  · exact .inr ⟨g, cap, cur, h1, Nat.le_trans hb h2, h3⟩
end Go.Proofs.YtlidbkofjchnnaaDoor

namespace Go.Proofs.YtlidbkofjchnnaaDoor
open Go.RowKit
set_option linter.unusedVariables false
set_option linter.unusedSimpArgs false

/-- A world that has only grown since w. -/
structure Later (w : World) where
  u : World
  h : Below w.heap.size w u
instance (w : World) : Nonempty (Later w) := ⟨⟨w, Below.refl _ _⟩⟩
theorem region_later {P : Program} {id : Nat} {Q : Exit → Act → World → Prop} {a : Act} {w : World} {l : List Oper} (hm : P.follows .mixedOrders = true) (hB : Region.lexB .any l.toArray = true)
    (h : wpQuiet P l.toArray (fun u => ∃ t : Later w, u = t.u) (fun a' => ∀ t : Later w, Q .normal a' t.u) l a) : (Code.region id l.toArray true).wp P Q a w :=
  wp_region_quiet (C := fun u => ∃ t : Later w, u = t.u) hm hB ⟨⟨_, (Below.refl _ _).drew⟩, rfl⟩ (by
    have e : (fun a' => ∀ t : Later w, Q .normal a' t.u) = (fun a' => ∀ w', (∃ t : Later w, w' = t.u) → Q .normal a' w') := by
      funext a'; apply propext
      exact ⟨fun h w' ⟨t, e⟩ => by subst e; exact h t, fun h t => h _ ⟨t, rfl⟩⟩
    rw [e] at h
    exact h)
theorem Later.call {P : Program} {f : FuncId} {args : Array Value} {w : World} {t : Later w} {v : Value} (h : Calls P f args t.u fun e u' => e = .returned v ∧ Below t.u.heap.size t.u u') :
    Calls P f args t.u fun e w'' => e = .returned v ∧ ∃ t' : Later w, w'' = t'.u :=
  h.mono fun e u' ⟨he, hb⟩ => ⟨he, ⟨u', t.h.trans (hb.mono t.h.size)⟩, rfl⟩
theorem Later.same {P : Program} {f : FuncId} {args : Array Value} {w : World} {t : Later w} {v : Value} (h : Calls P f args t.u fun e u' => e = .returned v ∧ t.u = u') :
    Calls P f args t.u fun e w'' => e = .returned v ∧ ∃ t' : Later w, w'' = t'.u :=
  h.mono fun e u' ⟨he, hb⟩ => ⟨he, t, hb.symm⟩
theorem Later.drew {P : Program} {f : FuncId} {args : Array Value} {w : World} {t : Later w} {v : Value} (h : Calls P f args t.u fun e u' => e = .returned v ∧ ∃ n, u' = t.u.drewN n) :
    Calls P f args t.u fun e w'' => e = .returned v ∧ ∃ t' : Later w, w'' = t'.u :=
  h.mono fun e u' ⟨he, n, hb⟩ => ⟨he, ⟨t.u.drewN n, below_drewN0 t.h n⟩, hb⟩
end Go.Proofs.YtlidbkofjchnnaaDoor

namespace Go.Proofs.YtlidbkofjchnnaaDoor
open Go.RowKit
set_option linter.unusedVariables false
set_option linter.unusedSimpArgs false

structure Turns (w w' : World) (S : List Nat) : Prop where
  os : w'.os = w.os
  tape : w'.tape = w.tape
  output : w'.output = w.output
  size : w.heap.size ≤ w'.heap.size
  block : ∀ k, k < w.heap.size → k ∉ S → w'.heap[k]? = w.heap[k]?
theorem Turns.refl (w : World) (S : List Nat) : Turns w w S := ⟨rfl, rfl, rfl, Nat.le_refl _, fun _ _ _ => rfl⟩
theorem Turns.of_below {w w' : World} (h : Below w.heap.size w w') (S : List Nat) : Turns w w' S := ⟨h.os, h.tape, h.output, h.size, fun k hk _ => h.block k hk⟩
theorem Turns.trans {a b c : World} {S S' : List Nat} (h : Turns a b S) (h' : Turns b c S') (hS : ∀ k ∈ S', k ∈ S ∨ a.heap.size ≤ k) : Turns a c S :=
  ⟨h'.os.trans h.os, h'.tape.trans h.tape, h'.output.trans h.output, Nat.le_trans h.size h'.size, fun k hk hn =>
    (h'.block k (Nat.lt_of_lt_of_le hk h.size) (fun hm => (hS k hm).elim (fun x => hn x) (fun x => by omega))).trans (h.block k hk hn)⟩
theorem Turns.then_below {a b c : World} {S : List Nat} (h : Turns a b S) (h' : Below b.heap.size b c) : Turns a c S := h.trans (Turns.of_below h' []) (by simp)
theorem Turns.setCell {a w : World} {S : List Nat} (h : Turns a w S) {p : Addr} (hp : p.block ∈ S ∨ a.heap.size ≤ p.block) (u : Value) : Turns a (w.setCell p u) S :=
  ⟨h.os, h.tape, h.output, by simpa [World.setCell] using h.size, fun k hk hn => (Below.heap_setCell w p u k (fun e => by subst e; exact hp.elim hn (fun x => by omega))).trans (h.block k hk hn)⟩
theorem Turns.alloc {a w : World} {S : List Nat} (h : Turns a w S) (o : Obj) : Turns a (w.alloc o) S :=
  ⟨h.os, h.tape, h.output, Nat.le_trans h.size (by simp), fun k hk hn => (Below.heap_alloc w o k (Nat.lt_of_lt_of_le hk h.size)).trans (h.block k hk hn)⟩
theorem Turns.drewN {a w : World} {S : List Nat} (h : Turns a w S) (n : Nat) : Turns a (w.drewN n) S := ⟨h.os, h.tape, h.output, h.size, h.block⟩
theorem Turns.drew {a w : World} {S : List Nat} (h : Turns a w S) : Turns a w.drew S := ⟨h.os, h.tape, h.output, h.size, h.block⟩
theorem Turns.row {w w' : World} {S : List Nat} (h : Turns w w' S) {g : Nat} {t : TypeId} {cs : Array Value} (hr : Row w g t cs) (hn : g ∉ S) : Row w' g t cs := (h.block g hr.lt hn).trans hr
theorem Turns.cell {w w' : World} {S : List Nat} (h : Turns w w' S) {p : Addr} {v : Value} (hc : w.cell? p = some v) (hn : p.block ∉ S) : w'.cell? p = some v :=
  (World.cell?_of_block (h.block p.block (World.block_lt_of_cell? w p hc) hn)).trans hc
theorem Turns.own {w w' : World} {S : List Nat} (h : Turns w w' S) {base : Nat} {e : TypeId} {size : Nat} {v : Value} {n : Nat} {xs : List Value} (ho : w.ownsRow base e size v n xs) (hn : ∀ g, v.ownBlock = some g → g ∉ S) : w'.ownsRow base e size v n xs := by
  refine ⟨ho.1, ?_⟩
  rcases ho.2 with h1 | ⟨g, cap, cur, rfl, hb, hg, rest⟩
  · exact .inl h1
  · exact .inr ⟨g, cap, cur, rfl, hb, (h.block g (Array.getElem?_eq_some_iff.1 hg).1 (hn g rfl)).trans hg, rest⟩
theorem Turns.below {B : Nat} {a w w' : World} {S : List Nat} (h : Turns w w' S) (hb : Below B a w) (hB : B ≤ w.heap.size) (hS : ∀ k ∈ S, B ≤ k) : Below B a w' :=
  hb.trans ⟨h.os, h.tape, h.output, h.size, fun k hk => h.block k (by omega) (fun hm => by have := hS k hm; omega)⟩
theorem Row.ne_type {w : World} {g g' : Nat} {t t' : TypeId} {cs cs' : Array Value} (h : Row w g t cs) (h' : Row w g' t' cs') (hne : t ≠ t') : g ≠ g' := by
  rintro rfl
  unfold Row at h h'
  rw [h] at h'
  injection h' with h'
  injection h' with _ ht
  exact hne ht
/-- The block of an owned row, as a row. -/
theorem own_row {w : World} {base : Nat} {e : TypeId} {size : Nat} {g n c : Nat} {xs : List Value} (h : w.ownsRow base e size (.slice (some ⟨g, 0, none⟩) n c) n xs) : base ≤ g ∧ ∃ cur, Row w g e cur ∧ cur.size = c * size ∧ n ≤ c ∧ c ≤ maxLen ∧ cur.toList.take (n * size) = xs := by
  rcases h.2 with ⟨h1, _⟩ | ⟨g', cap, cur, hv, hb, hg, h1, h2, h3, h4⟩
  · cases h1
  · injection hv with hv _ hc
    injection hv with hv
    injection hv with hv
    subst hv; subst hc
    exact ⟨hb, cur, hg, h3, h1, h2, h4⟩
theorem Turns.of_grown {w w' : World} {g : Nat} (h : w.grownBy w' (some g)) : Turns w w' [g] := ⟨h.os, h.tape, h.output, h.size, fun k hk hn => h.block k hk (by simpa using hn)⟩
theorem Turns.mono {w w' : World} {S S' : List Nat} (h : Turns w w' S) (hS : ∀ k ∈ S, k ∈ S') : Turns w w' S' := ⟨h.os, h.tape, h.output, h.size, fun k hk hn => h.block k hk (fun hm => hn (hS k hm))⟩
end Go.Proofs.YtlidbkofjchnnaaDoor

namespace Go.Proofs.YtlidbkofjchnnaaDoor
open Go.RowKit
set_option linter.unusedVariables false
set_option linter.unusedSimpArgs false

/-- Integers as cells. -/
def intsV (k : IntKind) (l : List Nat) : List Value := l.map fun (x : Nat) => Value.int k (x : Int)
theorem intsV_get (k : IntKind) (l : List Nat) (i : Nat) (hi : i < l.length) : (intsV k l)[i]? = some (.int k (l.getD i 0 : Nat)) := by simp [intsV, List.getD, hi]
theorem intsV_length (k : IntKind) (l : List Nat) : (intsV k l).length = l.length := by simp [intsV]
theorem intsV_one (k : IntKind) (l : List Nat) : ∀ u ∈ intsV k l, u.oneCell' = true := by
  intro u hu; obtain ⟨x, _, rfl⟩ := List.mem_map.1 hu; rfl
theorem intsV_append (k : IntKind) (l l' : List Nat) : intsV k (l ++ l') = intsV k l ++ intsV k l' := by simp [intsV]
theorem intsV_set (k : IntKind) (l : List Nat) (i x : Nat) : intsV k (l.set i x) = (intsV k l).set i (.int k (x : Int)) := by simp [intsV, List.map_set]

/-- An owned row at a block: its cell i. -/
theorem own_cell {w : World} {B : Nat} {t : TypeId} {k : IntKind} {L n c : Nat} {l : List Nat} (h : w.ownsRow B t 1 (.slice (some ⟨L, 0, none⟩) n c) n (intsV k l)) (i : Nat) (hi : i < l.length) : w.cell? ⟨L, i, none⟩ = some (.int k (l.getD i 0 : Nat)) := by
  have := h.cells (g := L) rfl i _ (intsV_get k l i hi)
  rw [addr_add, Nat.zero_add] at this
  exact this
theorem own_thaw {w : World} {B : Nat} {t : TypeId} {L n c : Nat} {xs : List Value} (h : w.ownsRow B t 1 (.slice (some ⟨L, 0, none⟩) n c) n xs) (i : Nat) : w.frozen? ⟨L, i, none⟩ = false := by
  obtain ⟨_, cur, hr, _⟩ := own_row h
  exact hr.frozen i
theorem own_put {w : World} {B : Nat} {t : TypeId} {k : IntKind} {L n c : Nat} {l : List Nat} (h : w.ownsRow B t 1 (.slice (some ⟨L, 0, none⟩) n c) n (intsV k l)) (i x : Nat) (hi : i < l.length) : (w.setCell ⟨L, i, none⟩ (.int k (x : Int))).ownsRow B t 1 (.slice (some ⟨L, 0, none⟩) n c) n (intsV k (l.set i x)) := by
  obtain ⟨hB, cur, hr, hs, hn, hm, ht⟩ := own_row h
  have hl := h.1
  rw [intsV_length] at hl
  refine ⟨by rw [intsV_length, List.length_set]; exact hl, .inr ⟨L, c, cur.setIfInBounds i (.int k (x : Int)), rfl, hB, hr.put i _, hn, hm, by simpa using hs, ?_⟩⟩
  rw [intsV_set, ← ht, Array.toList_setIfInBounds, List.take_set]
theorem own_far {w : World} {B : Nat} {t : TypeId} {size L n c : Nat} {xs : List Value} (h : w.ownsRow B t size (.slice (some ⟨L, 0, none⟩) n c) n xs) {p : Addr} (hp : p.block ≠ L) (u : Value) : (w.setCell p u).ownsRow B t size (.slice (some ⟨L, 0, none⟩) n c) n xs :=
  (Turns.refl w [p.block]).setCell (by simp) u |>.own h (fun g hg => by injection hg with hg; subst hg; simpa using fun e => hp e.symm)

/-- The object at G, its slice's row at L. -/
structure Held (tS tE : TypeId) (k : IntKind) (w : World) (B G L c : Nat) (ks : List Nat) : Prop where
  hG : B ≤ G
  row : Row w G tS #[.slice (some ⟨L, 0, none⟩) ks.length c]
  own : w.ownsRow B tE 1 (.slice (some ⟨L, 0, none⟩) ks.length c) ks.length (intsV k ks)
section
variable {tS tE : TypeId} {k : IntKind} {w : World} {B G L c : Nat} {ks : List Nat}
theorem Held.cellG (h : Held tS tE k w B G L c ks) : w.cell? ⟨G, 0, none⟩ = some (.slice (some ⟨L, 0, none⟩) ks.length c) := by rw [h.row.cell]; simp
theorem Held.thawG (h : Held tS tE k w B G L c ks) : w.frozen? ⟨G, 0, none⟩ = false := h.row.frozen 0
theorem Held.cell (h : Held tS tE k w B G L c ks) (i : Nat) (hi : i < ks.length) : w.cell? ⟨L, i, none⟩ = some (.int k (ks.getD i 0 : Nat)) := own_cell h.own i hi
theorem Held.thaw (h : Held tS tE k w B G L c ks) (i : Nat) : w.frozen? ⟨L, i, none⟩ = false := own_thaw h.own i
theorem Held.hL (h : Held tS tE k w B G L c ks) : B ≤ L ∧ L < w.heap.size ∧ ks.length ≤ c ∧ c ≤ maxLen := by
  obtain ⟨h1, cur, hr, _, h2, h3, _⟩ := own_row h.own
  exact ⟨h1, hr.lt, h2, h3⟩
theorem Held.gLt (h : Held tS tE k w B G L c ks) : G < w.heap.size := h.row.lt
theorem Held.ne (h : Held tS tE k w B G L c ks) (ht : tS ≠ tE) : G ≠ L := by
  obtain ⟨_, cur, hr, _⟩ := own_row h.own
  exact h.row.ne_type hr ht
theorem Held.turns {w' : World} {S : List Nat} (h : Held tS tE k w B G L c ks) (ht : Turns w w' S) (hG : G ∉ S) (hL : L ∉ S) : Held tS tE k w' B G L c ks :=
  ⟨h.hG, ht.row h.row hG, ht.own h.own (fun g hg => by injection hg with hg; subst hg; exact hL)⟩
theorem Held.below {w' : World} (h : Held tS tE k w B G L c ks) (hb : Below w.heap.size w w') : Held tS tE k w' B G L c ks := h.turns (Turns.of_below hb []) (by simp) (by simp)
theorem Held.alloc (h : Held tS tE k w B G L c ks) (o : Obj) : Held tS tE k (w.alloc o) B G L c ks := h.below ((Below.refl _ _).alloc (Nat.le_refl _) o)
theorem Held.drewN (h : Held tS tE k w B G L c ks) (n : Nat) : Held tS tE k (w.drewN n) B G L c ks := ⟨h.hG, h.row, h.own⟩
theorem Held.put (h : Held tS tE k w B G L c ks) (ht : tS ≠ tE) (i x : Nat) (hi : i < ks.length) : Held tS tE k (w.setCell ⟨L, i, none⟩ (.int k (x : Int))) B G L c (ks.set i x) :=
  ⟨h.hG, by rw [List.length_set]; exact h.row.far (h.ne ht) _, by rw [List.length_set]; exact own_put h.own i x hi⟩
theorem Held.mono {B' : Nat} (h : Held tS tE k w B G L c ks) (hB : B' ≤ B) : Held tS tE k w B' G L c ks := ⟨Nat.le_trans hB h.hG, h.row, own_mono h.own hB⟩
/-- The field is given another row. -/
theorem Held.field {L' c' : Nat} {ks' : List Nat} (h : Held tS tE k w B G L c ks) (ho : w.ownsRow B tE 1 (.slice (some ⟨L', 0, none⟩) ks'.length c') ks'.length (intsV k ks')) (ht : tS ≠ tE) :
    Held tS tE k (w.setCell ⟨G, 0, none⟩ (.slice (some ⟨L', 0, none⟩) ks'.length c')) B G L' c' ks' := by
  obtain ⟨_, cur, hr, _⟩ := own_row ho
  refine ⟨h.hG, ?_, own_far ho (by simpa using h.row.ne_type hr ht) _⟩
  have := h.row.put 0 (.slice (some ⟨L', 0, none⟩) ks'.length c')
  simpa using this
end
end Go.Proofs.YtlidbkofjchnnaaDoor

namespace Go.Proofs.YtlidbkofjchnnaaDoor
open Go.RowKit
set_option linter.unusedVariables false
set_option linter.unusedSimpArgs false

/-- The table of trailing zeros in its variable: block 0. -/
def Tab (w : World) : Prop := ∀ j, j < Lib.deBruijn64tab.length → w.cell? ⟨0, j, none⟩ = some (.int .u8 (Lib.deBruijn64tab.getD j 0 : Nat))
theorem Tab.lt {w : World} (h : Tab w) : 0 < w.heap.size := World.block_lt_of_cell? w _ (h 0 (by decide))
theorem Tab.keep {w w' : World} (h : Tab w) (hk : ∀ p v, w.cell? p = some v → w'.cell? p = some v) : Tab w' := fun j hj => hk _ _ (h j hj)
theorem Tab.below {w w' : World} (h : Tab w) (hb : Below w.heap.size w w') : Tab w' := h.keep (keep_below hb)
set_option maxHeartbeats 1000000 in
theorem tz_core (x k idx : Nat) (w : World) (hx0 : ((x : Int) == 0) = false)
    (key : IntKind.u64.wrap (bits BinOp.and IntKind.u64 (x : Int) (IntKind.u64.wrap (-(x : Int))) * 285870213051353865) / 288230376151711744 = (idx : Int))
    (hi : idx < 64) (hk : k < 64) (hcell : w.cell? ⟨0, idx, none⟩ = some (.int .u8 k)) :
    Calls Tryd.prog 76 #[.int .u64 x] w fun e w' => e = .returned (.int .i64 k) ∧ w = w' := by
  go_enter Tryd.func76, Tryd.ntmps76
  go_wp2_with (simp only [key])
  go_ret
  exact ⟨rfl, rfl⟩
theorem tz_any (x : Nat) (hx : x < 18446744073709551616) (hx0 : x ≠ 0) (w : World) (hT : Tab w) :
    Calls Tryd.prog 76 #[.int .u64 x] w fun e w' => e = .returned (.int .i64 (Lib.ctz 64 x : Nat)) ∧ w = w' := by
  obtain ⟨hlow, hk⟩ := Lib.lowest_bit 64 x hx0 hx
  obtain ⟨hi, htab⟩ := Lib.deBruijn64_at _ hk
  have hcell := hT _ hi
  rw [htab] at hcell
  exact tz_core x _ _ w (by simp; omega) (tz64_key x _ hx hx0 hlow) hi hk hcell
theorem ctz_lt (x : Nat) (hx : x < 18446744073709551616) (hx0 : x ≠ 0) : Lib.ctz 64 x < 64 := (Lib.lowest_bit 64 x hx0 hx).2

/-- The columns of a word's bits. -/
def cols : List Nat := [7, 11, 13, 14, 19, 21, 22, 25, 26, 28, 35, 37, 38, 41, 42, 44, 49, 50, 52, 56, 67, 69, 70, 73, 74, 76, 81, 82, 84, 88, 97, 98, 100, 104, 112, 131, 133, 134, 137, 138, 140, 145, 146, 148, 152, 161, 162, 164, 168, 176, 193, 194, 196, 200, 208, 224, 31, 47, 55, 59, 61, 62, 79, 87]
theorem cols_lt (i : Nat) : cols.getD i 0 < 256 := by
  by_cases h : i < 64
  · exact (by decide : ∀ i, i < 64 → cols.getD i 0 < 256) i h
  · have : cols.getD i 0 = 0 := by simp [List.getD, cols]; rw [List.getElem?_eq_none (by simp; omega)]; rfl
    omega
theorem u8_xor_nat (a b : Nat) (ha : a < 256) (hb : b < 256) : bits .xor .u8 (a : Int) (b : Int) = ((a ^^^ b : Nat) : Int) := by
  have hx : a ^^^ b < 2 ^ 8 := Nat.xor_lt_two_pow (by omega) (by omega)
  have h1 : (BitVec.ofInt 8 (a : Int)).toNat = a := by
    rw [BitVec.ofInt_natCast, BitVec.toNat_ofNat]; exact Nat.mod_eq_of_lt (by omega)
  have h2 : (BitVec.ofInt 8 (b : Int)).toNat = b := by
    rw [BitVec.ofInt_natCast, BitVec.toNat_ofNat]; exact Nat.mod_eq_of_lt (by omega)
  show IntKind.u8.wrap ((BitVec.ofInt 8 (a : Int) ^^^ BitVec.ofInt 8 (b : Int)).toNat : Int) = _
  rw [BitVec.toNat_xor, h1, h2, IntKind.wrap_u8]
  omega
theorem and_pred_lt (w : Nat) (h : w ≠ 0) : w &&& (w - 1) < w := Nat.lt_of_le_of_lt Nat.and_le_right (by omega)
/-- A word's check. -/
def chk (w : Nat) : Nat := if h : w = 0 then 0 else cols.getD (Lib.ctz 64 w) 0 ^^^ chk (w &&& (w - 1))
termination_by w
decreasing_by exact and_pred_lt w h
theorem chk_zero : chk 0 = 0 := by rw [chk]; simp
theorem chk_step (w : Nat) (h : w ≠ 0) : chk w = cols.getD (Lib.ctz 64 w) 0 ^^^ chk (w &&& (w - 1)) := by rw [chk]; simp [h]
theorem chk_lt (w : Nat) : chk w < 256 := by
  induction w using Nat.strongRecOn with
  | ind w ih =>
    by_cases h : w = 0
    · subst h; rw [chk_zero]; omega
    · rw [chk_step w h]
      exact Nat.xor_lt_two_pow (n := 8) (cols_lt _) (ih _ (and_pred_lt w h))
def colS : ByteArray := { data := #[7, 11, 13, 14, 19, 21, 22, 25, 26, 28, 35, 37, 38, 41, 42, 44, 49, 50, 52, 56, 67, 69, 70, 73, 74, 76, 81, 82, 84, 88, 97, 98, 100, 104, 112, 131, 133, 134, 137, 138, 140, 145, 146, 148, 152, 161, 162, 164, 168, 176, 193, 194, 196, 200, 208, 224, 31, 47, 55, 59, 61, 62, 79, 87] }
theorem colS_at : ∀ i, i < 64 → (colS[i]?).map (·.toNat) = some (cols.getD i 0) := by decide +kernel
theorem col_index (w : World) (i : Nat) (hi : i < 64) : (Instr.index 9 (.string colS) (.int .i64 i)).run Tryd.prog w = .ok (.int .u8 (cols.getD i 0 : Nat)) w := by
  have h := colS_at i hi
  cases hc : colS[i]? with
  | none => rw [hc] at h; cases h
  | some u =>
    rw [hc] at h
    simp at h
    simp [Instr.index, run_underlying Tryd.underlying9, hc, asInt, asIntOf, ← h]
set_option maxRecDepth 100000 in
set_option maxHeartbeats 1000000 in
theorem Check_any (x : Nat) (hx : x < 18446744073709551616) (w : World) (hT : Tab w) :
    Calls Tryd.prog 66 #[.int .u64 x] w fun e w' => e = .returned (.int .u8 (chk x : Nat)) ∧ w = w' := by
  have HT := Lib.hid hT
  obtain ⟨q, hq⟩ : ∃ q, q = chk x := ⟨_, rfl⟩
  have HQ := Lib.hid hq
  have hci := fun i hi => col_index w i hi
  unfold colS at hci
  have HCi := Lib.hid hci
  rw [← hq]
  clear hT hci hq
  go_enter Tryd.func66, Tryd.ntmps66
  go_wp2
  go_loop [0, 3] (fun vv cv => ∃ v c : Nat, v ≤ x ∧ c < 256 ∧ vv = .int .u64 v ∧ cv = .int .u8 c ∧ c ^^^ chk v = q) (fun vv _ => (intOf vv).toNat)
  case atStart => exact ⟨x, 0, Nat.le_refl _, by omega, rfl, rfl, by rw [HQ.out]; simp⟩
  case round =>
    obtain ⟨v, c, hv, hc, rfl, rfl, he⟩ := hrel
    have HE := Lib.hid he
    clear he
    by_cases h0 : v = 0
    · subst h0
      have hcq : c = q := by have := HE.out; rw [chk_zero] at this; simpa using this
      have HCq := Lib.hid hcq
      clear hcq
      go_wp2
      go_ret
      exact ⟨by rw [HCq.out]; rfl, rfl⟩
    · have hv64 : v < 18446744073709551616 := by omega
      have h00 : (v == 0) = false := by simp [h0]
      have h01 : ((v : Int) == 0) = false := by simp; exact h0
      have HTz := Lib.hid (tz_any v hv64 h0 w HT.out)
      have hk := ctz_lt v hv64 h0
      have HS := Lib.hid (chk_step v h0)
      generalize Lib.ctz 64 v = k at *
      have hci := HCi.out k hk
      have hcl := cols_lt k
      have hx1 := u8_xor_nat c (cols.getD k 0) hc hcl
      have hw : IntKind.u64.wrap ((v : Int) - 1) = ((v - 1 : Nat) : Int) := by rw [IntKind.wrap_u64]; omega
      have ha := bits_and_u64_nat v (v - 1) hv64 (by omega)
      have hlt := and_pred_lt v h0
      have hxl : c ^^^ cols.getD k 0 < 256 := Nat.xor_lt_two_pow (n := 8) hc hcl
      generalize cols.getD k 0 = m at *
      generalize hv2 : v &&& (v - 1) = v2 at *
      obtain ⟨c2, hc2⟩ : ∃ c2, c2 = c ^^^ m := ⟨_, rfl⟩
      rw [← hc2] at hx1 hxl
      have HC2 := Lib.hid hc2
      clear hc2 hv2
      go_wp2_with fail
      refine HTz.out.mono ?_
      rintro e w' ⟨rfl, rfl⟩
      clear HTz
      go_wp2
      go_round
      case rel => exact ⟨v2, c2, by omega, hxl, rfl, rfl, by rw [HC2.out, Nat.xor_assoc, ← HS.out]; exact HE.out⟩
      case measure => simp [intOf]; omega
end Go.Proofs.YtlidbkofjchnnaaDoor

namespace Go.Proofs.YtlidbkofjchnnaaDoor
open Go.RowKit
set_option linter.unusedVariables false
set_option linter.unusedSimpArgs false

def popS : ByteArray := { data := #[0, 1, 1, 2, 1, 2, 2, 3, 1, 2, 2, 3, 2, 3, 3, 4, 1, 2, 2, 3, 2, 3, 3, 4, 2, 3, 3, 4, 3, 4, 4, 5, 1, 2, 2, 3, 2, 3, 3, 4, 2, 3, 3, 4, 3, 4, 4, 5, 2, 3, 3, 4, 3, 4, 4, 5, 3, 4, 4, 5, 4, 5, 5, 6, 1, 2, 2, 3, 2, 3, 3, 4, 2, 3, 3, 4, 3, 4, 4, 5, 2, 3, 3, 4, 3, 4, 4, 5, 3, 4, 4, 5, 4, 5, 5, 6, 2, 3, 3, 4, 3, 4, 4, 5, 3, 4, 4, 5, 4, 5, 5, 6, 3, 4, 4, 5, 4, 5, 5, 6, 4, 5, 5, 6, 5, 6, 6, 7, 1, 2, 2, 3, 2, 3, 3, 4, 2, 3, 3, 4, 3, 4, 4, 5, 2, 3, 3, 4, 3, 4, 4, 5, 3, 4, 4, 5, 4, 5, 5, 6, 2, 3, 3, 4, 3, 4, 4, 5, 3, 4, 4, 5, 4, 5, 5, 6, 3, 4, 4, 5, 4, 5, 5, 6, 4, 5, 5, 6, 5, 6, 6, 7, 2, 3, 3, 4, 3, 4, 4, 5, 3, 4, 4, 5, 4, 5, 5, 6, 3, 4, 4, 5, 4, 5, 5, 6, 4, 5, 5, 6, 5, 6, 6, 7, 3, 4, 4, 5, 4, 5, 5, 6, 4, 5, 5, 6, 5, 6, 6, 7, 4, 5, 5, 6, 5, 6, 6, 7, 5, 6, 6, 7, 6, 7, 7, 8] }
/-- How many bits of a byte are set. -/
def pop8 (x : Nat) : Nat := x % 2 + x / 2 % 2 + x / 4 % 2 + x / 8 % 2 + x / 16 % 2 + x / 32 % 2 + x / 64 % 2 + x / 128 % 2
theorem popS_at : ∀ x, x < 256 → (popS[x]?).map (·.toNat) = some (pop8 x) := by decide +kernel
theorem pop_index (w : World) (x : Nat) (hx : x < 256) : (Instr.index 9 (.string popS) (.int .u8 x)).run Tryd.prog w = .ok (.int .u8 (pop8 x : Nat)) w := by
  have h := popS_at x hx
  cases hc : popS[x]? with
  | none => rw [hc] at h; cases h
  | some u =>
    rw [hc] at h
    simp at h
    simp [Instr.index, run_underlying Tryd.underlying9, hc, asInt, asIntOf, ← h]
set_option maxRecDepth 100000 in
set_option maxHeartbeats 1000000 in
theorem pop_any (x : Nat) (hx : x < 256) (w : World) : Calls Tryd.prog 68 #[.int .u8 x] w fun e w' => e = .returned (.int .i64 (pop8 x : Nat)) ∧ w = w' := by
  have hi := pop_index w x hx
  have h8 : pop8 x < 256 := by unfold pop8; omega
  unfold popS at hi
  generalize pop8 x = p at *
  have hw : IntKind.i64.wrap (p : Int) = (p : Int) := by rw [IntKind.wrap_i64]; omega
  go_enter Tryd.func68, Tryd.ntmps68
  go_wp2
  go_ret
  exact ⟨rfl, rfl⟩
theorem Syndrome_any (x c : Nat) (hx : x < 18446744073709551616) (hc : c < 256) (w : World) (hT : Tab w) :
    Calls Tryd.prog 88 #[.int .u64 x, .int .u8 c] w fun e w' => e = .returned (.int .u8 (chk x ^^^ c : Nat)) ∧ w = w' := by
  have HC := Lib.hid (Check_any x hx w hT)
  have h := u8_xor_nat (chk x) c (chk_lt x) hc
  have hl := chk_lt x
  generalize chk x = q at *
  clear hT
  go_enter Tryd.func88, Tryd.ntmps88
  go_wp2_with fail
  refine HC.out.mono ?_
  rintro e w' ⟨rfl, rfl⟩
  clear HC
  go_wp2
  go_ret
  exact ⟨rfl, rfl⟩
/-- The first column that is s. -/
def colOf (s : Nat) : Option Nat := cols.findIdx? (· == s)
/-- A word and its check, put right; how. -/
def mend (x c : Nat) : Nat × Nat × Nat :=
  if chk x ^^^ c = 0 then (x, c, 0) else match colOf (chk x ^^^ c) with
    | some b => (x ^^^ 2 ^ b, c, 1)
    | none => if pop8 (chk x ^^^ c) = 1 then (x, c ^^^ (chk x ^^^ c), 1) else (x, c, 2)
theorem u64_xor_nat (a b : Nat) (ha : a < 18446744073709551616) (hb : b < 18446744073709551616) : bits .xor .u64 (a : Int) (b : Int) = ((a ^^^ b : Nat) : Int) := by
  have hx : a ^^^ b < 2 ^ 64 := Nat.xor_lt_two_pow (by omega) (by omega)
  have h1 : (BitVec.ofInt 64 (a : Int)).toNat = a := by
    rw [BitVec.ofInt_natCast, BitVec.toNat_ofNat]; exact Nat.mod_eq_of_lt (by omega)
  have h2 : (BitVec.ofInt 64 (b : Int)).toNat = b := by
    rw [BitVec.ofInt_natCast, BitVec.toNat_ofNat]; exact Nat.mod_eq_of_lt (by omega)
  show IntKind.u64.wrap ((BitVec.ofInt 64 (a : Int) ^^^ BitVec.ofInt 64 (b : Int)).toNat : Int) = _
  rw [BitVec.toNat_xor, h1, h2, IntKind.wrap_u64]
  omega
theorem colOf_some {s b : Nat} (h : colOf s = some b) : b < 64 ∧ cols.getD b 0 = s ∧ ∀ j, j < b → cols.getD j 0 ≠ s := by
  unfold colOf at h
  rw [List.findIdx?_eq_some_iff_getElem] at h
  obtain ⟨hb, h1, h2⟩ := h
  refine ⟨hb, ?_, fun j hj => ?_⟩
  · rw [List.getD_eq_getElem?_getD, List.getElem?_eq_getElem hb]; simpa using h1
  · have hjl : j < cols.length := by omega
    have h3 := h2 j hj
    intro e
    rw [show cols.getD j 0 = cols[j]'hjl by rw [List.getD_eq_getElem?_getD, List.getElem?_eq_getElem hjl]; rfl] at e
    rw [e] at h3; simp at h3
theorem colOf_none {s : Nat} (h : colOf s = none) : ∀ j, j < 64 → cols.getD j 0 ≠ s := by
  unfold colOf at h
  rw [List.findIdx?_eq_none_iff] at h
  intro j hj
  have h1 := h (cols[j]'hj) (List.getElem_mem _)
  intro e
  rw [show cols.getD j 0 = cols[j]'hj by rw [List.getD_eq_getElem?_getD, List.getElem?_eq_getElem hj]; rfl] at e
  rw [e] at h1; simp at h1
end Go.Proofs.YtlidbkofjchnnaaDoor
namespace Go.Proofs.YtlidbkofjchnnaaDoor
open Go.RowKit
set_option linter.unusedVariables false
set_option linter.unusedSimpArgs false

def MendPost (x c : Nat) (w : World) (e : Ending) (w' : World) : Prop := e = .returned (.tuple #[.int .u64 ((mend x c).1 : Nat), .int .u8 ((mend x c).2.1 : Nat), .int .i64 ((mend x c).2.2 : Nat)]) ∧ w = w'
set_option maxRecDepth 100000 in
set_option maxHeartbeats 2000000 in
theorem Mend_any (x c : Nat) (hx : x < 18446744073709551616) (hc : c < 256) (w : World) (hT : Tab w) :
    Calls Tryd.prog 72 #[.int .u64 x, .int .u8 c] w (MendPost x c w) := by
  have HS := Lib.hid (Syndrome_any x c hx hc w hT)
  have HD := Lib.hid (show mend x c = if chk x ^^^ c = 0 then (x, c, 0) else match colOf (chk x ^^^ c) with
    | some b => (x ^^^ 2 ^ b, c, 1)
    | none => if pop8 (chk x ^^^ c) = 1 then (x, c ^^^ (chk x ^^^ c), 1) else (x, c, 2) from rfl)
  have hs : chk x ^^^ c < 256 := Nat.xor_lt_two_pow (n := 8) (chk_lt x) hc
  have hci := fun i hi => col_index w i hi
  unfold colS at hci
  have HCi := Lib.hid hci
  clear hT hci
  generalize chk x ^^^ c = s at *
  by_cases h0 : s = 0
  · subst h0
    rw [if_pos rfl] at HD
    go_enter Tryd.func72, Tryd.ntmps72
    go_wp2_with fail
    refine HS.out.mono ?_
    rintro e w' ⟨rfl, rfl⟩
    clear HS
    go_wp2
    refine bodyPost_ret (v := .tuple #[.int .u64 x, .int .u8 c, .int .i64 0]) (by simp [results, Tryd.results72, go_sem]) rfl ⟨by rw [HD.out]; rfl, rfl⟩
  · rw [if_neg h0] at HD
    have b0 : (s == 0) = false := by simp [h0]
    have b1 : ((s : Int) == 0) = false := by simp; exact h0
    clear h0
    go_enter Tryd.func72, Tryd.ntmps72
    go_wp2_with fail
    refine HS.out.mono ?_
    rintro e w' ⟨rfl, rfl⟩
    clear HS
    go_wp2
    go_loop [16] (fun i => ∃ k : Nat, k ≤ 64 ∧ i = .int .i64 k ∧ ∀ j, j < k → cols.getD j 0 ≠ s) (fun i => 64 - (intOf i).toNat)
    case atStart => exact ⟨0, by omega, rfl, fun j hj => by omega⟩
    case round =>
      obtain ⟨k, hk, rfl, hno⟩ := hrel
      have HNo := Lib.hid hno
      clear hno
      by_cases hlt : k < 64
      · have hci := HCi.out k hlt
        have hcl := cols_lt k
        by_cases he : cols.getD k 0 = s
        · have hco : colOf s = some k := by
            cases hq : colOf s with
            | none => exact absurd he (colOf_none hq k hlt)
            | some b =>
              obtain ⟨hb, e1, e2⟩ := colOf_some hq
              rcases Nat.lt_trichotomy b k with h | h | h
              · exact absurd e1 (HNo.out b h)
              · rw [h]
              · exact absurd he (e2 k h)
          rw [hco] at HD
          have HD : Hid (mend x c = (x ^^^ 2 ^ k, c, 1)) := HD.out
          rw [he] at hci
          obtain ⟨p, hp⟩ : ∃ p : Nat, p = 2 ^ k := ⟨_, rfl⟩
          have hp64 : p < 18446744073709551616 := by rw [hp]; exact Nat.pow_lt_pow_right (n := 64) (by omega) hlt
          have hw2 : ((2 ^ k : Nat) : Int) = (2 : Int) ^ k := by simp
          have hw1 : IntKind.u64.wrap ((2 : Int) ^ k) = (p : Int) := by rw [IntKind.wrap_u64, ← hw2, ← hp]; omega
          have hxr := u64_xor_nat x p hx hp64
          rw [← hp] at HD
          clear hco he hp hw2 hcl
          go_wp2
          refine bodyPost_ret (v := .tuple #[.int .u64 (x ^^^ p : Nat), .int .u8 c, .int .i64 1]) (by simp [results, Tryd.results72, go_sem]) rfl ⟨by rw [HD.out]; rfl, rfl⟩
        · have bn : (cols.getD k 0 == s) = false := beq_eq_false_iff_ne.2 he
          have bn2 : (((cols.getD k 0 : Nat) : Int) == (s : Int)) = false := by simp only [beq_eq_false_iff_ne]; omega
          have HNo2 : Hid (∀ j, j < k + 1 → cols.getD j 0 ≠ s) := fun j hj => by
            rcases Nat.lt_or_ge j k with h | h
            · exact HNo.out j h
            · have : j = k := by omega
              rw [this]; exact he
          generalize cols.getD k 0 = m at *
          clear he
          go_wp2
          go_round
          case rel => exact ⟨k + 1, by omega, by go_num, HNo2.out⟩
          case measure => simp [intOf]; omega
      · have hco : colOf s = none := by
          cases hq : colOf s with
          | none => rfl
          | some b =>
            obtain ⟨hb, e1, _⟩ := colOf_some hq
            exact absurd e1 (HNo.out b (by omega))
        rw [hco] at HD
        have HD : Hid (mend x c = if pop8 s = 1 then (x, c ^^^ s, 1) else (x, c, 2)) := HD.out
        have HP := Lib.hid (pop_any s hs w)
        have hxr := u8_xor_nat c s hc hs
        generalize pop8 s = p at *
        clear hco
        by_cases hp1 : p = 1
        · subst hp1
          rw [if_pos rfl] at HD
          obtain rfl : k = 64 := by omega
          go_wp2_with fail
          refine HP.out.mono ?_
          rintro e w' ⟨rfl, rfl⟩
          clear HP
          go_wp2
          refine bodyPost_ret (v := .tuple #[.int .u64 x, .int .u8 (c ^^^ s : Nat), .int .i64 1]) (by simp [results, Tryd.results72, go_sem]) rfl ⟨by rw [HD.out]; rfl, rfl⟩
        · rw [if_neg hp1] at HD
          have bp : (p == 1) = false := by simp [hp1]
          have bp2 : ((p : Int) == 1) = false := by simp only [beq_eq_false_iff_ne]; omega
          obtain rfl : k = 64 := by omega
          clear hp1
          go_wp2_with fail
          refine HP.out.mono ?_
          rintro e w' ⟨rfl, rfl⟩
          clear HP
          go_wp2
          refine bodyPost_ret (v := .tuple #[.int .u64 x, .int .u8 c, .int .i64 2]) (by simp [results, Tryd.results72, go_sem]) rfl ⟨by rw [HD.out]; rfl, rfl⟩
end Go.Proofs.YtlidbkofjchnnaaDoor

namespace Go.Proofs.YtlidbkofjchnnaaDoor
open Go.RowKit
set_option linter.unusedVariables false
set_option linter.unusedSimpArgs false

theorem grown_setRow {w : World} {g : Nat} (cs : Array Value) : w.grownBy (w.setRow g cs) (some g) := ⟨rfl, rfl, rfl, by simp, fun k _ hk => setRow_other w g k _ (fun e => hk (by rw [e]))⟩
theorem grown_self (w : World) (r : Option Nat) : w.grownBy w r := ⟨rfl, rfl, rfl, Nat.le_refl _, fun _ _ _ => rfl⟩
theorem wpList_copy_grown {P : Program} {w : World} {ops : Array Oper} {rest : List Oper} {o : Oper} {a : Act} {Q : Exit → Act → World → Prop} (hgd : o.guard = none) (d s : Operand) (dT sT : TypeId)
    (ho : o.op = .call { callee := .builtin .copy, args := #[d, s], argTypes := #[dT, sT] }) (elem : TypeId) (hu : P.underlying dT = some (.slice elem)) (hsz : (P.info? elem).map (·.size) = some 1)
    (A : Option Addr) (dLen dCap m mc : Nat) (g off : Nat) (hd : a.eval d = .slice (some ⟨g, off, none⟩) dLen dCap) (hx : a.eval s = .slice A m mc)
    (cur : List Value) (t : TypeId) (hg : Row w g t cur.toArray) (news : List Value) (hs : Src w 1 A m news) (h1 : ∀ u ∈ news, u.oneCell' = true)
    (hfit : off + min m dLen ≤ cur.length)
    (h : ∀ w', Hid (Row w' g t (splice cur off (news.take dLen)).toArray) → Hid (w.grownBy w' (some g)) → wpList P ops Q rest (a.put o.dst (goInt ((min m dLen : Nat) : Int))) w') :
    wpList P ops Q (o :: rest) a w := by
  have hl : news.length = m := by simpa using hs.len
  have hcl : (news.take dLen).length = min m dLen := by rw [List.length_take, hl, Nat.min_comm]
  by_cases h0 : (news.take dLen).length = 0
  · have e0 := List.eq_nil_of_length_eq_zero h0
    refine wpList_copy_nothing hgd d s dT sT ho elem hu hsz (some ⟨g, off, none⟩) A dLen dCap m mc hd hx (by rw [← h0, hcl]) ?_
    have := h w (show _ = _ by rw [e0]; simpa [splice] using (show w.heap[g]? = _ from hg)) (grown_self w _)
    rw [← hcl, h0] at this
    exact this
  · obtain ⟨ad, rfl, hc⟩ := hs.lies (by omega)
    have := wpList_copy_own (P := P) (ops := ops) (rest := rest) (Q := Q) (a := a) (w := w) hgd d s dT sT ho elem hu hsz g off dLen dCap ad m mc hd hx cur.toArray t hg (news.take dLen) (by rw [hcl]) (fun j v hv => hc j v (by
      rw [List.getElem?_take] at hv
      split at hv
      · exact hv
      · cases hv)) (by rw [hcl]; simpa using hfit) (fun v hv => h1 v (List.mem_of_mem_take hv)) (by
      have := h _ (show _ = _ from setRow_heap w g cur.toArray (splice cur off (news.take dLen)).toArray t _ hg) (grown_setRow _)
      rw [← hcl] at this
      exact this)
    exact this
end Go.Proofs.YtlidbkofjchnnaaDoor

namespace Go.Proofs.YtlidbkofjchnnaaDoor
open Go.RowKit
set_option linter.unusedVariables false
set_option linter.unusedSimpArgs false

/-- An operation that yields a value and nothing else. -/
def yieldsOnly (o : Oper) : Bool :=
  match o.op with
  | .move _ | .assign _ | .pick .. | .load .. | .binOp .. | .unOp .. | .convert .. | .build .. | .slice .. | .fieldAddr .. | .field .. | .indexAddr .. | .index .. | .lookup .. | .extract .. | .makeFunc .. => true
  | .call c => match c.callee with | .builtin .len | .builtin .cap => true | _ => false
  | .nilCheck _ => true
  | _ => false
section
variable {P : Program}
theorem value_of_bind {s : Sem Value} {w w' : World} {r : Next} (h : (do pure (Next.value (← s)) : Sem Next).run P w = .ok r w') : ∃ v, r = .value v := by
  simp only [Sem.run_bind] at h
  generalize s.run P w = x at h
  cases x with
  | ok v w1 => simp only [Result.andThen_ok, Sem.run_pure] at h; injection h with h _; exact ⟨v, h.symm⟩
  | halt a b => simp [Result.andThen] at h
theorem yieldsOnly_spec {o : Oper} (h : yieldsOnly o = true) (ρ : Operand → Value) {w w' : World} {r : Next} (hr : (execOp ρ o).run P w = .ok r w') : ∃ v, r = .value v := by
  obtain ⟨dst, op, type, pos, after, guard⟩ := o
  cases op <;> simp only [yieldsOnly] at h <;> try (cases h; done)
  case move x => simp only [execOp, Sem.run_pure] at hr; injection hr with hr _; exact ⟨_, hr.symm⟩
  case assign x => simp only [execOp, Sem.run_pure] at hr; injection hr with hr _; exact ⟨_, hr.symm⟩
  case pick c a b =>
    simp only [execOp, Sem.run_bind] at hr
    generalize (asBool (ρ c)).run P w = x at hr
    cases x with
    | ok v w1 => simp only [Result.andThen_ok, Sem.run_pure] at hr; injection hr with hr _; exact ⟨_, hr.symm⟩
    | halt a b => simp [Result.andThen] at hr
  case nilCheck x =>
    simp only [execOp] at hr
    repeat' split at hr
    all_goals first
      | (simp [runtimePanic] at hr; done)
      | (simp only [Sem.run_pure] at hr; injection hr with hr _; exact ⟨_, hr.symm⟩)
      | skip
    all_goals
      simp only [Sem.run_bind, run_program, Result.andThen_ok] at hr
      generalize (nilAhead _ _ _ _).run P w = y at hr
      cases y with
      | ok v w1 =>
        simp only [Result.andThen_ok] at hr
        split at hr
        · simp [unsupported] at hr
        · simp only [Sem.run_bind, Sem.run_pure, Result.andThen_ok] at hr; injection hr with hr _; exact ⟨_, hr.symm⟩
      | halt a b => simp [Result.andThen] at hr
  case call c =>
    obtain ⟨callee, args, ats⟩ := c
    cases callee <;> simp only at h <;> try (cases h; done)
    rename_i b
    cases b <;> simp only at h <;> try (cases h; done)
    · rw [BigFrame.execOp_builtin] at hr; exact value_of_bind hr
    · rw [BigFrame.execOp_builtin] at hr; exact value_of_bind hr
  all_goals exact value_of_bind hr

/-- What is asked at the end: of the way on, or of another way out. -/
def outQ (Q : Exit → Act → World → Prop) (N : Act → World → Prop) : Exit → Act → World → Prop
  | .normal, a, w => N a w
  | e, a, w => Q e a w
theorem oper_wp_post {o : Oper} {a : Act} {w : World} {K : Act → World → Prop} {Q Q' : Exit → Act → World → Prop} (hp : ∀ c a w, Q (.panic c) a w → Q' (.panic c) a w) (ho : LetsOut Q → LetsOut Q')
    (h : o.wp P a w K Q) : o.wp P a w K Q' := by
  unfold Oper.wp at *
  generalize (execOp a.eval o).run P w = r at *
  cases r with
  | ok n w' =>
    cases n <;> simp only [Oper.upon] at h ⊢ <;>
      first
        | exact h
        | exact Calls.mono h (fun e w'' he => by cases e <;> first | exact he | exact hp _ _ _ he | exact ho he)
  | halt x w' => cases x <;> simp only [Oper.upon] at h ⊢ <;> first | exact h | exact hp _ _ _ h
theorem letsOut_outQ {Q : Exit → Act → World → Prop} {N N' : Act → World → Prop} (h : LetsOut (outQ Q N)) : LetsOut (outQ Q N') := by
  obtain ⟨a, w, h⟩ := h; exact ⟨a, w, h⟩
theorem letsOut_of_outQ {Q : Exit → Act → World → Prop} {N : Act → World → Prop} (h : LetsOut (outQ Q N)) : LetsOut Q := by
  obtain ⟨a, w, h⟩ := h; exact ⟨a, w, h⟩

def gOk (n : Nat) (o : Oper) : Bool := match o.guard with | some (g, _) => decide (g < n) | none => true
theorem wanted_take {l : List Oper} {n : Nat} {o : Oper} (hg : gOk n o = true) (tmps : Array Value) : Region.wanted o (yielded (l.take n).toArray tmps) = Region.wanted o (yielded l.toArray tmps) := by
  unfold Region.wanted
  unfold gOk at hg
  cases hgd : o.guard with
  | none => rfl
  | some g =>
    obtain ⟨j, want⟩ := g
    rw [hgd] at hg
    simp only [decide_eq_true_eq] at hg
    have : yielded (l.take n).toArray tmps j = yielded l.toArray tmps j := by
      unfold yielded
      simp [List.getElem?_take, hg]
    show (yielded (l.take n).toArray tmps j == some want) = (yielded l.toArray tmps j == some want)
    rw [this]

/-- One operation after the other; behind each but the last S is shown anew. -/
def wpSeqS (P : Program) (ops : Array Oper) (S : World → Prop) (Q : Exit → Act → World → Prop) : List Oper → Act → World → Prop
  | [], a, w => Q .normal a w
  | [o], a, w => wpList P ops Q [o] a w
  | o :: o' :: rest, a, w => wpList P ops (outQ Q fun a' w' => S w' ∧ wpSeqS P ops S Q (o' :: rest) a' w') [o] a w
theorem wpSeqS_step {ops : Array Oper} {S : World → Prop} {Q : Exit → Act → World → Prop} {o o' : Oper} {rest : List Oper} {a : Act} {w : World} (h : wpList P ops (outQ Q fun a' w' => S w' ∧ wpSeqS P ops S Q (o' :: rest) a' w') [o] a w) : wpSeqS P ops S Q (o :: o' :: rest) a w := h
theorem wpSeqS_last {ops : Array Oper} {S : World → Prop} {Q : Exit → Act → World → Prop} {o : Oper} {a : Act} {w : World} (h : wpList P ops Q [o] a w) : wpSeqS P ops S Q [o] a w := h
theorem outQ_normal {Q : Exit → Act → World → Prop} {S : World → Prop} {N : Act → World → Prop} {a : Act} {w : World} (hS : S w) (h : N a w) : outQ Q (fun a w => S w ∧ N a w) .normal a w := ⟨hS, h⟩
/-- These may be taken first, one behind the other. -/
def takesB (ops : Array Oper) : Array Bool → List Nat → Bool
  | _, [] => true
  | listed, i :: is => Region.free .any ops listed i && (Region.ready .any ops listed).contains i && takesB ops (listed.setIfInBounds i true) is
/-- Of these each is the one that may come up, and then there is none. -/
def chainB (ops : Array Oper) : Array Bool → List Nat → Bool
  | listed, [] => (Region.ready .any ops listed).isEmpty
  | listed, i :: is => (Region.ready .any ops listed) == [i] && chainB ops (listed.setIfInBounds i true) is
def listAll (listed : Array Bool) (is : List Nat) : Array Bool := is.foldl (fun l i => l.setIfInBounds i true) listed

variable {l : List Oper} {S : World → Prop} {Q : Exit → Act → World → Prop}
theorem anyH_takes (n : Nat) {N : Act → World → Prop} (hs : Region.noSelect (l.take n).toArray = true) : ∀ (rs : List Nat) (fuel : Nat) (listed : Array Bool) (a : Act) (w : World), takesB (l.take n).toArray listed rs = true → (∀ i ∈ rs, ∃ o, l[i]? = some o ∧ i < n ∧ yieldsOnly o = true ∧ gOk n o = true) → S w →
    (∀ c a d v w, outQ Q N (.panic c) (a.put d v) w → outQ Q N (.panic c) a w) →
    wpQuiet P l.toArray S (fun a' => wpAnyH P .any (l.take n).toArray (outQ Q N) S fuel (listAll listed rs) a' w) (rs.filterMap (l[·]?)) a →
    wpAnyH P .any (l.take n).toArray (outQ Q N) S (fuel + rs.length) listed a w
  | [], fuel, listed, a, w, _, _, _, _, h => by simpa [listAll, wpQuiet] using h
  | i :: rs, fuel, listed, a, w, hB, hr, hS, hQ, h => by
    obtain ⟨o, ho, hin, hy, hg⟩ := hr i (by simp)
    simp only [takesB, Bool.and_eq_true] at hB
    obtain ⟨⟨hf, hc⟩, hB⟩ := hB
    have ho' : (l.take n).toArray[i]? = some o := by simp [List.getElem?_take, hin, ho]
    rw [List.filterMap_cons, ho] at h
    simp only at h
    unfold wpQuiet at h
    have key : ∃ v, YieldsIf P (l.take n).toArray S o v a ∧ wpQuiet P l.toArray S (fun a' => wpAnyH P .any (l.take n).toArray (outQ Q N) S fuel (listAll listed (i :: rs)) a' w) (rs.filterMap (l[·]?)) (a.put o.dst v) := by
      by_cases hw : Region.wanted o (yielded l.toArray a.tmps) = true
      · rw [if_pos hw] at h
        obtain ⟨v, hv, hn⟩ := h
        refine ⟨v, .inl ⟨by rw [wanted_take hg]; exact hw, fun w1 hw1 => ?_⟩, hn⟩
        have h1 := hv w1 hw1
        unfold Oper.quietAt at h1
        cases hx : (execOp a.eval o).run P w1 with
        | halt x w2 => rw [hx] at h1; exact h1.elim
        | ok r w2 =>
          obtain ⟨v2, rfl⟩ := yieldsOnly_spec hy _ hx
          rw [hx] at h1
          obtain ⟨rfl, rfl⟩ := h1
          rfl
      · rw [if_neg hw] at h
        exact ⟨undef, .inr ⟨by rw [wanted_take hg]; simpa using hw, rfl⟩, h⟩
    obtain ⟨v, hy', hn⟩ := key
    refine wpAnyH_take ho' hs hf hc (fun c a' w' h' => hQ c a' _ _ w' h') hy' hS ?_
    exact anyH_takes n hs rs fuel _ _ w hB (fun j hj => hr j (by simp [hj])) hS hQ hn

theorem wpSeqS_cons {ops : Array Oper} {o : Oper} {rest : List Oper} (hr : rest ≠ []) {a : Act} {w : World} (h : wpSeqS P ops S Q (o :: rest) a w) : wpList P ops (outQ Q fun a' w' => S w' ∧ wpSeqS P ops S Q rest a' w') [o] a w := by
  cases rest with
  | nil => exact absurd rfl hr
  | cons o' rest => exact h
theorem wpOp_of_list {n i : Nat} {o : Oper} (ho : l[i]? = some o) (hin : i < n) (hg : gOk n o = true) {N N' : Act → World → Prop} {K : Act → World → Prop} {a : Act} {w : World} (hK : ∀ a w, N' a w → K a w)
    (h : wpList P l.toArray (outQ Q N') [o] a w) : wpOp P (l.take n).toArray (outQ Q N) i K a w := by
  have ho' : (l.take n).toArray[i]? = some o := by simp [List.getElem?_take, hin, ho]
  unfold wpOp
  simp only [ho']
  unfold wpList at h
  rw [wanted_take hg]
  by_cases hw : Region.wanted o (yielded l.toArray a.tmps) = true
  · rw [if_pos hw] at h ⊢
    rcases h with h | h
    · exact .inl (oper_wp_post (fun c a w h => h) letsOut_outQ (Oper.wp_mono (fun a w h => hK a w h) h))
    · exact .inr ⟨h.1, letsOut_outQ h.2⟩
  · rw [if_neg hw] at h ⊢
    exact hK _ _ h
theorem anyH_chain (n : Nat) {last : Oper} : ∀ (ts : List Nat) (listed : Array Bool) (a : Act) (w : World), chainB (l.take n).toArray listed ts = true → (∀ i ∈ ts, ∃ o, l[i]? = some o ∧ i < n ∧ gOk n o = true) →
    wpSeqS P l.toArray S Q (ts.filterMap (l[·]?) ++ [last]) a w → wpAnyH P .any (l.take n).toArray (outQ Q fun a w => wpList P l.toArray Q [last] a w) S ts.length listed a w
  | [], listed, a, w, hB, _, h => wpAnyH_done (by simpa [chainB] using hB) h _
  | t :: ts, listed, a, w, hB, hr, h => by
    obtain ⟨o, ho, hin, hg⟩ := hr t (by simp)
    simp only [chainB, Bool.and_eq_true, beq_iff_eq] at hB
    rw [List.filterMap_cons, ho] at h
    have h := wpSeqS_cons (rest := ts.filterMap (l[·]?) ++ [last]) (by simp) h
    refine wpAnyH_all hB.1 (by simp) (fun i hi => ?_)
    simp only [List.mem_singleton] at hi
    subst hi
    exact wpOp_of_list ho hin hg (fun a' w' h' => ⟨h'.1, anyH_chain n ts _ a' w' hB.2 (fun j hj => hr j (by simp [hj])) h'.2⟩) h

/-- The last operation stands behind all others; each other stands behind elder ones alone. -/
def lastB (l : List Oper) : Bool :=
  (match l[l.length - 1]? with | some o => o.guard.isNone && o.after.all (fun e => decide (e.on < l.length - 1)) && (List.range (l.length - 1)).all (fun i => (o.after.any fun e => e.on == i && Region.binds .any e) || (List.range (l.length - 1)).any fun j => decide (i < j) && (match l[j]? with | some oj => oj.after.any fun e => e.on == i && Region.binds .any e | none => false)) | none => false) &&
  (List.range (l.length - 1)).all (fun i => match l[i]? with | some o => o.after.all (fun e => decide (e.on < i)) && gOk (l.length - 1) o | none => false)
theorem any_last (n : Nat) {last : Oper} (hn : l.length = n + 1) (hlast : l[n]? = some last) (hB : lastB l = true) : ∀ (fuel : Nat) (listed : Array Bool) (a : Act) (w : World), listed.size = n → (∀ j oj, l[j]? = some oj → j < n → listed.getD j false = true → ∀ e ∈ oj.after, Region.binds .any e = true → listed.getD e.on false = true) →
    wpAny P .any (l.take n).toArray (outQ Q fun a w => wpList P l.toArray Q [last] a w) fuel listed a w → wpAny P .any l.toArray Q (fuel + 1) (listed.push false) a w := by
  simp only [lastB, hn, Nat.add_sub_cancel, hlast, Bool.and_eq_true, List.all_eq_true, List.mem_range] at hB
  obtain ⟨⟨⟨hgl, hle⟩, hall⟩, hpre⟩ := hB
  rw [Array.all_eq_true_iff_forall_mem] at hle
  have hpre' : ∀ i, i < n → ∃ o, l[i]? = some o ∧ (∀ e ∈ o.after, e.on < i) ∧ gOk n o = true := fun i hi => by
    have := hpre i hi
    cases ho : l[i]? with
    | none => rw [ho] at this; cases this
    | some o =>
      rw [ho] at this
      simp only [Bool.and_eq_true, Array.all_eq_true_iff_forall_mem, decide_eq_true_eq] at this
      exact ⟨o, rfl, this.1, this.2⟩
  have r1 : ∀ (listed : Array Bool), listed.size = n → ∀ i, i < n → (i ∈ Region.ready .any l.toArray (listed.push false) ↔ i ∈ Region.ready .any (l.take n).toArray listed) := by
    intro listed hl i hi
    obtain ⟨o, ho, he, _⟩ := hpre' i hi
    have ho' : (l.take n).toArray[i]? = some o := by simp [List.getElem?_take, hi, ho]
    have ho2 : l.toArray[i]? = some o := by simpa using ho
    have hg : ∀ (d : Bool) j, j < n → (listed.push false).getD j d = listed.getD j d := fun d j hj => by
      simp [Array.getD, hl, hj, Nat.lt_succ_of_lt hj, Array.getElem_push]
    rw [mem_ready, mem_ready, hg _ i hi]
    simp only [ho', ho2, Option.some.injEq, exists_eq_left']
    constructor
    · rintro ⟨h1, h2⟩
      exact ⟨h1, fun e hm hb => by have := h2 e hm hb; rwa [hg _ _ (by have := he e hm; omega)] at this⟩
    · rintro ⟨h1, h2⟩
      exact ⟨h1, fun e hm hb => by rw [hg _ _ (by have := he e hm; omega)]; exact h2 e hm hb⟩
  have r3 : ∀ (listed : Array Bool), listed.size = n → Region.ready .any (l.take n).toArray listed = [] → ∀ i, i < n → listed.getD i false = true := by
    intro listed hl hr i
    induction i using Nat.strongRecOn with
    | _ i ih =>
      intro hi
      obtain ⟨o, ho, he, _⟩ := hpre' i hi
      have ho' : (l.take n).toArray[i]? = some o := by simp [List.getElem?_take, hi, ho]
      have hd : listed.getD i false = listed.getD i true := by simp [Array.getD, hl, hi]
      cases hc : listed.getD i false with
      | true => rfl
      | false =>
        have : i ∈ Region.ready .any (l.take n).toArray listed := mem_ready.2 ⟨by rw [← hd]; exact hc, o, ho', fun e hm hb => ih e.on (he e hm) (by have := he e hm; omega)⟩
        rw [hr] at this; cases this
  have r2 : ∀ (listed : Array Bool), listed.size = n → (∀ j oj, l[j]? = some oj → j < n → listed.getD j false = true → ∀ e ∈ oj.after, Region.binds .any e = true → listed.getD e.on false = true) → (n ∈ Region.ready .any l.toArray (listed.push false) ↔ ∀ i, i < n → listed.getD i false = true) := by
    intro listed hl hcl
    have hl2 : l.toArray[n]? = some last := by simpa using hlast
    rw [mem_ready]
    simp only [hl2, Option.some.injEq, exists_eq_left']
    have hp : (listed.push false).getD n true = false := by subst hl; simp [Array.getD]
    have hg : ∀ j, j < n → (listed.push false).getD j false = listed.getD j false := fun j hj => by
      simp [Array.getD, hl, hj, Nat.lt_succ_of_lt hj, Array.getElem_push]
    constructor
    · rintro ⟨_, h⟩ i hi
      have key : ∀ k i, i < n → n - i ≤ k → listed.getD i false = true := by
        intro k
        induction k with
        | zero => intro i hi hk; omega
        | succ k ih =>
          intro i hi hk
          have := hall i hi
          rw [Bool.or_eq_true] at this
          rcases this with h1 | h1
          · rw [Array.any_eq_true] at h1
            obtain ⟨k, hk, he⟩ := h1
            obtain ⟨e, hm, hek⟩ : ∃ e, e ∈ last.after ∧ e = last.after[k] := ⟨_, Array.getElem_mem hk, rfl⟩
            rw [← hek] at he
            simp only [Bool.and_eq_true, beq_iff_eq] at he
            have h2 := h e hm he.2
            rw [he.1, hg i hi] at h2
            exact h2
          · rw [List.any_eq_true] at h1
            obtain ⟨j, hj, h1⟩ := h1
            rw [List.mem_range] at hj
            simp only [Bool.and_eq_true, decide_eq_true_eq] at h1
            obtain ⟨hij, h1⟩ := h1
            cases hoj : l[j]? with
            | none => rw [hoj] at h1; cases h1
            | some oj =>
              rw [hoj] at h1
              simp only at h1
              rw [Array.any_eq_true] at h1
              obtain ⟨k', hk', he⟩ := h1
              obtain ⟨e, hm, hek⟩ : ∃ e, e ∈ oj.after ∧ e = oj.after[k'] := ⟨_, Array.getElem_mem hk', rfl⟩
              rw [← hek] at he
              simp only [Bool.and_eq_true, beq_iff_eq] at he
              have h2 := hcl j oj hoj hj (ih j hj (by omega)) e hm he.2
              rw [he.1] at h2
              exact h2
      exact key (n - i) i hi (Nat.le_refl _)
    · intro h
      refine ⟨hp, fun e hm hb => ?_⟩
      have := hle e hm
      simp only [decide_eq_true_eq] at this
      rw [hg _ this]; exact h _ this
  have rin : ∀ (listed : Array Bool), ∀ i ∈ Region.ready .any l.toArray listed, i < n + 1 := by
    intro listed i hi
    obtain ⟨_, o, ho, _⟩ := mem_ready.1 hi
    have ho : l[i]? = some o := by simpa using ho
    have := (List.getElem?_eq_some_iff.1 ho).1
    omega
  have fin : ∀ (fuel : Nat) (listed : Array Bool) (a : Act) (w : World), listed.size = n → (∀ j oj, l[j]? = some oj → j < n → listed.getD j false = true → ∀ e ∈ oj.after, Region.binds .any e = true → listed.getD e.on false = true) → (∀ i, i < n → listed.getD i false = true) → wpList P l.toArray Q [last] a w → wpAny P .any l.toArray Q (fuel + 1) (listed.push false) a w := by
    intro fuel listed a w hl hcl ha h
    have hlt : ∀ d i, i < n → listed.getD i d = true := fun d i hi => by have := ha i hi; simpa [Array.getD, hl, hi] using this
    refine ⟨fun h0 => ?_, fun i hi => ?_⟩
    · have := (r2 listed hl hcl).2 ha
      rw [h0] at this; cases this
    · have hin := rin _ i hi
      by_cases hi2 : i < n
      · have := (mem_ready.1 ((r1 listed hl i hi2).1 hi)).1
        rw [hlt true i hi2] at this; cases this
      · obtain rfl : i = n := by omega
        have hl2 : l.toArray[i]? = some last := by simpa using hlast
        have hdone : Region.ready .any l.toArray ((listed.push false).setIfInBounds i true) = [] := by
          rw [List.eq_nil_iff_forall_not_mem]
          intro j hj
          have hjn := rin _ j hj
          have h1 := (mem_ready.1 hj).1
          by_cases hji : j = i
          · subst hji
            simp [Array.getD, hl] at h1
          · have hji2 : j < i := by omega
            have h2 := hlt true j hji2
            simp [Array.getD, hl, hji2, Nat.lt_succ_of_lt hji2, Array.getElem_push, Array.getElem_setIfInBounds, Ne.symm hji] at h1 h2
            rw [h2] at h1; cases h1
        have hK : ∀ a' w', Q .normal a' w' → wpAny P .any l.toArray Q fuel ((listed.push false).setIfInBounds i true) a' w' := fun a' w' hq => by
          cases fuel with
          | zero => exact ⟨hdone, hq⟩
          | succ k => exact ⟨fun _ => hq, by rw [hdone]; simp⟩
        unfold wpOp
        simp only [hl2]
        unfold wpList at h
        split
        · rename_i hw
          rw [if_pos hw] at h
          rcases h with h | h
          · exact .inl (Oper.wp_mono (fun a w h => hK a w h) h)
          · exact .inr h
        · rename_i hw
          rw [if_neg hw] at h
          exact hK _ _ h
  intro fuel
  induction fuel with
  | zero =>
    intro listed a w hl hcl h
    exact fin 0 listed a w hl hcl (r3 listed hl h.1) h.2
  | succ fuel ih =>
    intro listed a w hl hcl h
    by_cases h0 : Region.ready .any (l.take n).toArray listed = []
    · exact fin _ listed a w hl hcl (r3 listed hl h0) (h.1 h0)
    · refine ⟨fun h1 => ?_, fun i hi => ?_⟩
      · obtain ⟨j, hj⟩ := List.exists_mem_of_ne_nil _ h0
        obtain ⟨_, o, ho, _⟩ := mem_ready.1 hj
        have hjn : j < n := by
          have ho : (l.take n)[j]? = some o := by simpa using ho
          have := (List.getElem?_eq_some_iff.1 ho).1
          simp at this; omega
        have := (r1 listed hl j hjn).2 hj
        rw [h1] at this; cases this
      · have hin := rin _ i hi
        by_cases hi2 : i < n
        · obtain ⟨o, ho, _, hg⟩ := hpre' i hi2
          have h2 := h.2 i ((r1 listed hl i hi2).1 hi)
          have ho' : (l.take n).toArray[i]? = some o := by simp [List.getElem?_take, hi2, ho]
          have ho2 : l.toArray[i]? = some o := by simpa using ho
          have hK : ∀ a' w', wpAny P .any (l.take n).toArray (outQ Q fun a w => wpList P l.toArray Q [last] a w) fuel (listed.setIfInBounds i true) a' w' → wpAny P .any l.toArray Q (fuel + 1) ((listed.push false).setIfInBounds i true) a' w' := fun a' w' hq => by
            have := ih (listed.setIfInBounds i true) a' w' (by simpa using hl) (fun j oj hoj hj hlj e hm hb => by
              have hs : ∀ k, k < n → (listed.setIfInBounds i true).getD k false = if i = k then true else listed.getD k false := fun k hk => by
                by_cases e : i = k
                · subst e; simp [Array.getD, hl, hk]
                · simp [Array.getD, hl, hk, e, Array.getElem_setIfInBounds]
              have hej : e.on < n := by
                obtain ⟨o', ho', he', _⟩ := hpre' j hj
                rw [hoj] at ho'; injection ho' with ho'; subst ho'
                have := he' e hm; omega
              rw [hs _ hej]
              split
              · rfl
              · rw [hs _ hj] at hlj
                by_cases e1 : i = j
                · subst e1
                  obtain ⟨_, o3, ho3, h3⟩ := mem_ready.1 ((r1 listed hl i hi2).1 hi)
                  rw [ho'] at ho3; injection ho3 with ho3; subst ho3
                  rw [hoj] at ho; injection ho with ho; subst ho
                  exact h3 e hm hb
                · rw [if_neg e1] at hlj
                  exact hcl j oj hoj hj hlj e hm hb) hq
            have e : (listed.setIfInBounds i true).push false = (listed.push false).setIfInBounds i true := by
              apply Array.ext_getElem?
              intro j
              simp only [Array.getElem?_setIfInBounds, Array.getElem?_push, Array.size_push, Array.size_setIfInBounds, hl]
              by_cases hj : i = j
              · subst hj; simp [hi2, Nat.lt_succ_of_lt hi2, Nat.ne_of_lt hi2]
              · simp [hj]
            rw [← e]; exact this
          unfold wpOp at h2 ⊢
          simp only [ho', ho2] at h2 ⊢
          rw [wanted_take hg] at h2
          split
          · rename_i hw
            rw [if_pos hw] at h2
            rcases h2 with h2 | h2
            · exact .inl (oper_wp_post (fun c a w h => h) (letsOut_of_outQ (N := fun a w => wpList P l.toArray Q [last] a w)) (Oper.wp_mono hK h2))
            · exact .inr ⟨h2.1, letsOut_of_outQ (N := fun a w => wpList P l.toArray Q [last] a w) h2.2⟩
          · rename_i hw
            rw [if_neg hw] at h2
            exact hK _ _ h2
        · obtain rfl : i = n := by omega
          exfalso
          have ha := (r2 listed hl hcl).1 hi
          refine h0 (List.eq_nil_iff_forall_not_mem.2 fun j hj => ?_)
          obtain ⟨h1, o, ho, _⟩ := mem_ready.1 hj
          have hjn : j < i := by
            have ho : (l.take i)[j]? = some o := by simpa using ho
            have := (List.getElem?_eq_some_iff.1 ho).1
            simp at this; omega
          have := ha j hjn
          simp [Array.getD, hl, hjn] at this h1
          rw [this] at h1; cases h1

def atB (l : List Oper) (i : Nat) (f : Oper → Bool) : Bool := match l[i]? with | some o => f o | none => false
theorem atB_spec {l : List Oper} {i : Nat} {f : Oper → Bool} (h : atB l i f = true) : ∃ o, l[i]? = some o ∧ f o = true := by
  unfold atB at h
  cases ho : l[i]? with
  | none => rw [ho] at h; cases h
  | some o => rw [ho] at h; exact ⟨o, rfl, h⟩
theorem quiet_imp {ops : Array Oper} {C : World → Prop} {A B : Act → Prop} (hi : ∀ a, A a → B a) : ∀ (rl : List Oper) (a : Act), wpQuiet P ops C A rl a → wpQuiet P ops C B rl a
  | [], a, h => hi a h
  | o :: rl, a, h => by
    unfold wpQuiet at h ⊢
    split
    · rename_i hw
      rw [if_pos hw] at h
      obtain ⟨v, h1, h2⟩ := h
      exact ⟨v, h1, quiet_imp hi rl _ h2⟩
    · rename_i hw
      rw [if_neg hw] at h
      exact quiet_imp hi rl _ h
def seqB (l : List Oper) (rs ts : List Nat) : Bool :=
  lastB l && Region.noSelect (l.take (l.length - 1)).toArray && takesB (l.take (l.length - 1)).toArray (Array.replicate (l.length - 1) false) rs && chainB (l.take (l.length - 1)).toArray (listAll (Array.replicate (l.length - 1) false) rs) ts.dropLast &&
  (decide (ts.getLast? = some (l.length - 1)) && decide (rs.length + ts.dropLast.length = l.length - 1) && decide (0 < l.length)) &&
  rs.all (fun i => decide (i < l.length - 1) && atB l i fun o => yieldsOnly o && gOk (l.length - 1) o) && ts.dropLast.all (fun i => decide (i < l.length - 1) && atB l i fun o => gOk (l.length - 1) o)
/-- **A REGION THAT DRAWS ITS ORDER**: its reads (rs), each of which yields one value in every world that meets S; then the others (ts), each but the last leaving S. -/
theorem region_seq {id : Nat} {a : Act} {w : World} (S : World → Prop) (rs ts : List Nat) (hm : P.follows .mixedOrders = true) (hB : seqB l rs ts = true) (hS : S w.drew) (hQ : ∀ c (a : Act) k v w, Q (.panic c) { a with tmps := a.tmps.setIfInBounds k v } w → Q (.panic c) a w)
    (h : wpQuiet P l.toArray S (fun a' => wpSeqS P l.toArray S Q (ts.filterMap (l[·]?)) a' w.drew) (rs.filterMap (l[·]?)) a) : (Code.region id l.toArray true).wp P Q a w := by
  simp only [seqB, Bool.and_eq_true, decide_eq_true_eq, List.all_eq_true] at hB
  obtain ⟨⟨⟨⟨⟨⟨h1, h2⟩, h3⟩, h4⟩, ⟨⟨h5, h6⟩, h7⟩⟩, h8⟩, h9⟩ := hB
  obtain ⟨n, hn⟩ : ∃ n, l.length = n + 1 := ⟨l.length - 1, by omega⟩
  rw [hn, Nat.add_sub_cancel] at h2 h3 h4 h5 h6 h8 h9
  obtain ⟨last, hlast⟩ : ∃ last, l[n]? = some last := ⟨_, List.getElem?_eq_getElem (by omega)⟩
  have hts : ts = ts.dropLast ++ [n] := by
    obtain ⟨ys, hy⟩ := List.getLast?_eq_some_iff.1 h5
    rw [hy]; simp
  rw [hts, List.filterMap_append, List.filterMap_cons, hlast, List.filterMap_nil] at h
  refine wp_region_any hm ?_
  have hsz : l.toArray.size = n + 1 := by simpa using hn
  rw [hsz, show Array.replicate (n + 1) false = (Array.replicate n false).push false from Array.replicate_succ]
  refine any_last n hn hlast h1 n _ a _ (by simp) (fun j oj _ hj hlj => by simp [Array.getD, hj] at hlj) ?_
  have h10 := anyH_takes (P := P) (S := S) (Q := Q) (N := fun a w => wpList P l.toArray Q [last] a w) n h2 rs ts.dropLast.length (Array.replicate n false) a w.drew h3 (fun i hi => by
    obtain ⟨hin, hat⟩ := h8 i hi
    obtain ⟨o, ho, hy⟩ := atB_spec hat
    simp only [Bool.and_eq_true] at hy
    exact ⟨o, ho, hin, hy.1, hy.2⟩) hS (fun c a d v w h => by cases d with | none => exact h | some k => exact hQ c a k v w h) (quiet_imp (fun a' h' => anyH_chain (P := P) (S := S) (Q := Q) n ts.dropLast _ a' w.drew h4 (fun i hi => by
      obtain ⟨hin, hat⟩ := h9 i hi
      obtain ⟨o, ho, hy⟩ := atB_spec hat
      exact ⟨o, ho, hin, hy⟩) h') _ _ h)
  rw [Nat.add_comm, h6] at h10
  exact wpAny_of_held _ _ _ _ h10
end
/-- A world in which, since w, no old block but these has turned. -/
structure Kept (w : World) (S : List Nat) where
  u : World
  h : Turns w u S
instance (w : World) (S : List Nat) : Nonempty (Kept w S) := ⟨⟨w, Turns.refl _ _⟩⟩
theorem region_kept {P : Program} {l : List Oper} {Q : Exit → Act → World → Prop} {id : Nat} {a : Act} {w : World} (B : List Nat) (rs ts : List Nat) (hm : P.follows .mixedOrders = true) (hB : seqB l rs ts = true) (hQ : ∀ c (a : Act) k v w, Q (.panic c) { a with tmps := a.tmps.setIfInBounds k v } w → Q (.panic c) a w)
    (h : wpQuiet P l.toArray (fun u => ∃ t : Kept w B, u = t.u) (fun a' => wpSeqS P l.toArray (fun u => Turns w u B) Q (ts.filterMap (l[·]?)) a' w.drew) (rs.filterMap (l[·]?)) a) : (Code.region id l.toArray true).wp P Q a w := by
  have e : (fun u => ∃ t : Kept w B, u = t.u) = fun u => Turns w u B := by
    funext u; apply propext
    exact ⟨fun ⟨t, e⟩ => by subst e; exact t.h, fun h => ⟨⟨u, h⟩, rfl⟩⟩
  rw [e] at h
  exact region_seq _ rs ts hm hB (Turns.refl w B).drew hQ h
end Go.Proofs.YtlidbkofjchnnaaDoor

namespace Go.Proofs.YtlidbkofjchnnaaDoor
open Go.RowKit
set_option linter.unusedVariables false
set_option linter.unusedSimpArgs false

/-- The first k bytes as a number, the least first. -/
def gw (l : List Nat) : Nat → Nat
  | 0 => 0
  | k + 1 => gw l k ||| (l.getD k 0 * 2 ^ (8 * k))
theorem pow_split (a b : Nat) : 2 ^ (a + b) = 2 ^ a * 2 ^ b := Nat.pow_add 2 a b
theorem gw_lt (l : List Nat) (h : ∀ j, l.getD j 0 < 256) : ∀ k, gw l k < 2 ^ (8 * k)
  | 0 => by simp [gw]
  | k + 1 => by
    unfold gw
    have h1 := gw_lt l h k
    have h2 := h k
    refine Nat.or_lt_two_pow (Nat.lt_of_lt_of_le h1 (Nat.pow_le_pow_right (by omega) (by omega))) ?_
    rw [show 8 * (k + 1) = 8 + 8 * k by omega, pow_split]
    exact Nat.mul_lt_mul_of_pos_right h2 (Nat.two_pow_pos _)
theorem getD_lt {l : List Nat} (h : ∀ u ∈ l, u < 256) (j : Nat) : l.getD j 0 < 256 := by
  rcases Nat.lt_or_ge j l.length with h1 | h1
  · exact h _ (getD_mem l j h1)
  · rw [List.getD_eq_getElem?_getD, List.getElem?_eq_none h1]; simp
set_option maxRecDepth 100000 in
set_option maxHeartbeats 1000000 in
theorem get_any (b off c n : Nat) (l : List Nat) (hl : l.length = n) (hn : 8 ≤ n) (hn2 : n ≤ 1000000) (h256 : ∀ u ∈ l, u < 256) (w : World) (hc : Cells8 w (some ⟨b, off, none⟩) l) :
    Calls Tryd.prog 67 #[.slice (some ⟨b, off, none⟩) n c] w fun e w' => e = .returned (.int .u64 (gw l 8 : Nat)) ∧ w = w' := by
  have HC := Lib.hid hc
  have HL := Lib.hid hl
  have hb := getD_lt h256
  have HB := Lib.hid hb
  have hg : ∀ k, k ≤ 8 → gw l k < 18446744073709551616 := fun k hk => Nat.lt_of_lt_of_le (gw_lt l hb k) (by
    have := Nat.pow_le_pow_right (n := 2) (by omega) (show 8 * k ≤ 64 by omega)
    simpa using this)
  have HG := Lib.hid hg
  obtain ⟨r, hr⟩ : ∃ r, r = gw l 8 := ⟨_, rfl⟩
  have HR := Lib.hid hr
  rw [← hr]
  clear hc hl h256 hb hg hr
  by_cases h8 : n = 8
  · subst h8
    go_enter Tryd.func67, Tryd.ntmps67
    go_wp2
    go_loop [3, 8] (fun v i => ∃ k : Nat, k ≤ 8 ∧ i = .int .i64 k ∧ v = .int .u64 (gw l k : Nat)) (fun _ i => 8 - (intOf i).toNat)
    case atStart => exact ⟨0, by omega, rfl, rfl⟩
    case round =>
      obtain ⟨k, hk, rfl, rfl⟩ := hrel
      by_cases hlt : k < 8
      · have hcell := HC.out.at0 k (by rw [HL.out]; omega)
        have hx := HB.out k
        have hgk := HG.out k (by omega)
        have hgk1 := HG.out (k + 1) (by omega)
        have hS : gw l (k + 1) = gw l k ||| (l.getD k 0 * 2 ^ (8 * k)) := rfl
        have HS := Lib.hid hS
        generalize l.getD k 0 = x at *
        have hkn : k < 8 := by omega
        obtain ⟨p, hp⟩ : ∃ p : Nat, p = x * 2 ^ (8 * k) := ⟨_, rfl⟩
        have hp64 : p < 18446744073709551616 := by
          rw [hp]
          have h1 : x * 2 ^ (8 * k) < 2 ^ 8 * 2 ^ (8 * k) := Nat.mul_lt_mul_of_pos_right hx (Nat.two_pow_pos _)
          rw [← pow_split] at h1
          have h2 := Nat.pow_le_pow_right (n := 2) (by omega) (show 8 + 8 * k ≤ 64 by omega)
          have : (2 : Nat) ^ 64 = 18446744073709551616 := by decide
          omega
        have hw8 : IntKind.i64.wrap (8 * (k : Int)) = ((8 * k : Nat) : Int) := by rw [IntKind.wrap_i64]; omega
        have hor := bits_or_u64_nat (gw l k) p hgk hp64
        rw [← hp] at HS
        clear hS
        generalize gw l k = a at *
        have hwp : IntKind.u64.wrap ((x : Int) * 2 ^ (8 * k)) = (p : Int) := by
          rw [IntKind.wrap_u64, hp]
          rw [hp] at hp64
          have : ((x * 2 ^ (8 * k) : Nat) : Int) = (x : Int) * 2 ^ (8 * k) := by simp
          rw [← this]; omega
        have HWp := Lib.hid hwp
        clear hp hwp
        go_wp2
        go_round
        case rel => exact ⟨k + 1, by omega, by go_num, by rw [HWp.out, hor, HS.out]⟩
        case measure => simp [intOf]; omega
      · obtain rfl : k = 8 := by omega
        go_wp2
        go_ret
        exact ⟨by rw [HR.out]; rfl, rfl⟩
  · have h9 : (8 : Int) < n := by omega
    clear h8
    go_enter Tryd.func67, Tryd.ntmps67
    go_wp2
    go_loop [3, 8] (fun v i => ∃ k : Nat, k ≤ 8 ∧ i = .int .i64 k ∧ v = .int .u64 (gw l k : Nat)) (fun _ i => 8 - (intOf i).toNat)
    case atStart => exact ⟨0, by omega, rfl, rfl⟩
    case round =>
      obtain ⟨k, hk, rfl, rfl⟩ := hrel
      by_cases hlt : k < 8
      · have hcell := HC.out.at0 k (by rw [HL.out]; omega)
        have hx := HB.out k
        have hgk := HG.out k (by omega)
        have hgk1 := HG.out (k + 1) (by omega)
        have hS : gw l (k + 1) = gw l k ||| (l.getD k 0 * 2 ^ (8 * k)) := rfl
        have HS := Lib.hid hS
        generalize l.getD k 0 = x at *
        have hkn : k < n := by omega
        obtain ⟨p, hp⟩ : ∃ p : Nat, p = x * 2 ^ (8 * k) := ⟨_, rfl⟩
        have hp64 : p < 18446744073709551616 := by
          rw [hp]
          have h1 : x * 2 ^ (8 * k) < 2 ^ 8 * 2 ^ (8 * k) := Nat.mul_lt_mul_of_pos_right hx (Nat.two_pow_pos _)
          rw [← pow_split] at h1
          have h2 := Nat.pow_le_pow_right (n := 2) (by omega) (show 8 + 8 * k ≤ 64 by omega)
          have : (2 : Nat) ^ 64 = 18446744073709551616 := by decide
          omega
        have hw8 : IntKind.i64.wrap (8 * (k : Int)) = ((8 * k : Nat) : Int) := by rw [IntKind.wrap_i64]; omega
        have hor := bits_or_u64_nat (gw l k) p hgk hp64
        rw [← hp] at HS
        clear hS
        generalize gw l k = a at *
        have hwp : IntKind.u64.wrap ((x : Int) * 2 ^ (8 * k)) = (p : Int) := by
          rw [IntKind.wrap_u64, hp]
          rw [hp] at hp64
          have : ((x * 2 ^ (8 * k) : Nat) : Int) = (x : Int) * 2 ^ (8 * k) := by simp
          rw [← this]; omega
        have HWp := Lib.hid hwp
        clear hp hwp
        go_wp2
        go_round
        case rel => exact ⟨k + 1, by omega, by go_num, by rw [HWp.out, hor, HS.out]⟩
        case measure => simp [intOf]; omega
      · obtain rfl : k = 8 := by omega
        go_wp2
        go_ret
        exact ⟨by rw [HR.out]; rfl, rfl⟩
end Go.Proofs.YtlidbkofjchnnaaDoor
namespace Go.Proofs.YtlidbkofjchnnaaDoor
open Go.RowKit
set_option linter.unusedVariables false
set_option linter.unusedSimpArgs false

/-- A number's bytes, the first k of eight. -/
def pb (x k : Nat) : List Nat := (List.range 8).map fun i => if i < k then x / 2 ^ (8 * i) % 256 else 0
theorem pb_length (x k : Nat) : (pb x k).length = 8 := by simp [pb]
theorem pb_lt (x k : Nat) : ∀ u ∈ pb x k, u < 256 := by
  intro u hu
  obtain ⟨i, _, rfl⟩ := List.mem_map.1 hu
  split <;> omega
theorem pb_step (x k : Nat) (hk : k < 8) : pb x (k + 1) = (pb x k).set k (x / 2 ^ (8 * k) % 256) := by
  apply List.ext_getElem
  · simp [pb]
  · intro i h1 h2
    simp only [pb, List.getElem_map, List.getElem_range, List.getElem_set]
    by_cases h : k = i
    · subst h; rw [if_pos (by omega), if_pos rfl]
    · rw [if_neg h]
      by_cases hi : i < k
      · rw [if_pos (by omega), if_pos hi]
      · rw [if_neg (by omega), if_neg hi]
abbrev row8 (l : List Nat) : Array Value := (intsV .u8 l).toArray
theorem row8_set (l : List Nat) (k y : Nat) : row8 (l.set k y) = (row8 l).setIfInBounds k (.int .u8 (y : Nat)) := by simp [row8, intsV_set]
theorem row8_size (l : List Nat) (h : l.length = 8) : (row8 l).size = 8 := by simp [row8, intsV, h]
theorem row8_one (l : List Nat) : (row8 l).all (·.oneCell') = true := by
  rw [Array.all_eq_true_iff_forall_mem]; intro x hx; exact intsV_one .u8 l x (by simpa using hx)
theorem row8_info (l : List Nat) (h : l.length = 8) : (Tryd.prog.info? 129).map (·.size) = some (row8 l).size := by
  rw [row8_size l h]; kernel_rfl
set_option maxRecDepth 100000 in
set_option maxHeartbeats 1000000 in
theorem put_any (x : Nat) (hx : x < 18446744073709551616) (w : World) :
    Calls Tryd.prog 73 #[.int .u64 x] w fun e w' => e = .returned (.agg (row8 (pb x 8))) ∧ Below w.heap.size w w' := by
  obtain ⟨wA, hwA⟩ : ∃ wA, wA = (w.alloc (.cells #[.int .u8 0, .int .u8 0, .int .u8 0, .int .u8 0, .int .u8 0, .int .u8 0, .int .u8 0, .int .u8 0] 129)).alloc (.cells #[.int .u8 0, .int .u8 0, .int .u8 0, .int .u8 0, .int .u8 0, .int .u8 0, .int .u8 0, .int .u8 0] 129) := ⟨_, rfl⟩
  have HB0 : Hid (Below w.heap.size w wA) := by unfold Hid; rw [hwA]; (repeat (first | (with_reducible refine Below.drew ?_) | (with_reducible refine below_drewN0 ?_ _) | ((with_reducible refine Below.setCell ?_ ?_ _); rotate_left; focus (first | omega | (simp; done) | (simp; omega) | (simp at *; omega))) | ((with_reducible refine Below.alloc ?_ ?_ _); rotate_left; focus (first | omega | (simp; done) | (simp; omega) | (simp at *; omega))) | (with_reducible exact Below.refl _ _)))
  have HR0 : Hid (Row wA w.heap.size 129 (row8 (pb x 0))) := by unfold Hid; rw [hwA]; exact (Row.fresh w _ _).alloc _
  have HR1 : Hid (Row wA (w.heap.size + 1) 129 (row8 (pb x 0))) := by
    unfold Hid; rw [hwA]
    have := Row.fresh (w.alloc (.cells #[.int .u8 0, .int .u8 0, .int .u8 0, .int .u8 0, .int .u8 0, .int .u8 0, .int .u8 0, .int .u8 0] 129)) 129 #[.int .u8 0, .int .u8 0, .int .u8 0, .int .u8 0, .int .u8 0, .int .u8 0, .int .u8 0, .int .u8 0]
    rw [World.size_alloc] at this; exact this
  go_enter Tryd.func73, Tryd.ntmps73
  go_wp2
  rw [← hwA]
  clear hwA
  go_loopw [5] (fun i wr => ∃ k : Nat, k ≤ 8 ∧ i = .int .i64 k ∧ Row wr w.heap.size 129 (row8 (pb x 0)) ∧ Row wr (w.heap.size + 1) 129 (row8 (pb x k)) ∧ Below w.heap.size w wr) (fun i _ => 8 - (intOf i).toNat)
  case atStart => exact ⟨0, by omega, rfl, HR0.out, HR1.out, HB0.out⟩
  case round =>
    obtain ⟨k, hk, rfl, h0, h1, hb⟩ := hrel
    have H0 := Lib.hid h0
    have H1 := Lib.hid h1
    have HB := Lib.hid hb
    clear HB0 HR0 HR1 h0 h1 hb
    by_cases hlt : k < 8
    · have hcell := H1.out.cell k
      have hfz := H1.out.frozen k
      rw [show (row8 (pb x k))[k]? = some (.int .u8 ((pb x k).getD k 0 : Nat)) by rw [List.getElem?_toArray]; exact intsV_get .u8 _ k (by rw [pb_length]; exact hlt)] at hcell
      have hw8 : IntKind.i64.wrap (8 * (k : Int)) = ((8 * k : Nat) : Int) := by rw [IntKind.wrap_i64]; omega
      have HS := Lib.hid (pb_step x k hlt)
      obtain ⟨y, hy⟩ : ∃ y, y = x / 2 ^ (8 * k) % 256 := ⟨_, rfl⟩
      have HY := Lib.hid hy
      rw [← hy] at HS
      have HV : Hid ((x : Int) / 2 ^ (8 * k) % 256 = (y : Int)) := by
        unfold Hid; rw [hy]
        simp
      clear hy
      go_wp2
      go_roundw
      case rel =>
        have hb := HB.out
        rw [HV.out]
        exact ⟨k + 1, by omega, by go_num, H0.out.far (by simp) _, by rw [HS.out, row8_set]; exact H1.out.put k _, by (have hsz0 := Below.size hb; repeat (first | (with_reducible refine Below.drew ?_) | (with_reducible refine below_drewN0 ?_ _) | ((with_reducible refine Below.setCell ?_ ?_ _); rotate_left; focus (first | omega | (simp; done) | (simp; omega) | (simp at *; omega))) | ((with_reducible refine Below.alloc ?_ ?_ _); rotate_left; focus (first | omega | (simp; done) | (simp; omega) | (simp at *; omega))) | ((with_reducible refine Below.trans ?_ (Below.mono hb ?_)); rotate_left; focus (first | omega | (simp; done) | (simp; omega) | (simp at *; omega))) | (with_reducible exact Below.refl _ _)))⟩
      case measure => simp [intOf]; omega
    · obtain rfl : k = 8 := by omega
      go_wp2_with (first | (with_reducible refine wpList_load_whole (o := ⟨some 16, .load 129 (.tmp 3), _, _, _, _⟩) rfl 129 (.tmp 3) rfl (w.heap.size + 1) rfl 129 (row8 (pb x 8)) H1.out 8 5 Tryd.underlying129 (row8_info _ (pb_length x 8)) ?_) | (with_reducible refine wpList_store_whole (o := ⟨none, .store 129 (.tmp 2) (.tmp 16), _, _, _, _⟩) rfl 129 (.tmp 2) (.tmp 16) rfl w.heap.size (row8 (pb x 8)) rfl rfl 129 (row8 (pb x 0)) H0.out (row8_info _ (pb_length x 8)) (by rw [row8_size _ (pb_length x 0), row8_size _ (pb_length x 8)]) (row8_one _) ?_))
      intro w3 HR3 hg3
      go_wp2_with fail
      refine bodyPost_ret (v := .agg (row8 (pb x 8))) (results_cell_row rfl _ _ w.heap.size 129 _ (0, 0) _ rfl HR3.out Tryd.underlying129 rfl (row8_info _ (pb_length x 8))) rfl ⟨rfl, ?_⟩
      exact below_grown HB.out hg3 HB.out.size (Nat.le_refl _)
theorem row8_ints (l : List Nat) : row8 l = (((l.map fun (x : Nat) => (x : Int))).map (Value.int .u8)).toArray := by simp [row8, intsV]
theorem run_equal8 (w : World) {i : TypeInfo} (hi : Tryd.prog.info? 5 = some i) (xs : List Int) (hx : xs.length = 8) :
    (Op.equalIn 10000 129 (.agg (xs.map (Value.int .u8)).toArray) (.agg (xs.map (Value.int .u8)).toArray)).run Tryd.prog w = .ok true w := by
  rw [run_equalIn_array w 9999 _ _ Tryd.underlying129 hi, show Tryd.prog.cellsOf 5 = 1 by kernel_rfl, run_eqItems_int w 9998 .u8 xs xs Tryd.underlying5 (by kernel_rfl) _ (fun j hj => by simp at hj; omega)]
  simp
set_option maxRecDepth 100000 in
set_option maxHeartbeats 1000000 in
theorem nought_any (l : List Nat) (hl : l.length = 8) (w : World) :
    Calls Tryd.prog 74 #[.agg (row8 l), .int .i64 8] w fun e w' => e = .returned (.bool true) ∧ Below w.heap.size w w' := by
  obtain ⟨cs, hcs⟩ : ∃ cs, cs = row8 l := ⟨_, rfl⟩
  have HCs := Lib.hid hcs
  have hsz : cs.size = 8 := by rw [hcs]; exact row8_size l hl
  obtain ⟨wA, hwA⟩ : ∃ wA, wA = (w.alloc (.cells cs 129)).alloc (.cells #[.int .u8 0, .int .u8 0, .int .u8 0, .int .u8 0, .int .u8 0, .int .u8 0, .int .u8 0, .int .u8 0] 129) := ⟨_, rfl⟩
  have HB0 : Hid (Below w.heap.size w wA) := by unfold Hid; rw [hwA]; (repeat (first | (with_reducible refine Below.drew ?_) | (with_reducible refine below_drewN0 ?_ _) | ((with_reducible refine Below.setCell ?_ ?_ _); rotate_left; focus (first | omega | (simp; done) | (simp; omega) | (simp at *; omega))) | ((with_reducible refine Below.alloc ?_ ?_ _); rotate_left; focus (first | omega | (simp; done) | (simp; omega) | (simp at *; omega))) | (with_reducible exact Below.refl _ _)))
  have HR0 : Hid (Row wA w.heap.size 129 cs) := by unfold Hid; rw [hwA]; exact (Row.fresh w _ _).alloc _
  have HR1 : Hid (Row wA (w.heap.size + 1) 129 (row8 [0, 0, 0, 0, 0, 0, 0, 0])) := by
    unfold Hid; rw [hwA]
    have := Row.fresh (w.alloc (.cells cs 129)) 129 #[.int .u8 0, .int .u8 0, .int .u8 0, .int .u8 0, .int .u8 0, .int .u8 0, .int .u8 0, .int .u8 0]
    rw [World.size_alloc] at this; exact this
  have HSz := Lib.hid hsz
  rw [← hcs]
  clear hcs hsz
  go_enter Tryd.func74, Tryd.ntmps74
  go_wp2
  rw [← hwA]
  clear hwA
  (refine region_kept ([w.heap.size + 1]) [0, 1, 2] [3] (by kernel_rfl) (by kernel_rfl) (fun _ _ _ _ _ h => h) ?_; simp only [List.filterMap_cons, List.getElem?_cons_zero, List.getElem?_cons_succ, List.filterMap_nil]; (repeat ((show wpQuiet _ _ _ _ (_ :: _) _); go_big_quiet_step (fail))); refine wpQuiet_nil ?_)
  have HSr : Hid (Src wA.drew 1 (some ⟨w.heap.size, 0, none⟩) 8 (intsV .u8 l)) := ⟨by rw [intsV_length, hl], fun _ => ⟨_, rfl, fun j u hu => by
    rw [addr_add, Nat.zero_add, show wA.drew.cell? ⟨w.heap.size, j, none⟩ = wA.cell? ⟨w.heap.size, j, none⟩ from rfl, HR0.out.cell j, HCs.out, List.getElem?_toArray]; exact hu⟩⟩
  refine wpSeqS_last (wpList_copy_grown rfl (.tmp 6) (.tmp 8) 46 46 rfl 5 Tryd.underlying46 (by kernel_rfl) (some ⟨w.heap.size, 0, none⟩) 8 8 8 8 (w.heap.size + 1) 0 rfl rfl (intsV .u8 [0, 0, 0, 0, 0, 0, 0, 0]) 129 HR1.out (intsV .u8 l) HSr.out (intsV_one .u8 l) (by simp [intsV]) ?_)
  intro w3 hr3 hg3
  have HR3 : Hid (Row w3 (w.heap.size + 1) 129 cs) := by
    unfold Hid
    have h := hr3.out
    rw [show splice (intsV .u8 [0, 0, 0, 0, 0, 0, 0, 0]) 0 ((intsV .u8 l).take 8) = intsV .u8 l by rw [List.take_of_length_le (by rw [intsV_length, hl]; exact Nat.le_refl _)]; simp [splice, intsV, hl]] at h
    rw [HCs.out]; exact h
  have HR4 : Hid (Row w3 w.heap.size 129 cs) := grown_row (show Row wA.drew w.heap.size 129 cs from HR0.out) hg3.out (by omega)
  have HB3 : Hid (Below w.heap.size w w3) := below_grown HB0.out.drew hg3.out HB0.out.size (by omega)
  have hi : (Tryd.prog.info? 129).map (·.size) = some cs.size := by rw [HSz.out]; kernel_rfl
  have HI := Lib.hid hi
  have hq : (Op.equalIn 10000 129 (.agg cs) (.agg cs)).run Tryd.prog w3 = .ok true w3 := by
    obtain ⟨ie, hie⟩ : ∃ i, Tryd.prog.info? 5 = some i := Option.isSome_iff_exists.1 (by kernel_rfl)
    rw [HCs.out, row8_ints]
    exact run_equal8 w3 hie _ (by simp [hl])
  clear HSr hr3 hg3 HR0 HR1 HB0 hi hl
  go_wp2_with (first | (with_reducible refine wpList_load_whole (o := ⟨some 10, .load 129 (.tmp 2), _, _, _, _⟩) rfl 129 (.tmp 2) rfl w.heap.size rfl 129 cs HR4.out 8 5 Tryd.underlying129 HI.out ?_) | (with_reducible refine wpList_load_whole (o := ⟨some 11, .load 129 (.tmp 5), _, _, _, _⟩) rfl 129 (.tmp 5) rfl (w.heap.size + 1) rfl 129 cs HR3.out 8 5 Tryd.underlying129 HI.out ?_))
  go_wp2
  go_ret
  exact ⟨rfl, HB3.out⟩
end Go.Proofs.YtlidbkofjchnnaaDoor
