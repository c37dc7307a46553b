/- What follows is laid together from several texts of mine, in their order. -/
import Derived.Test.YtfipmpajdkgffaaRows
import Derived.WalkKit
import Derived.WalkLawsBesides
import Derived.WalkSpells
import Derived.Lib.Hide
import Derived.Deep.QuietTactic
import Derived.BigQuiet
import Derived.Deep.RegionHeld3
import Derived.Deep.DeepCutAuto
import Derived.Deep.DeepFit
import Derived.ChangeKeysEq
import Derived.Maps.AppendAt
import Derived.Deep.AppendLies
import Derived.Deep.RegionLaw
import Derived.Laws.CopyOwn
import Derived.Laws.Tables
import Derived.Deep.RegionHeldLaw
import Derived.Laws.BitsAllLaws
import Derived.Maps.Own
import Derived.DeepKeys4
import Derived.OrdersIn
import Derived.TacticsIn

namespace Go.Proofs.Ytfipmpajdkgffaa
open Go.RowKit
set_option linter.unusedVariables false
set_option linter.unusedSimpArgs false

/-- A slice's elements: its cells hold these bytes. -/
def Cells8 (w : World) (a : Option Addr) (l : List Nat) : Prop :=
  ∀ i, i < l.length → ∃ b off, a = some ⟨b, off, none⟩ ∧ w.cell? ⟨b, off + i, none⟩ = some (.int .u8 (l.getD i 0 : Nat))

theorem Cells8.nil {w : World} {a : Option Addr} : Cells8 w a [] := fun i h => by simp at h
theorem Cells8.at0 {w : World} {b off : Nat} {l : List Nat} (h : Cells8 w (some ⟨b, off, none⟩) l) (i : Nat) (hi : i < l.length) :
    w.cell? ⟨b, off + i, none⟩ = some (.int .u8 (l.getD i 0 : Nat)) := by
  obtain ⟨b', off', e, h⟩ := h i hi
  simp at e
  obtain ⟨rfl, rfl⟩ := e
  exact h
theorem Cells8.addr {w : World} {a : Option Addr} {l : List Nat} (h : Cells8 w a l) (hl : l ≠ []) : ∃ b off, a = some ⟨b, off, none⟩ := by
  obtain ⟨b, off, e, _⟩ := h 0 (by cases l <;> simp_all)
  exact ⟨b, off, e⟩

theorem take_getD (l : List Nat) (k : Nat) (h : k < l.length) : l.take (k + 1) = l.take k ++ [l.getD k 0] := by
  rw [List.take_succ_eq_append_getElem h]; simp [List.getD, h]
theorem getD_mem (l : List Nat) (k : Nat) (h : k < l.length) : l.getD k 0 ∈ l := by
  simp [List.getD, h]

/-- Block g is just these cells, of element type t, none frozen. -/
def Row (w : World) (g : Nat) (t : TypeId) (cs : Array Value) : Prop := w.heap[g]? = some (.cells cs t (0, 0))
theorem Row.lt {w : World} {g : Nat} {t : TypeId} {cs : Array Value} (h : Row w g t cs) : g < w.heap.size := by
  unfold Row at h
  exact (Array.getElem?_eq_some_iff.1 h).1
theorem Row.cell {w : World} {g : Nat} {t : TypeId} {cs : Array Value} (h : Row w g t cs) (i : Nat) : w.cell? ⟨g, i, none⟩ = cs[i]? := cell_of_row w g i cs t (0, 0) h
theorem Row.frozen {w : World} {g : Nat} {t : TypeId} {cs : Array Value} (h : Row w g t cs) (i : Nat) : w.frozen? ⟨g, i, none⟩ = false := by
  unfold Row at h; simp [World.frozen?, h]
theorem Row.fresh (w : World) (t : TypeId) (cs : Array Value) : Row (w.alloc (.cells cs t)) w.heap.size t cs := heap_alloc_new w _
theorem Row.drewN {w : World} {g : Nat} {t : TypeId} {cs : Array Value} (h : Row w g t cs) (n : Nat) : Row (w.drewN n) g t cs := h
theorem Row.alloc {w : World} {g : Nat} {t : TypeId} {cs : Array Value} (h : Row w g t cs) (o : Obj) : Row (w.alloc o) g t cs := (Below.heap_alloc w o g h.lt).trans h
theorem Row.put {w : World} {g : Nat} {t : TypeId} {cs : Array Value} (h : Row w g t cs) (i : Nat) (u : Value) : Row (w.setCell ⟨g, i, none⟩ u) g t (cs.setIfInBounds i u) := by
  unfold Row at h ⊢; simp [World.setCell, Array.getElem?_modify, h]
theorem Row.far {w : World} {g : Nat} {t : TypeId} {cs : Array Value} (h : Row w g t cs) {p : Addr} (hp : g ≠ p.block) (u : Value) : Row (w.setCell p u) g t cs := (Below.heap_setCell w p u g hp).trans h
theorem Row.below {w w' : World} {B g : Nat} {t : TypeId} {cs : Array Value} (h : Row w g t cs) (hb : Below B w w') (hg : g < B) : Row w' g t cs := (hb.block g hg).trans h

theorem quiet_add {P : Program} {f : FuncId} {args : Array Value} {w : World} {a n : Nat} {v : Value}
    (h : Calls P f args (w.drewN (a + n)) fun e w' => e = .returned v ∧ ∃ m, w' = (w.drewN (a + n)).drewN m) :
    Calls P f args (w.drewN (a + n)) fun e w'' => e = .returned v ∧ ∃ m, w'' = w.drewN (a + m) :=
  h.mono fun _ _ ⟨he, m, hm⟩ => ⟨he, n + m, by rw [hm, World.drewN_drewN, Nat.add_assoc]⟩
theorem quiet_same {P : Program} {f : FuncId} {args : Array Value} {w : World} {n : Nat} {v : Value}
    (h : Calls P f args (w.drewN n) fun e w' => e = .returned v ∧ w.drewN n = w') : Calls P f args (w.drewN n) fun e w'' => e = .returned v ∧ ∃ m, w'' = w.drewN m :=
  h.mono fun _ _ ⟨he, hm⟩ => ⟨he, n, hm.symm⟩
theorem below_drewN0 {B : Nat} {a w : World} (h : Below B a w) (n : Nat) : Below B a (w.drewN n) := ⟨h.os, h.tape, h.output, h.size, h.block⟩

/-! Arrays of integers, held against one another. -/
section
variable {P : Program} (w : World)
theorem run_eqItems_int (d : Nat) {e : TypeId} (k : IntKind) (xs ys : List Int) (he : P.underlying e = some (.int k)) (hp : P.plainKey e = true) : ∀ is : List Nat, (∀ j ∈ is, j < xs.length ∧ j < ys.length) →
    (Op.eqItems (d + 1) e 1 (xs.map (Value.int k)).toArray (ys.map (Value.int k)).toArray is).run P w = .ok (is.all fun j => xs.getD j 0 == ys.getD j 0) w
  | [], _ => by simp [Op.eqItems]
  | j :: is, h => by
    obtain ⟨h1, h2⟩ := h j (by simp)
    have a := run_part_plain (P := P) w hp (xs := (xs.map (Value.int k)).toArray) (off := j) (v := .int k (xs.getD j 0)) (by simp [List.getD, h1])
    have b := run_part_plain (P := P) w hp (xs := (ys.map (Value.int k)).toArray) (off := j) (v := .int k (ys.getD j 0)) (by simp [List.getD, h2])
    have c := run_equalIn_int (P := P) w d e k k (xs.getD j 0) (ys.getD j 0) he
    simp only [Op.eqItems, Sem.run_bind, Nat.mul_one, a, b, c, Result.andThen_ok, List.all_cons]
    cases xs.getD j 0 == ys.getD j 0
    · simp
    · simpa using run_eqItems_int d k xs ys he hp is (fun x hx => h x (by simp [hx]))

theorem run_eql_ints {t e : TypeId} {n : Nat} {i : TypeInfo} (k : IntKind) (hu : P.underlying t = some (.array n e)) (hi : P.info? e = some i) (he : P.underlying e = some (.int k)) (hp : P.plainKey e = true) (hc : P.cellsOf e = 1)
    (xs ys : List Int) (hx : xs.length = n) (hy : ys.length = n) :
    (binOp .eql t (.agg (xs.map (Value.int k)).toArray) (.agg (ys.map (Value.int k)).toArray)).run P w = .ok (.bool (xs == ys)) w := by
  have h : (Op.equalIn 10000 t (.agg (xs.map (Value.int k)).toArray) (.agg (ys.map (Value.int k)).toArray)).run P w = .ok (xs == ys) w := by
    rw [run_equalIn_array w 9999 _ _ hu hi, hc, run_eqItems_int w 9998 k xs ys he hp _ (fun j hj => by simp at hj; omega)]
    congr 1
    rw [Bool.eq_iff_iff, List.all_eq_true, beq_iff_eq]
    constructor
    · intro h
      apply List.ext_getElem (by omega)
      intro j h1 h2
      have := h j (by simp; omega)
      simpa [List.getD, h1, h2] using this
    · rintro rfl; simp
  simp only [binOp]
  simp [Op.equal, Op.maxDepth, h]
theorem run_neq_ints {t e : TypeId} {n : Nat} {i : TypeInfo} (k : IntKind) (hu : P.underlying t = some (.array n e)) (hi : P.info? e = some i) (he : P.underlying e = some (.int k)) (hp : P.plainKey e = true) (hc : P.cellsOf e = 1)
    (xs ys : List Int) (hx : xs.length = n) (hy : ys.length = n) :
    (binOp .neq t (.agg (xs.map (Value.int k)).toArray) (.agg (ys.map (Value.int k)).toArray)).run P w = .ok (.bool (xs != ys)) w := by
  have h : (Op.equalIn 10000 t (.agg (xs.map (Value.int k)).toArray) (.agg (ys.map (Value.int k)).toArray)).run P w = .ok (xs == ys) w := by
    rw [run_equalIn_array w 9999 _ _ hu hi, hc, run_eqItems_int w 9998 k xs ys he hp _ (fun j hj => by simp at hj; omega)]
    congr 1
    rw [Bool.eq_iff_iff, List.all_eq_true, beq_iff_eq]
    constructor
    · intro h
      apply List.ext_getElem (by omega)
      intro j h1 h2
      have := h j (by simp; omega)
      simpa [List.getD, h1, h2] using this
    · rintro rfl; simp
  simp only [binOp]
  simp [Op.equal, Op.maxDepth, h, bne]
end

theorem bcell {W w1 : World} (hb : Below W.heap.size W w1) : (∀ b o, b < W.heap.size → w1.cell? ⟨b, o, none⟩ = W.cell? ⟨b, o, none⟩) ∧ (∀ b o, b < W.heap.size → w1.frozen? ⟨b, o, none⟩ = W.frozen? ⟨b, o, none⟩) :=
  ⟨fun b o h => hb.cell (p := ⟨b, o, none⟩) h, fun b o h => hb.frozen (p := ⟨b, o, none⟩) h⟩
end Go.Proofs.Ytfipmpajdkgffaa

namespace Go.Proofs.Ytfipmpajdkgffaa
set_option linter.unusedVariables false
set_option linter.unusedSimpArgs false

/-- Four bytes from i on, as a number (the least first). -/
def num4 (b : List Nat) (i : Nat) : Nat := b.getD i 0 + 256 * b.getD (i + 1) 0 + 65536 * b.getD (i + 2) 0 + 16777216 * b.getD (i + 3) 0
end Go.Proofs.Ytfipmpajdkgffaa

namespace Go.Proofs.Ytfipmpajdkgffaa
open Go.RowKit
set_option linter.unusedVariables false
set_option linter.unusedSimpArgs false

theorem addr_add (b off j : Nat) : (⟨b, off, none⟩ : Addr).add j = ⟨b, off + j, none⟩ := by
  unfold Addr.add; split
  · simp_all
  · rfl
theorem addr_add0 (b j : Nat) : (⟨b, 0, none⟩ : Addr).add j = ⟨b, j, none⟩ := by rw [addr_add, Nat.zero_add]
/-- What is appended: m elements of some cells each; where there are any, they lie at an address. -/
structure Src (w : World) (size : Nat) (A : Option Addr) (m : Nat) (news : List Value) : Prop where
  len : news.length = m * size
  lies : 0 < m → ∃ ad, A = some ad ∧ ∀ j u, news[j]? = some u → w.cell? (ad.add j) = some u
theorem Src.of_at {w : World} {size : Nat} {ad : Addr} {m : Nat} {news : List Value} (hl : news.length = m * size) (h : ∀ j u, news[j]? = some u → w.cell? (ad.add j) = some u) : Src w size (some ad) m news :=
  ⟨hl, fun _ => ⟨ad, rfl, h⟩⟩
theorem Src.of_own {w : World} {base : Nat} {e : TypeId} {size n : Nat} {A : Option Addr} {c : Nat} {xs : List Value} (h : w.ownsRow base e size (.slice A n c) n xs) : Src w size A n xs := by
  refine ⟨h.1, fun hn => ?_⟩
  rcases h.2 with ⟨h1, h2⟩ | ⟨g, cap, cur, hv, _, _, _⟩
  · omega
  · injection hv with hv _ _
    subst hv
    exact ⟨_, rfl, h.cells (g := g) rfl⟩
theorem Src.bytes {w : World} {A : Option Addr} {l : List Nat} (h : Cells8 w A l) : Src w 1 A l.length (l.map fun (x : Nat) => Value.int .u8 (x : Int)) := by
  refine ⟨by simp, fun hn => ?_⟩
  obtain ⟨b, off, rfl⟩ := h.addr (by intro e; simp [e] at hn)
  refine ⟨_, rfl, fun j u hu => ?_⟩
  have hj : j < l.length := by
    rcases Nat.lt_or_ge j l.length with h1 | h1
    · exact h1
    · rw [List.getElem?_eq_none (by simpa using h1)] at hu; cases hu
  have := h.at0 j hj
  simp only [List.getElem?_map, List.getElem?_eq_getElem hj, Option.map_some, Option.some.injEq] at hu
  subst hu
  rw [addr_add]
  rw [this]; simp [List.getD, hj]
theorem Src.keep {w w' : World} {size : Nat} {A : Option Addr} {m : Nat} {news : List Value} (h : Src w size A m news) (hk : ∀ a v, w.cell? a = some v → w'.cell? a = some v) : Src w' size A m news :=
  ⟨h.len, fun hm => by obtain ⟨ad, e, hc⟩ := h.lies hm; exact ⟨ad, e, fun j u hu => hk _ _ (hc j u hu)⟩⟩

section
variable {P : Program} (w : World)
theorem run_append_src (base : Nat) (t ty e : TypeId) (i : TypeInfo) (z : Value) (size bytes : Nat) (ht : P.underlying t = some (.slice e)) (hi : P.info? e = some i) (hz : i.zero = some z)
    (hsize : i.size = size) (hby : i.bytes = bytes) (hzs : z.cells.size = size) (hsz : 0 < size)
    (v : Value) (n : Nat) (xs : List Value) (hown : w.ownsRow base e size v n xs)
    (A : Option Addr) (m c : Nat) (news : List Value) (hs : Src w size A m news) (h1 : ∀ u ∈ news, u.oneCell' = true)
    (h63 : n + m ≤ maxLen) (hbytes : (n + m) * bytes ≤ 140737488355328) (hbase : base ≤ w.heap.size) :
    ∃ v' w', (Builtin.append_ #[t, t] ty #[v, .slice A m c]).run P w = .ok v' w' ∧ w'.ownsRow base e size v' (n + m) (xs ++ news) ∧ w.grownBy w' v.ownBlock ∧
      (v'.ownBlock = v.ownBlock ∨ v'.ownBlock = some w.heap.size) := by
  cases A with
  | none =>
    have hm : m = 0 := by
      rcases Nat.eq_zero_or_pos m with h | h
      · exact h
      · obtain ⟨_, e, _⟩ := hs.lies h; cases e
    subst hm
    have hnil : news = [] := List.eq_nil_of_length_eq_zero (by simpa using hs.len)
    subst hnil
    refine ⟨v, w, ?_, by simpa using hown, ⟨rfl, rfl, rfl, Nat.le_refl _, fun _ _ _ => rfl⟩, .inl rfl⟩
    rcases hown.2 with ⟨rfl, rfl⟩ | ⟨g, cap, cur, rfl, _, _, hnc, _⟩
    · simp [Builtin.append_, run_underlying ht, sizeOf, typeInfo, hi, Builtin.lenOf, Builtin.firstCells]
    · simp [Builtin.append_, run_underlying ht, sizeOf, typeInfo, hi, Builtin.lenOf, Builtin.firstCells, hnc, storeCells]
  | some ad =>
    have hcells : ∀ j u, news[j]? = some u → w.cell? (ad.add j) = some u := by
      intro j u hu
      rcases Nat.eq_zero_or_pos m with h | h
      · subst h
        have hnil : news = [] := List.eq_nil_of_length_eq_zero (by simpa using hs.len)
        subst hnil; simp at hu
      · obtain ⟨ad', e, hc⟩ := hs.lies h
        injection e with e; subst e; exact hc j u hu
    obtain ⟨v', w', hr, h2, h3, _, h5⟩ := run_append_own_at (P := P) w base t ty e i z size bytes ht hi hz hsize hby hzs hsz v n xs hown ad m c news hs.len hcells h1 h63 hbytes hbase
    exact ⟨v', w', hr, h2, h3, h5⟩

theorem wp_append_src {o : Oper} {a : Act} {K : Act → World → Prop} {Q : Exit → Act → World → Prop} (s x : Operand) (t : TypeId)
    (ho : o.op = .call { callee := .builtin .append, args := #[s, x], argTypes := #[t, t] })
    (base : Nat) (e : TypeId) (i : TypeInfo) (z : Value) (size bytes : Nat) (ht : P.underlying t = some (.slice e)) (hi : P.info? e = some i) (hz : i.zero = some z)
    (hsize : i.size = size) (hby : i.bytes = bytes) (hzs : z.cells.size = size) (hsz : 0 < size)
    (v : Value) (n : Nat) (xs : List Value) (hv : a.eval s = v) (hown : w.ownsRow base e size v n xs)
    (A : Option Addr) (m c : Nat) (news : List Value) (hx : a.eval x = .slice A m c) (hs : Src w size A m news) (h1 : ∀ u ∈ news, u.oneCell' = true)
    (h63 : n + m ≤ maxLen) (hbytes : (n + m) * bytes ≤ 140737488355328) (hbase : base ≤ w.heap.size)
    (h : ∀ v' w', w'.ownsRow base e size v' (n + m) (xs ++ news) → w.grownBy w' v.ownBlock → (v'.ownBlock = v.ownBlock ∨ v'.ownBlock = some w.heap.size) → K (a.put o.dst v') w') : o.wp P a w K Q := by
  obtain ⟨v', w', hr, h2, h3, h4⟩ := run_append_src (P := P) w base t o.type e i z size bytes ht hi hz hsize hby hzs hsz v n xs hown A m c news hs h1 h63 hbytes hbase
  unfold Oper.wp execOp
  simp only [ho, resolve, invoke, builtin, Sem.run_bind, Sem.run_pure, Result.andThen_ok, List.map_toArray, List.map_cons, List.map_nil, hv, hx, hr]
  exact h v' w' h2 h3 h4

theorem wpList_append_src {ops : Array Oper} {rest : List Oper} {o : Oper} {a : Act} {Q : Exit → Act → World → Prop} (hgd : o.guard = none) (s x : Operand) (t : TypeId)
    (ho : o.op = .call { callee := .builtin .append, args := #[s, x], argTypes := #[t, t] })
    (base : Nat) (e : TypeId) (i : TypeInfo) (z : Value) (size bytes : Nat) (ht : P.underlying t = some (.slice e)) (hi : P.info? e = some i) (hz : i.zero = some z)
    (hsize : i.size = size) (hby : i.bytes = bytes) (hzs : z.cells.size = size) (hsz : 0 < size)
    (v : Value) (n : Nat) (xs : List Value) (hv : a.eval s = v) (hown : w.ownsRow base e size v n xs)
    (A : Option Addr) (m c : Nat) (news : List Value) (hx : a.eval x = .slice A m c) (hs : Src w size A m news) (h1 : ∀ u ∈ news, u.oneCell' = true)
    (h63 : n + m ≤ maxLen) (hbytes : (n + m) * bytes ≤ 140737488355328) (hbase : base ≤ w.heap.size)
    (h : ∀ v' w', w'.ownsRow base e size v' (n + m) (xs ++ news) → w.grownBy w' v.ownBlock → (v'.ownBlock = v.ownBlock ∨ v'.ownBlock = some w.heap.size) → wpList P ops Q rest (a.put o.dst v') w') : wpList P ops Q (o :: rest) a w :=
  wpList_plain hgd fun _ hK => wp_append_src w s x t ho base e i z size bytes ht hi hz hsize hby hzs hsz v n xs hv hown A m c news hx hs h1 h63 hbytes hbase fun v' w' h2 h3 h4 => hK _ _ (h v' w' h2 h3 h4)

theorem step_append_src {ops : Array Oper} {o : Oper} {a : Act} {K : Act → World → Prop} {Q : Exit → Act → World → Prop} {E : Prop} (hgd : o.guard = none) (s x : Operand) (t : TypeId)
    (ho : o.op = .call { callee := .builtin .append, args := #[s, x], argTypes := #[t, t] })
    (base : Nat) (e : TypeId) (i : TypeInfo) (z : Value) (size bytes : Nat) (ht : P.underlying t = some (.slice e)) (hi : P.info? e = some i) (hz : i.zero = some z)
    (hsize : i.size = size) (hby : i.bytes = bytes) (hzs : z.cells.size = size) (hsz : 0 < size)
    (v : Value) (n : Nat) (xs : List Value) (hv : a.eval s = v) (hown : w.ownsRow base e size v n xs)
    (A : Option Addr) (m c : Nat) (news : List Value) (hx : a.eval x = .slice A m c) (hs : Src w size A m news) (h1 : ∀ u ∈ news, u.oneCell' = true)
    (h63 : n + m ≤ maxLen) (hbytes : (n + m) * bytes ≤ 140737488355328) (hbase : base ≤ w.heap.size)
    (h : ∀ v' w', w'.ownsRow base e size v' (n + m) (xs ++ news) → w.grownBy w' v.ownBlock → (v'.ownBlock = v.ownBlock ∨ v'.ownBlock = some w.heap.size) → K (a.put o.dst v') w') :
    if Region.wanted o (yielded ops a.tmps) = true then Oper.wp P o a w K Q else E := by
  rw [if_pos (by simp [Region.wanted, hgd])]
  exact wp_append_src w s x t ho base e i z size bytes ht hi hz hsize hby hzs hsz v n xs hv hown A m c news hx hs h1 h63 hbytes hbase h
end

theorem wpList_copy_src {P : Program} {w : World} {ops : Array Oper} {rest : List Oper} {o : Oper} {a : Act} {Q : Exit → Act → World → Prop} (hgd : o.guard = none) (d s : Operand) (dT sT : TypeId)
    (ho : o.op = .call { callee := .builtin .copy, args := #[d, s], argTypes := #[dT, sT] }) (elem : TypeId) (hu : P.underlying dT = some (.slice elem)) (hsz : (P.info? elem).map (·.size) = some 1)
    (A : Option Addr) (dLen dCap m mc : Nat) (g off : Nat) (hd : a.eval d = .slice (some ⟨g, off, none⟩) dLen dCap) (hx : a.eval s = .slice A m mc)
    (cur : List Value) (t : TypeId) (hg : Row w g t cur.toArray) (news : List Value) (hs : Src w 1 A m news) (h1 : ∀ u ∈ news, u.oneCell' = true)
    (hfit : off + min m dLen ≤ cur.length) (B : Nat) (w0 : World) (hb : Below B w0 w) (hBg : B ≤ g)
    (h : ∀ w', Hid (Row w' g t (splice cur off (news.take dLen)).toArray) → Below B w0 w' → wpList P ops Q rest (a.put o.dst (goInt ((min m dLen : Nat) : Int))) w') :
    wpList P ops Q (o :: rest) a w := by
  have hl : news.length = m := by simpa using hs.len
  have hcl : (news.take dLen).length = min m dLen := by rw [List.length_take, hl, Nat.min_comm]
  refine wpList_copy_splice hgd d s dT sT ho elem hu hsz (some ⟨g, off, none⟩) A dLen dCap m mc hd hx g off cur t hg (news.take dLen) (by rw [hcl]) ?_ (by rw [hcl]; exact hfit) (fun v hv => h1 v (List.mem_of_mem_take hv)) B w0 hb hBg ?_
  · intro hp
    obtain ⟨ad, e, hc⟩ := hs.lies (by omega)
    refine ⟨rfl, ad, e, fun j v hv => hc j v ?_⟩
    rw [List.getElem?_take] at hv
    split at hv
    · exact hv
    · cases hv
  · intro w' h1 h2
    have := h w' h1 h2
    rw [hcl]; exact this

/-- A whole array loaded from a block that is known whole. -/
theorem wpList_load_whole {P : Program} {w : World} {ops : Array Oper} {rest : List Oper} {o : Oper} {a : Act} {Q : Exit → Act → World → Prop} (hgd : o.guard = none) (ty : TypeId) (x : Operand) (ho : o.op = .load ty x)
    (g : Nat) (hx : a.eval x = .pointer (some ⟨g, 0, none⟩)) (t : TypeId) (cs : Array Value) (hg : Row w g t cs) (n : Nat) (e : TypeId)
    (hu : P.underlying ty = some (.array n e)) (hi : (P.info? ty).map (·.size) = some cs.size)
    (h : wpList P ops Q rest (a.put o.dst (.agg cs)) w) : wpList P ops Q (o :: rest) a w :=
  wpList_load_row hgd ty x ho g hx t cs (0, 0) _ hg hu rfl hi h
/-- A whole array stored over a block that is known whole. -/
theorem wpList_store_whole {P : Program} {w : World} {ops : Array Oper} {rest : List Oper} {o : Oper} {a : Act} {Q : Exit → Act → World → Prop} (hgd : o.guard = none) (ty : TypeId) (x y : Operand) (ho : o.op = .store ty x y)
    (g : Nat) (cells : Array Value) (hx : a.eval x = .pointer (some ⟨g, 0, none⟩)) (hy : a.eval y = .agg cells)
    (t : TypeId) (old : Array Value) (hg : Row w g t old) (hi : (P.info? ty).map (·.size) = some cells.size)
    (hold : old.size = cells.size) (h1 : cells.all (·.oneCell') = true)
    (h : ∀ w', Hid (Row w' g t cells) → w.grownBy w' (some g) → wpList P ops Q rest (a.put o.dst undef) w') : wpList P ops Q (o :: rest) a w :=
  wpList_store_row hgd ty x y ho g cells hx hy t old hg hi hold h1
    (h _ (setRow_heap w g old cells t _ hg) ⟨rfl, rfl, rfl, by simp, fun k _ hk => setRow_other w g k _ (fun e => hk (by rw [e]))⟩)
theorem grown_row {w w' : World} {g g' : Nat} {t : TypeId} {cs : Array Value} (h : Row w g t cs) (hg : w.grownBy w' (some g')) (hne : g ≠ g') : Row w' g t cs := (hg.block g h.lt (by simpa using hne)).trans h
theorem below_grown {B : Nat} {a w w' : World} {g : Nat} (h : Below B a w) (hg : w.grownBy w' (some g)) (hB : B ≤ w.heap.size) (hr : B ≤ g) : Below B a w' := h.grown hg hB (fun k hk => by injection hk with hk; omega)

/-- The cells that an owned row of bytes shows. -/
theorem Cells8.of_own {w : World} {base : Nat} {e : TypeId} {A : Option Addr} {n c : Nat} {l : List Nat} (h : w.ownsRow base e 1 (.slice A n c) n (l.map fun (x : Nat) => Value.int .u8 (x : Int))) : n = l.length ∧ Cells8 w A l := by
  have hn : n = l.length := by have := h.1; simpa using this.symm
  refine ⟨hn, fun i hi => ?_⟩
  rcases h.2 with ⟨h1, h2⟩ | ⟨g, cap, cur, hv, _, _, _⟩
  · omega
  · injection hv with hv _ _
    subst hv
    refine ⟨g, 0, rfl, ?_⟩
    have := h.cells (g := g) rfl i (.int .u8 (l.getD i 0 : Nat)) (by simp [List.getD, hi])
    rw [addr_add] at this
    exact this
theorem own_at {w : World} {base : Nat} {e : TypeId} {size : Nat} {v : Value} {n : Nat} {xs : List Value} (h : w.ownsRow base e size v n xs) (hn : 0 < n) : ∃ g c, v = .slice (some ⟨g, 0, none⟩) n c ∧ base ≤ g ∧ g < w.heap.size ∧ n ≤ c ∧ c ≤ maxLen := by
  have hlt := h.lt
  rcases h.2 with ⟨rfl, rfl⟩ | ⟨g, cap, cur, rfl, h0, _, h1, h2, _⟩
  · omega
  · exact ⟨g, cap, rfl, h0, (hlt g rfl).2, h1, h2⟩
theorem own_shape {w : World} {base : Nat} {e : TypeId} {size : Nat} {v : Value} {n : Nat} {xs : List Value} (h : w.ownsRow base e size v n xs) : ∃ A c, v = .slice A n c ∧ n ≤ c ∧ c ≤ maxLen := by
  rcases h.2 with ⟨rfl, rfl⟩ | ⟨g, cap, cur, rfl, _, _, h1, h2, _⟩
  · exact ⟨none, 0, rfl, Nat.le_refl _, by simp [maxLen]⟩
  · exact ⟨_, _, rfl, h1, h2⟩
theorem Cells8.below {w w' : World} {b off : Nat} {l : List Nat} {B : Nat} (h : Cells8 w (some ⟨b, off, none⟩) l) (hb : Below B w w') (hlt : b < B) : Cells8 w' (some ⟨b, off, none⟩) l := by
  intro i hi
  refine ⟨b, off, rfl, ?_⟩
  rw [hb.cell (p := ⟨b, off + i, none⟩) hlt]
  exact h.at0 i hi
theorem Cells8.keep {w w' : World} {a : Option Addr} {l : List Nat} (h : Cells8 w a l) (hk : ∀ p v, w.cell? p = some v → w'.cell? p = some v) : Cells8 w' a l := by
  intro i hi
  obtain ⟨b, off, e, hc⟩ := h i hi
  exact ⟨b, off, e, hk _ _ hc⟩
/-- Old cells stay, as one fact: below a heap's size nothing turns. -/
theorem keep_below {w w' : World} (hb : Below w.heap.size w w') : ∀ p v, w.cell? p = some v → w'.cell? p = some v := fun p v h => by
  rw [hb.cell (World.block_lt_of_cell? w p h)]; exact h
theorem keep_grown {w w' : World} (hg : w.grownBy w' none) : ∀ p v, w.cell? p = some v → w'.cell? p = some v := fun p v h => hg.cell h (by simp)
theorem grown_below {w w' : World} (h : Below w.heap.size w w') (row : Option Nat) : w.grownBy w' row := ⟨h.os, h.tape, h.output, h.size, fun i hi _ => h.block i hi⟩
theorem own_below {w w' : World} {base : Nat} {e : TypeId} {size : Nat} {v : Value} {n : Nat} {xs : List Value} (h : w.ownsRow base e size v n xs) (hb : Below w.heap.size w w') : w'.ownsRow base e size v n xs :=
  h.kept (grown_below hb none) (by cases hv : v.ownBlock <;> simp)
theorem own_drewN {w : World} {base : Nat} {e : TypeId} {size : Nat} {v : Value} {n : Nat} {xs : List Value} (h : w.ownsRow base e size v n xs) (k : Nat) : (w.drewN k).ownsRow base e size v n xs := h
theorem own_mono {w : World} {base base' : Nat} {e : TypeId} {size : Nat} {v : Value} {n : Nat} {xs : List Value} (h : w.ownsRow base e size v n xs) (hb : base' ≤ base) : w.ownsRow base' e size v n xs := by
  refine ⟨h.1, ?_⟩
  rcases h.2 with h1 | ⟨g, cap, cur, h1, h2, h3⟩
  · exact .inl h1
  · exact .inr ⟨g, cap, cur, h1, Nat.le_trans hb h2, h3⟩
end Go.Proofs.Ytfipmpajdkgffaa

namespace Go.Proofs.Ytfipmpajdkgffaa
open Go.RowKit
set_option linter.unusedVariables false
set_option linter.unusedSimpArgs false

/-- A world that has only grown since w. -/
structure Later (w : World) where
  u : World
  h : Below w.heap.size w u
instance (w : World) : Nonempty (Later w) := ⟨⟨w, Below.refl _ _⟩⟩
theorem region_later {P : Program} {id : Nat} {Q : Exit → Act → World → Prop} {a : Act} {w : World} {l : List Oper} (hm : P.follows .mixedOrders = true) (hB : Region.lexB .any l.toArray = true)
    (h : wpQuiet P l.toArray (fun u => ∃ t : Later w, u = t.u) (fun a' => ∀ t : Later w, Q .normal a' t.u) l a) : (Code.region id l.toArray true).wp P Q a w :=
  wp_region_quiet (C := fun u => ∃ t : Later w, u = t.u) hm hB ⟨⟨_, (Below.refl _ _).drew⟩, rfl⟩ (by
    have e : (fun a' => ∀ t : Later w, Q .normal a' t.u) = (fun a' => ∀ w', (∃ t : Later w, w' = t.u) → Q .normal a' w') := by
      funext a'; apply propext
      exact ⟨fun h w' ⟨t, e⟩ => by subst e; exact h t, fun h t => h _ ⟨t, rfl⟩⟩
    rw [e] at h
    exact h)
theorem Later.call {P : Program} {f : FuncId} {args : Array Value} {w : World} {t : Later w} {v : Value} (h : Calls P f args t.u fun e u' => e = .returned v ∧ Below t.u.heap.size t.u u') :
    Calls P f args t.u fun e w'' => e = .returned v ∧ ∃ t' : Later w, w'' = t'.u :=
  h.mono fun e u' ⟨he, hb⟩ => ⟨he, ⟨u', t.h.trans (hb.mono t.h.size)⟩, rfl⟩
theorem Later.same {P : Program} {f : FuncId} {args : Array Value} {w : World} {t : Later w} {v : Value} (h : Calls P f args t.u fun e u' => e = .returned v ∧ t.u = u') :
    Calls P f args t.u fun e w'' => e = .returned v ∧ ∃ t' : Later w, w'' = t'.u :=
  h.mono fun e u' ⟨he, hb⟩ => ⟨he, t, hb.symm⟩
theorem Later.drew {P : Program} {f : FuncId} {args : Array Value} {w : World} {t : Later w} {v : Value} (h : Calls P f args t.u fun e u' => e = .returned v ∧ ∃ n, u' = t.u.drewN n) :
    Calls P f args t.u fun e w'' => e = .returned v ∧ ∃ t' : Later w, w'' = t'.u :=
  h.mono fun e u' ⟨he, n, hb⟩ => ⟨he, ⟨t.u.drewN n, below_drewN0 t.h n⟩, hb⟩
end Go.Proofs.Ytfipmpajdkgffaa

namespace Go.Proofs.Ytfipmpajdkgffaa
open Go.RowKit
set_option linter.unusedVariables false
set_option linter.unusedSimpArgs false

structure Turns (w w' : World) (S : List Nat) : Prop where
  os : w'.os = w.os
  tape : w'.tape = w.tape
  output : w'.output = w.output
  size : w.heap.size ≤ w'.heap.size
  block : ∀ k, k < w.heap.size → k ∉ S → w'.heap[k]? = w.heap[k]?
theorem Turns.refl (w : World) (S : List Nat) : Turns w w S := ⟨rfl, rfl, rfl, Nat.le_refl _, fun _ _ _ => rfl⟩
theorem Turns.of_below {w w' : World} (h : Below w.heap.size w w') (S : List Nat) : Turns w w' S := ⟨h.os, h.tape, h.output, h.size, fun k hk _ => h.block k hk⟩
theorem Turns.trans {a b c : World} {S S' : List Nat} (h : Turns a b S) (h' : Turns b c S') (hS : ∀ k ∈ S', k ∈ S ∨ a.heap.size ≤ k) : Turns a c S :=
  ⟨h'.os.trans h.os, h'.tape.trans h.tape, h'.output.trans h.output, Nat.le_trans h.size h'.size, fun k hk hn =>
    (h'.block k (Nat.lt_of_lt_of_le hk h.size) (fun hm => (hS k hm).elim (fun x => hn x) (fun x => by omega))).trans (h.block k hk hn)⟩
theorem Turns.then_below {a b c : World} {S : List Nat} (h : Turns a b S) (h' : Below b.heap.size b c) : Turns a c S := h.trans (Turns.of_below h' []) (by simp)
theorem Turns.setCell {a w : World} {S : List Nat} (h : Turns a w S) {p : Addr} (hp : p.block ∈ S ∨ a.heap.size ≤ p.block) (u : Value) : Turns a (w.setCell p u) S :=
  ⟨h.os, h.tape, h.output, by simpa [World.setCell] using h.size, fun k hk hn => (Below.heap_setCell w p u k (fun e => by subst e; exact hp.elim hn (fun x => by omega))).trans (h.block k hk hn)⟩
theorem Turns.alloc {a w : World} {S : List Nat} (h : Turns a w S) (o : Obj) : Turns a (w.alloc o) S :=
  ⟨h.os, h.tape, h.output, Nat.le_trans h.size (by simp), fun k hk hn => (Below.heap_alloc w o k (Nat.lt_of_lt_of_le hk h.size)).trans (h.block k hk hn)⟩
theorem Turns.drewN {a w : World} {S : List Nat} (h : Turns a w S) (n : Nat) : Turns a (w.drewN n) S := ⟨h.os, h.tape, h.output, h.size, h.block⟩
theorem Turns.drew {a w : World} {S : List Nat} (h : Turns a w S) : Turns a w.drew S := ⟨h.os, h.tape, h.output, h.size, h.block⟩
theorem Turns.row {w w' : World} {S : List Nat} (h : Turns w w' S) {g : Nat} {t : TypeId} {cs : Array Value} (hr : Row w g t cs) (hn : g ∉ S) : Row w' g t cs := (h.block g hr.lt hn).trans hr
theorem Turns.cell {w w' : World} {S : List Nat} (h : Turns w w' S) {p : Addr} {v : Value} (hc : w.cell? p = some v) (hn : p.block ∉ S) : w'.cell? p = some v :=
  (World.cell?_of_block (h.block p.block (World.block_lt_of_cell? w p hc) hn)).trans hc
theorem Turns.own {w w' : World} {S : List Nat} (h : Turns w w' S) {base : Nat} {e : TypeId} {size : Nat} {v : Value} {n : Nat} {xs : List Value} (ho : w.ownsRow base e size v n xs) (hn : ∀ g, v.ownBlock = some g → g ∉ S) : w'.ownsRow base e size v n xs := by
  refine ⟨ho.1, ?_⟩
  rcases ho.2 with h1 | ⟨g, cap, cur, rfl, hb, hg, rest⟩
  · exact .inl h1
  · exact .inr ⟨g, cap, cur, rfl, hb, (h.block g (Array.getElem?_eq_some_iff.1 hg).1 (hn g rfl)).trans hg, rest⟩
theorem Turns.below {B : Nat} {a w w' : World} {S : List Nat} (h : Turns w w' S) (hb : Below B a w) (hB : B ≤ w.heap.size) (hS : ∀ k ∈ S, B ≤ k) : Below B a w' :=
  hb.trans ⟨h.os, h.tape, h.output, h.size, fun k hk => h.block k (by omega) (fun hm => by have := hS k hm; omega)⟩
theorem Row.ne_type {w : World} {g g' : Nat} {t t' : TypeId} {cs cs' : Array Value} (h : Row w g t cs) (h' : Row w g' t' cs') (hne : t ≠ t') : g ≠ g' := by
  rintro rfl
  unfold Row at h h'
  rw [h] at h'
  injection h' with h'
  injection h' with _ ht
  exact hne ht
/-- The block of an owned row, as a row. -/
theorem own_row {w : World} {base : Nat} {e : TypeId} {size : Nat} {g n c : Nat} {xs : List Value} (h : w.ownsRow base e size (.slice (some ⟨g, 0, none⟩) n c) n xs) : base ≤ g ∧ ∃ cur, Row w g e cur ∧ cur.size = c * size ∧ n ≤ c ∧ c ≤ maxLen ∧ cur.toList.take (n * size) = xs := by
  rcases h.2 with ⟨h1, _⟩ | ⟨g', cap, cur, hv, hb, hg, h1, h2, h3, h4⟩
  · cases h1
  · injection hv with hv _ hc
    injection hv with hv
    injection hv with hv
    subst hv; subst hc
    exact ⟨hb, cur, hg, h3, h1, h2, h4⟩
theorem Turns.of_grown {w w' : World} {g : Nat} (h : w.grownBy w' (some g)) : Turns w w' [g] := ⟨h.os, h.tape, h.output, h.size, fun k hk hn => h.block k hk (by simpa using hn)⟩
theorem Turns.mono {w w' : World} {S S' : List Nat} (h : Turns w w' S) (hS : ∀ k ∈ S, k ∈ S') : Turns w w' S' := ⟨h.os, h.tape, h.output, h.size, fun k hk hn => h.block k hk (fun hm => hn (hS k hm))⟩
end Go.Proofs.Ytfipmpajdkgffaa

namespace Go.Proofs.Ytfipmpajdkgffaa
open Go.RowKit
set_option linter.unusedVariables false
set_option linter.unusedSimpArgs false

/-- An operation that yields a value and nothing else. -/
def yieldsOnly (o : Oper) : Bool :=
  match o.op with
  | .move _ | .assign _ | .pick .. | .load .. | .binOp .. | .unOp .. | .convert .. | .build .. | .slice .. | .fieldAddr .. | .field .. | .indexAddr .. | .index .. | .lookup .. | .extract .. | .makeFunc .. => true
  | .call c => match c.callee with | .builtin .len | .builtin .cap => true | _ => false
  | .nilCheck _ => true
  | _ => false
section
variable {P : Program}
theorem value_of_bind {s : Sem Value} {w w' : World} {r : Next} (h : (do pure (Next.value (← s)) : Sem Next).run P w = .ok r w') : ∃ v, r = .value v := by
  simp only [Sem.run_bind] at h
  generalize s.run P w = x at h
  cases x with
  | ok v w1 => simp only [Result.andThen_ok, Sem.run_pure] at h; injection h with h _; exact ⟨v, h.symm⟩
  | halt a b => simp [Result.andThen] at h
theorem yieldsOnly_spec {o : Oper} (h : yieldsOnly o = true) (ρ : Operand → Value) {w w' : World} {r : Next} (hr : (execOp ρ o).run P w = .ok r w') : ∃ v, r = .value v := by
  obtain ⟨dst, op, type, pos, after, guard⟩ := o
  cases op <;> simp only [yieldsOnly] at h <;> try (cases h; done)
  case move x => simp only [execOp, Sem.run_pure] at hr; injection hr with hr _; exact ⟨_, hr.symm⟩
  case assign x => simp only [execOp, Sem.run_pure] at hr; injection hr with hr _; exact ⟨_, hr.symm⟩
  case pick c a b =>
    simp only [execOp, Sem.run_bind] at hr
    generalize (asBool (ρ c)).run P w = x at hr
    cases x with
    | ok v w1 => simp only [Result.andThen_ok, Sem.run_pure] at hr; injection hr with hr _; exact ⟨_, hr.symm⟩
    | halt a b => simp [Result.andThen] at hr
  case nilCheck x =>
    simp only [execOp] at hr
    repeat' split at hr
    all_goals first
      | (simp [runtimePanic] at hr; done)
      | (simp only [Sem.run_pure] at hr; injection hr with hr _; exact ⟨_, hr.symm⟩)
      | skip
    all_goals
      simp only [Sem.run_bind, run_program, Result.andThen_ok] at hr
      generalize (nilAhead _ _ _ _).run P w = y at hr
      cases y with
      | ok v w1 =>
        simp only [Result.andThen_ok] at hr
        split at hr
        · simp [unsupported] at hr
        · simp only [Sem.run_bind, Sem.run_pure, Result.andThen_ok] at hr; injection hr with hr _; exact ⟨_, hr.symm⟩
      | halt a b => simp [Result.andThen] at hr
  case call c =>
    obtain ⟨callee, args, ats⟩ := c
    cases callee <;> simp only at h <;> try (cases h; done)
    rename_i b
    cases b <;> simp only at h <;> try (cases h; done)
    · rw [BigFrame.execOp_builtin] at hr; exact value_of_bind hr
    · rw [BigFrame.execOp_builtin] at hr; exact value_of_bind hr
  all_goals exact value_of_bind hr

/-- What is asked at the end: of the way on, or of another way out. -/
def outQ (Q : Exit → Act → World → Prop) (N : Act → World → Prop) : Exit → Act → World → Prop
  | .normal, a, w => N a w
  | e, a, w => Q e a w
theorem oper_wp_post {o : Oper} {a : Act} {w : World} {K : Act → World → Prop} {Q Q' : Exit → Act → World → Prop} (hp : ∀ c a w, Q (.panic c) a w → Q' (.panic c) a w) (ho : LetsOut Q → LetsOut Q')
    (h : o.wp P a w K Q) : o.wp P a w K Q' := by
  unfold Oper.wp at *
  generalize (execOp a.eval o).run P w = r at *
  cases r with
  | ok n w' =>
    cases n <;> simp only [Oper.upon] at h ⊢ <;>
      first
        | exact h
        | exact Calls.mono h (fun e w'' he => by cases e <;> first | exact he | exact hp _ _ _ he | exact ho he)
  | halt x w' => cases x <;> simp only [Oper.upon] at h ⊢ <;> first | exact h | exact hp _ _ _ h
theorem letsOut_outQ {Q : Exit → Act → World → Prop} {N N' : Act → World → Prop} (h : LetsOut (outQ Q N)) : LetsOut (outQ Q N') := by
  obtain ⟨a, w, h⟩ := h; exact ⟨a, w, h⟩
theorem letsOut_of_outQ {Q : Exit → Act → World → Prop} {N : Act → World → Prop} (h : LetsOut (outQ Q N)) : LetsOut Q := by
  obtain ⟨a, w, h⟩ := h; exact ⟨a, w, h⟩

def gOk (n : Nat) (o : Oper) : Bool := match o.guard with | some (g, _) => decide (g < n) | none => true
theorem wanted_take {l : List Oper} {n : Nat} {o : Oper} (hg : gOk n o = true) (tmps : Array Value) : Region.wanted o (yielded (l.take n).toArray tmps) = Region.wanted o (yielded l.toArray tmps) := by
  unfold Region.wanted
  unfold gOk at hg
  cases hgd : o.guard with
  | none => rfl
  | some g =>
    obtain ⟨j, want⟩ := g
    rw [hgd] at hg
    simp only [decide_eq_true_eq] at hg
    have : yielded (l.take n).toArray tmps j = yielded l.toArray tmps j := by
      unfold yielded
      simp [List.getElem?_take, hg]
    show (yielded (l.take n).toArray tmps j == some want) = (yielded l.toArray tmps j == some want)
    rw [this]

/-- One operation after the other; behind each but the last S is shown anew. -/
def wpSeqS (P : Program) (ops : Array Oper) (S : World → Prop) (Q : Exit → Act → World → Prop) : List Oper → Act → World → Prop
  | [], a, w => Q .normal a w
  | [o], a, w => wpList P ops Q [o] a w
  | o :: o' :: rest, a, w => wpList P ops (outQ Q fun a' w' => S w' ∧ wpSeqS P ops S Q (o' :: rest) a' w') [o] a w
theorem wpSeqS_step {ops : Array Oper} {S : World → Prop} {Q : Exit → Act → World → Prop} {o o' : Oper} {rest : List Oper} {a : Act} {w : World} (h : wpList P ops (outQ Q fun a' w' => S w' ∧ wpSeqS P ops S Q (o' :: rest) a' w') [o] a w) : wpSeqS P ops S Q (o :: o' :: rest) a w := h
theorem wpSeqS_last {ops : Array Oper} {S : World → Prop} {Q : Exit → Act → World → Prop} {o : Oper} {a : Act} {w : World} (h : wpList P ops Q [o] a w) : wpSeqS P ops S Q [o] a w := h
theorem outQ_normal {Q : Exit → Act → World → Prop} {S : World → Prop} {N : Act → World → Prop} {a : Act} {w : World} (hS : S w) (h : N a w) : outQ Q (fun a w => S w ∧ N a w) .normal a w := ⟨hS, h⟩
/-- These may be taken first, one behind the other. -/
def takesB (ops : Array Oper) : Array Bool → List Nat → Bool
  | _, [] => true
  | listed, i :: is => Region.free .any ops listed i && (Region.ready .any ops listed).contains i && takesB ops (listed.setIfInBounds i true) is
/-- Of these each is the one that may come up, and then there is none. -/
def chainB (ops : Array Oper) : Array Bool → List Nat → Bool
  | listed, [] => (Region.ready .any ops listed).isEmpty
  | listed, i :: is => (Region.ready .any ops listed) == [i] && chainB ops (listed.setIfInBounds i true) is
def listAll (listed : Array Bool) (is : List Nat) : Array Bool := is.foldl (fun l i => l.setIfInBounds i true) listed

variable {l : List Oper} {S : World → Prop} {Q : Exit → Act → World → Prop}
theorem anyH_takes (n : Nat) {N : Act → World → Prop} (hs : Region.noSelect (l.take n).toArray = true) : ∀ (rs : List Nat) (fuel : Nat) (listed : Array Bool) (a : Act) (w : World), takesB (l.take n).toArray listed rs = true → (∀ i ∈ rs, ∃ o, l[i]? = some o ∧ i < n ∧ yieldsOnly o = true ∧ gOk n o = true) → S w →
    (∀ c a d v w, outQ Q N (.panic c) (a.put d v) w → outQ Q N (.panic c) a w) →
    wpQuiet P l.toArray S (fun a' => wpAnyH P .any (l.take n).toArray (outQ Q N) S fuel (listAll listed rs) a' w) (rs.filterMap (l[·]?)) a →
    wpAnyH P .any (l.take n).toArray (outQ Q N) S (fuel + rs.length) listed a w
  | [], fuel, listed, a, w, _, _, _, _, h => by simpa [listAll, wpQuiet] using h
  | i :: rs, fuel, listed, a, w, hB, hr, hS, hQ, h => by
    obtain ⟨o, ho, hin, hy, hg⟩ := hr i (by simp)
    simp only [takesB, Bool.and_eq_true] at hB
    obtain ⟨⟨hf, hc⟩, hB⟩ := hB
    have ho' : (l.take n).toArray[i]? = some o := by simp [List.getElem?_take, hin, ho]
    rw [List.filterMap_cons, ho] at h
    simp only at h
    unfold wpQuiet at h
    have key : ∃ v, YieldsIf P (l.take n).toArray S o v a ∧ wpQuiet P l.toArray S (fun a' => wpAnyH P .any (l.take n).toArray (outQ Q N) S fuel (listAll listed (i :: rs)) a' w) (rs.filterMap (l[·]?)) (a.put o.dst v) := by
      by_cases hw : Region.wanted o (yielded l.toArray a.tmps) = true
      · rw [if_pos hw] at h
        obtain ⟨v, hv, hn⟩ := h
        refine ⟨v, .inl ⟨by rw [wanted_take hg]; exact hw, fun w1 hw1 => ?_⟩, hn⟩
        have h1 := hv w1 hw1
        unfold Oper.quietAt at h1
        cases hx : (execOp a.eval o).run P w1 with
        | halt x w2 => rw [hx] at h1; exact h1.elim
        | ok r w2 =>
          obtain ⟨v2, rfl⟩ := yieldsOnly_spec hy _ hx
          rw [hx] at h1
          obtain ⟨rfl, rfl⟩ := h1
          rfl
      · rw [if_neg hw] at h
        exact ⟨undef, .inr ⟨by rw [wanted_take hg]; simpa using hw, rfl⟩, h⟩
    obtain ⟨v, hy', hn⟩ := key
    refine wpAnyH_take ho' hs hf hc (fun c a' w' h' => hQ c a' _ _ w' h') hy' hS ?_
    exact anyH_takes n hs rs fuel _ _ w hB (fun j hj => hr j (by simp [hj])) hS hQ hn

theorem wpSeqS_cons {ops : Array Oper} {o : Oper} {rest : List Oper} (hr : rest ≠ []) {a : Act} {w : World} (h : wpSeqS P ops S Q (o :: rest) a w) : wpList P ops (outQ Q fun a' w' => S w' ∧ wpSeqS P ops S Q rest a' w') [o] a w := by
  cases rest with
  | nil => exact absurd rfl hr
  | cons o' rest => exact h
theorem wpOp_of_list {n i : Nat} {o : Oper} (ho : l[i]? = some o) (hin : i < n) (hg : gOk n o = true) {N N' : Act → World → Prop} {K : Act → World → Prop} {a : Act} {w : World} (hK : ∀ a w, N' a w → K a w)
    (h : wpList P l.toArray (outQ Q N') [o] a w) : wpOp P (l.take n).toArray (outQ Q N) i K a w := by
  have ho' : (l.take n).toArray[i]? = some o := by simp [List.getElem?_take, hin, ho]
  unfold wpOp
  simp only [ho']
  unfold wpList at h
  rw [wanted_take hg]
  by_cases hw : Region.wanted o (yielded l.toArray a.tmps) = true
  · rw [if_pos hw] at h ⊢
    rcases h with h | h
    · exact .inl (oper_wp_post (fun c a w h => h) letsOut_outQ (Oper.wp_mono (fun a w h => hK a w h) h))
    · exact .inr ⟨h.1, letsOut_outQ h.2⟩
  · rw [if_neg hw] at h ⊢
    exact hK _ _ h
theorem anyH_chain (n : Nat) {last : Oper} : ∀ (ts : List Nat) (listed : Array Bool) (a : Act) (w : World), chainB (l.take n).toArray listed ts = true → (∀ i ∈ ts, ∃ o, l[i]? = some o ∧ i < n ∧ gOk n o = true) →
    wpSeqS P l.toArray S Q (ts.filterMap (l[·]?) ++ [last]) a w → wpAnyH P .any (l.take n).toArray (outQ Q fun a w => wpList P l.toArray Q [last] a w) S ts.length listed a w
  | [], listed, a, w, hB, _, h => wpAnyH_done (by simpa [chainB] using hB) h _
  | t :: ts, listed, a, w, hB, hr, h => by
    obtain ⟨o, ho, hin, hg⟩ := hr t (by simp)
    simp only [chainB, Bool.and_eq_true, beq_iff_eq] at hB
    rw [List.filterMap_cons, ho] at h
    have h := wpSeqS_cons (rest := ts.filterMap (l[·]?) ++ [last]) (by simp) h
    refine wpAnyH_all hB.1 (by simp) (fun i hi => ?_)
    simp only [List.mem_singleton] at hi
    subst hi
    exact wpOp_of_list ho hin hg (fun a' w' h' => ⟨h'.1, anyH_chain n ts _ a' w' hB.2 (fun j hj => hr j (by simp [hj])) h'.2⟩) h

/-- The last operation stands behind all others; each other stands behind elder ones alone. -/
def lastB (l : List Oper) : Bool :=
  (match l[l.length - 1]? with | some o => o.guard.isNone && o.after.all (fun e => decide (e.on < l.length - 1)) && (List.range (l.length - 1)).all (fun i => (o.after.any fun e => e.on == i && Region.binds .any e) || (List.range (l.length - 1)).any fun j => decide (i < j) && (match l[j]? with | some oj => oj.after.any fun e => e.on == i && Region.binds .any e | none => false)) | none => false) &&
  (List.range (l.length - 1)).all (fun i => match l[i]? with | some o => o.after.all (fun e => decide (e.on < i)) && gOk (l.length - 1) o | none => false)
theorem any_last (n : Nat) {last : Oper} (hn : l.length = n + 1) (hlast : l[n]? = some last) (hB : lastB l = true) : ∀ (fuel : Nat) (listed : Array Bool) (a : Act) (w : World), listed.size = n → (∀ j oj, l[j]? = some oj → j < n → listed.getD j false = true → ∀ e ∈ oj.after, Region.binds .any e = true → listed.getD e.on false = true) →
    wpAny P .any (l.take n).toArray (outQ Q fun a w => wpList P l.toArray Q [last] a w) fuel listed a w → wpAny P .any l.toArray Q (fuel + 1) (listed.push false) a w := by
  simp only [lastB, hn, Nat.add_sub_cancel, hlast, Bool.and_eq_true, List.all_eq_true, List.mem_range] at hB
  obtain ⟨⟨⟨hgl, hle⟩, hall⟩, hpre⟩ := hB
  rw [Array.all_eq_true_iff_forall_mem] at hle
  have hpre' : ∀ i, i < n → ∃ o, l[i]? = some o ∧ (∀ e ∈ o.after, e.on < i) ∧ gOk n o = true := fun i hi => by
    have := hpre i hi
    cases ho : l[i]? with
    | none => rw [ho] at this; cases this
    | some o =>
      rw [ho] at this
      simp only [Bool.and_eq_true, Array.all_eq_true_iff_forall_mem, decide_eq_true_eq] at this
      exact ⟨o, rfl, this.1, this.2⟩
  have r1 : ∀ (listed : Array Bool), listed.size = n → ∀ i, i < n → (i ∈ Region.ready .any l.toArray (listed.push false) ↔ i ∈ Region.ready .any (l.take n).toArray listed) := by
    intro listed hl i hi
    obtain ⟨o, ho, he, _⟩ := hpre' i hi
    have ho' : (l.take n).toArray[i]? = some o := by simp [List.getElem?_take, hi, ho]
    have ho2 : l.toArray[i]? = some o := by simpa using ho
    have hg : ∀ (d : Bool) j, j < n → (listed.push false).getD j d = listed.getD j d := fun d j hj => by
      simp [Array.getD, hl, hj, Nat.lt_succ_of_lt hj, Array.getElem_push]
    rw [mem_ready, mem_ready, hg _ i hi]
    simp only [ho', ho2, Option.some.injEq, exists_eq_left']
    constructor
    · rintro ⟨h1, h2⟩
      exact ⟨h1, fun e hm hb => by have := h2 e hm hb; rwa [hg _ _ (by have := he e hm; omega)] at this⟩
    · rintro ⟨h1, h2⟩
      exact ⟨h1, fun e hm hb => by rw [hg _ _ (by have := he e hm; omega)]; exact h2 e hm hb⟩
  have r3 : ∀ (listed : Array Bool), listed.size = n → Region.ready .any (l.take n).toArray listed = [] → ∀ i, i < n → listed.getD i false = true := by
    intro listed hl hr i
    induction i using Nat.strongRecOn with
    | _ i ih =>
      intro hi
      obtain ⟨o, ho, he, _⟩ := hpre' i hi
      have ho' : (l.take n).toArray[i]? = some o := by simp [List.getElem?_take, hi, ho]
      have hd : listed.getD i false = listed.getD i true := by simp [Array.getD, hl, hi]
      cases hc : listed.getD i false with
      | true => rfl
      | false =>
        have : i ∈ Region.ready .any (l.take n).toArray listed := mem_ready.2 ⟨by rw [← hd]; exact hc, o, ho', fun e hm hb => ih e.on (he e hm) (by have := he e hm; omega)⟩
        rw [hr] at this; cases this
  have r2 : ∀ (listed : Array Bool), listed.size = n → (∀ j oj, l[j]? = some oj → j < n → listed.getD j false = true → ∀ e ∈ oj.after, Region.binds .any e = true → listed.getD e.on false = true) → (n ∈ Region.ready .any l.toArray (listed.push false) ↔ ∀ i, i < n → listed.getD i false = true) := by
    intro listed hl hcl
    have hl2 : l.toArray[n]? = some last := by simpa using hlast
    rw [mem_ready]
    simp only [hl2, Option.some.injEq, exists_eq_left']
    have hp : (listed.push false).getD n true = false := by subst hl; simp [Array.getD]
    have hg : ∀ j, j < n → (listed.push false).getD j false = listed.getD j false := fun j hj => by
      simp [Array.getD, hl, hj, Nat.lt_succ_of_lt hj, Array.getElem_push]
    constructor
    · rintro ⟨_, h⟩ i hi
      have key : ∀ k i, i < n → n - i ≤ k → listed.getD i false = true := by
        intro k
        induction k with
        | zero => intro i hi hk; omega
        | succ k ih =>
          intro i hi hk
          have := hall i hi
          rw [Bool.or_eq_true] at this
          rcases this with h1 | h1
          · rw [Array.any_eq_true] at h1
            obtain ⟨k, hk, he⟩ := h1
            obtain ⟨e, hm, hek⟩ : ∃ e, e ∈ last.after ∧ e = last.after[k] := ⟨_, Array.getElem_mem hk, rfl⟩
            rw [← hek] at he
            simp only [Bool.and_eq_true, beq_iff_eq] at he
            have h2 := h e hm he.2
            rw [he.1, hg i hi] at h2
            exact h2
          · rw [List.any_eq_true] at h1
            obtain ⟨j, hj, h1⟩ := h1
            rw [List.mem_range] at hj
            simp only [Bool.and_eq_true, decide_eq_true_eq] at h1
            obtain ⟨hij, h1⟩ := h1
            cases hoj : l[j]? with
            | none => rw [hoj] at h1; cases h1
            | some oj =>
              rw [hoj] at h1
              simp only at h1
              rw [Array.any_eq_true] at h1
              obtain ⟨k', hk', he⟩ := h1
              obtain ⟨e, hm, hek⟩ : ∃ e, e ∈ oj.after ∧ e = oj.after[k'] := ⟨_, Array.getElem_mem hk', rfl⟩
              rw [← hek] at he
              simp only [Bool.and_eq_true, beq_iff_eq] at he
              have h2 := hcl j oj hoj hj (ih j hj (by omega)) e hm he.2
              rw [he.1] at h2
              exact h2
      exact key (n - i) i hi (Nat.le_refl _)
    · intro h
      refine ⟨hp, fun e hm hb => ?_⟩
      have := hle e hm
      simp only [decide_eq_true_eq] at this
      rw [hg _ this]; exact h _ this
  have rin : ∀ (listed : Array Bool), ∀ i ∈ Region.ready .any l.toArray listed, i < n + 1 := by
    intro listed i hi
    obtain ⟨_, o, ho, _⟩ := mem_ready.1 hi
    have ho : l[i]? = some o := by simpa using ho
    have := (List.getElem?_eq_some_iff.1 ho).1
    omega
  have fin : ∀ (fuel : Nat) (listed : Array Bool) (a : Act) (w : World), listed.size = n → (∀ j oj, l[j]? = some oj → j < n → listed.getD j false = true → ∀ e ∈ oj.after, Region.binds .any e = true → listed.getD e.on false = true) → (∀ i, i < n → listed.getD i false = true) → wpList P l.toArray Q [last] a w → wpAny P .any l.toArray Q (fuel + 1) (listed.push false) a w := by
    intro fuel listed a w hl hcl ha h
    have hlt : ∀ d i, i < n → listed.getD i d = true := fun d i hi => by have := ha i hi; simpa [Array.getD, hl, hi] using this
    refine ⟨fun h0 => ?_, fun i hi => ?_⟩
    · have := (r2 listed hl hcl).2 ha
      rw [h0] at this; cases this
    · have hin := rin _ i hi
      by_cases hi2 : i < n
      · have := (mem_ready.1 ((r1 listed hl i hi2).1 hi)).1
        rw [hlt true i hi2] at this; cases this
      · obtain rfl : i = n := by omega
        have hl2 : l.toArray[i]? = some last := by simpa using hlast
        have hdone : Region.ready .any l.toArray ((listed.push false).setIfInBounds i true) = [] := by
          rw [List.eq_nil_iff_forall_not_mem]
          intro j hj
          have hjn := rin _ j hj
          have h1 := (mem_ready.1 hj).1
          by_cases hji : j = i
          · subst hji
            simp [Array.getD, hl] at h1
          · have hji2 : j < i := by omega
            have h2 := hlt true j hji2
            simp [Array.getD, hl, hji2, Nat.lt_succ_of_lt hji2, Array.getElem_push, Array.getElem_setIfInBounds, Ne.symm hji] at h1 h2
            rw [h2] at h1; cases h1
        have hK : ∀ a' w', Q .normal a' w' → wpAny P .any l.toArray Q fuel ((listed.push false).setIfInBounds i true) a' w' := fun a' w' hq => by
          cases fuel with
          | zero => exact ⟨hdone, hq⟩
          | succ k => exact ⟨fun _ => hq, by rw [hdone]; simp⟩
        unfold wpOp
        simp only [hl2]
        unfold wpList at h
        split
        · rename_i hw
          rw [if_pos hw] at h
          rcases h with h | h
          · exact .inl (Oper.wp_mono (fun a w h => hK a w h) h)
          · exact .inr h
        · rename_i hw
          rw [if_neg hw] at h
          exact hK _ _ h
  intro fuel
  induction fuel with
  | zero =>
    intro listed a w hl hcl h
    exact fin 0 listed a w hl hcl (r3 listed hl h.1) h.2
  | succ fuel ih =>
    intro listed a w hl hcl h
    by_cases h0 : Region.ready .any (l.take n).toArray listed = []
    · exact fin _ listed a w hl hcl (r3 listed hl h0) (h.1 h0)
    · refine ⟨fun h1 => ?_, fun i hi => ?_⟩
      · obtain ⟨j, hj⟩ := List.exists_mem_of_ne_nil _ h0
        obtain ⟨_, o, ho, _⟩ := mem_ready.1 hj
        have hjn : j < n := by
          have ho : (l.take n)[j]? = some o := by simpa using ho
          have := (List.getElem?_eq_some_iff.1 ho).1
          simp at this; omega
        have := (r1 listed hl j hjn).2 hj
        rw [h1] at this; cases this
      · have hin := rin _ i hi
        by_cases hi2 : i < n
        · obtain ⟨o, ho, _, hg⟩ := hpre' i hi2
          have h2 := h.2 i ((r1 listed hl i hi2).1 hi)
          have ho' : (l.take n).toArray[i]? = some o := by simp [List.getElem?_take, hi2, ho]
          have ho2 : l.toArray[i]? = some o := by simpa using ho
          have hK : ∀ a' w', wpAny P .any (l.take n).toArray (outQ Q fun a w => wpList P l.toArray Q [last] a w) fuel (listed.setIfInBounds i true) a' w' → wpAny P .any l.toArray Q (fuel + 1) ((listed.push false).setIfInBounds i true) a' w' := fun a' w' hq => by
            have := ih (listed.setIfInBounds i true) a' w' (by simpa using hl) (fun j oj hoj hj hlj e hm hb => by
              have hs : ∀ k, k < n → (listed.setIfInBounds i true).getD k false = if i = k then true else listed.getD k false := fun k hk => by
                by_cases e : i = k
                · subst e; simp [Array.getD, hl, hk]
                · simp [Array.getD, hl, hk, e, Array.getElem_setIfInBounds]
              have hej : e.on < n := by
                obtain ⟨o', ho', he', _⟩ := hpre' j hj
                rw [hoj] at ho'; injection ho' with ho'; subst ho'
                have := he' e hm; omega
              rw [hs _ hej]
              split
              · rfl
              · rw [hs _ hj] at hlj
                by_cases e1 : i = j
                · subst e1
                  obtain ⟨_, o3, ho3, h3⟩ := mem_ready.1 ((r1 listed hl i hi2).1 hi)
                  rw [ho'] at ho3; injection ho3 with ho3; subst ho3
                  rw [hoj] at ho; injection ho with ho; subst ho
                  exact h3 e hm hb
                · rw [if_neg e1] at hlj
                  exact hcl j oj hoj hj hlj e hm hb) hq
            have e : (listed.setIfInBounds i true).push false = (listed.push false).setIfInBounds i true := by
              apply Array.ext_getElem?
              intro j
              simp only [Array.getElem?_setIfInBounds, Array.getElem?_push, Array.size_push, Array.size_setIfInBounds, hl]
              by_cases hj : i = j
              · subst hj; simp [hi2, Nat.lt_succ_of_lt hi2, Nat.ne_of_lt hi2]
              · simp [hj]
            rw [← e]; exact this
          unfold wpOp at h2 ⊢
          simp only [ho', ho2] at h2 ⊢
          rw [wanted_take hg] at h2
          split
          · rename_i hw
            rw [if_pos hw] at h2
            rcases h2 with h2 | h2
            · exact .inl (oper_wp_post (fun c a w h => h) (letsOut_of_outQ (N := fun a w => wpList P l.toArray Q [last] a w)) (Oper.wp_mono hK h2))
            · exact .inr ⟨h2.1, letsOut_of_outQ (N := fun a w => wpList P l.toArray Q [last] a w) h2.2⟩
          · rename_i hw
            rw [if_neg hw] at h2
            exact hK _ _ h2
        · obtain rfl : i = n := by omega
          exfalso
          have ha := (r2 listed hl hcl).1 hi
          refine h0 (List.eq_nil_iff_forall_not_mem.2 fun j hj => ?_)
          obtain ⟨h1, o, ho, _⟩ := mem_ready.1 hj
          have hjn : j < i := by
            have ho : (l.take i)[j]? = some o := by simpa using ho
            have := (List.getElem?_eq_some_iff.1 ho).1
            simp at this; omega
          have := ha j hjn
          simp [Array.getD, hl, hjn] at this h1
          rw [this] at h1; cases h1

def atB (l : List Oper) (i : Nat) (f : Oper → Bool) : Bool := match l[i]? with | some o => f o | none => false
theorem atB_spec {l : List Oper} {i : Nat} {f : Oper → Bool} (h : atB l i f = true) : ∃ o, l[i]? = some o ∧ f o = true := by
  unfold atB at h
  cases ho : l[i]? with
  | none => rw [ho] at h; cases h
  | some o => rw [ho] at h; exact ⟨o, rfl, h⟩
theorem quiet_imp {ops : Array Oper} {C : World → Prop} {A B : Act → Prop} (hi : ∀ a, A a → B a) : ∀ (rl : List Oper) (a : Act), wpQuiet P ops C A rl a → wpQuiet P ops C B rl a
  | [], a, h => hi a h
  | o :: rl, a, h => by
    unfold wpQuiet at h ⊢
    split
    · rename_i hw
      rw [if_pos hw] at h
      obtain ⟨v, h1, h2⟩ := h
      exact ⟨v, h1, quiet_imp hi rl _ h2⟩
    · rename_i hw
      rw [if_neg hw] at h
      exact quiet_imp hi rl _ h
def seqB (l : List Oper) (rs ts : List Nat) : Bool :=
  lastB l && Region.noSelect (l.take (l.length - 1)).toArray && takesB (l.take (l.length - 1)).toArray (Array.replicate (l.length - 1) false) rs && chainB (l.take (l.length - 1)).toArray (listAll (Array.replicate (l.length - 1) false) rs) ts.dropLast &&
  (decide (ts.getLast? = some (l.length - 1)) && decide (rs.length + ts.dropLast.length = l.length - 1) && decide (0 < l.length)) &&
  rs.all (fun i => decide (i < l.length - 1) && atB l i fun o => yieldsOnly o && gOk (l.length - 1) o) && ts.dropLast.all (fun i => decide (i < l.length - 1) && atB l i fun o => gOk (l.length - 1) o)
/-- **A REGION THAT DRAWS ITS ORDER**: its reads (rs), each of which yields one value in every world that meets S; then the others (ts), each but the last leaving S. -/
theorem region_seq {id : Nat} {a : Act} {w : World} (S : World → Prop) (rs ts : List Nat) (hm : P.follows .mixedOrders = true) (hB : seqB l rs ts = true) (hS : S w.drew) (hQ : ∀ c (a : Act) k v w, Q (.panic c) { a with tmps := a.tmps.setIfInBounds k v } w → Q (.panic c) a w)
    (h : wpQuiet P l.toArray S (fun a' => wpSeqS P l.toArray S Q (ts.filterMap (l[·]?)) a' w.drew) (rs.filterMap (l[·]?)) a) : (Code.region id l.toArray true).wp P Q a w := by
  simp only [seqB, Bool.and_eq_true, decide_eq_true_eq, List.all_eq_true] at hB
  obtain ⟨⟨⟨⟨⟨⟨h1, h2⟩, h3⟩, h4⟩, ⟨⟨h5, h6⟩, h7⟩⟩, h8⟩, h9⟩ := hB
  obtain ⟨n, hn⟩ : ∃ n, l.length = n + 1 := ⟨l.length - 1, by omega⟩
  rw [hn, Nat.add_sub_cancel] at h2 h3 h4 h5 h6 h8 h9
  obtain ⟨last, hlast⟩ : ∃ last, l[n]? = some last := ⟨_, List.getElem?_eq_getElem (by omega)⟩
  have hts : ts = ts.dropLast ++ [n] := by
    obtain ⟨ys, hy⟩ := List.getLast?_eq_some_iff.1 h5
    rw [hy]; simp
  rw [hts, List.filterMap_append, List.filterMap_cons, hlast, List.filterMap_nil] at h
  refine wp_region_any hm ?_
  have hsz : l.toArray.size = n + 1 := by simpa using hn
  rw [hsz, show Array.replicate (n + 1) false = (Array.replicate n false).push false from Array.replicate_succ]
  refine any_last n hn hlast h1 n _ a _ (by simp) (fun j oj _ hj hlj => by simp [Array.getD, hj] at hlj) ?_
  have h10 := anyH_takes (P := P) (S := S) (Q := Q) (N := fun a w => wpList P l.toArray Q [last] a w) n h2 rs ts.dropLast.length (Array.replicate n false) a w.drew h3 (fun i hi => by
    obtain ⟨hin, hat⟩ := h8 i hi
    obtain ⟨o, ho, hy⟩ := atB_spec hat
    simp only [Bool.and_eq_true] at hy
    exact ⟨o, ho, hin, hy.1, hy.2⟩) hS (fun c a d v w h => by cases d with | none => exact h | some k => exact hQ c a k v w h) (quiet_imp (fun a' h' => anyH_chain (P := P) (S := S) (Q := Q) n ts.dropLast _ a' w.drew h4 (fun i hi => by
      obtain ⟨hin, hat⟩ := h9 i hi
      obtain ⟨o, ho, hy⟩ := atB_spec hat
      exact ⟨o, ho, hin, hy⟩) h') _ _ h)
  rw [Nat.add_comm, h6] at h10
  exact wpAny_of_held _ _ _ _ h10
end
/-- A world in which, since w, no old block but these has turned. -/
structure Kept (w : World) (S : List Nat) where
  u : World
  h : Turns w u S
instance (w : World) (S : List Nat) : Nonempty (Kept w S) := ⟨⟨w, Turns.refl _ _⟩⟩
theorem region_kept {P : Program} {l : List Oper} {Q : Exit → Act → World → Prop} {id : Nat} {a : Act} {w : World} (B : List Nat) (rs ts : List Nat) (hm : P.follows .mixedOrders = true) (hB : seqB l rs ts = true) (hQ : ∀ c (a : Act) k v w, Q (.panic c) { a with tmps := a.tmps.setIfInBounds k v } w → Q (.panic c) a w)
    (h : wpQuiet P l.toArray (fun u => ∃ t : Kept w B, u = t.u) (fun a' => wpSeqS P l.toArray (fun u => Turns w u B) Q (ts.filterMap (l[·]?)) a' w.drew) (rs.filterMap (l[·]?)) a) : (Code.region id l.toArray true).wp P Q a w := by
  have e : (fun u => ∃ t : Kept w B, u = t.u) = fun u => Turns w u B := by
    funext u; apply propext
    exact ⟨fun ⟨t, e⟩ => by subst e; exact t.h, fun h => ⟨⟨u, h⟩, rfl⟩⟩
  rw [e] at h
  exact region_seq _ rs ts hm hB (Turns.refl w B).drew hQ h
end Go.Proofs.Ytfipmpajdkgffaa

namespace Go.Proofs.Ytfipmpajdkgffaa
open Go.RowKit
set_option linter.unusedVariables false
set_option linter.unusedSimpArgs false

/-- Integers as cells. -/
def intsV (k : IntKind) (l : List Nat) : List Value := l.map fun (x : Nat) => Value.int k (x : Int)
theorem intsV_get (k : IntKind) (l : List Nat) (i : Nat) (hi : i < l.length) : (intsV k l)[i]? = some (.int k (l.getD i 0 : Nat)) := by simp [intsV, List.getD, hi]
theorem intsV_length (k : IntKind) (l : List Nat) : (intsV k l).length = l.length := by simp [intsV]
theorem intsV_one (k : IntKind) (l : List Nat) : ∀ u ∈ intsV k l, u.oneCell' = true := by
  intro u hu; obtain ⟨x, _, rfl⟩ := List.mem_map.1 hu; rfl
theorem intsV_append (k : IntKind) (l l' : List Nat) : intsV k (l ++ l') = intsV k l ++ intsV k l' := by simp [intsV]
theorem intsV_set (k : IntKind) (l : List Nat) (i x : Nat) : intsV k (l.set i x) = (intsV k l).set i (.int k (x : Int)) := by simp [intsV, List.map_set]

/-- An owned row at a block: its cell i. -/
theorem own_cell {w : World} {B : Nat} {t : TypeId} {k : IntKind} {L n c : Nat} {l : List Nat} (h : w.ownsRow B t 1 (.slice (some ⟨L, 0, none⟩) n c) n (intsV k l)) (i : Nat) (hi : i < l.length) : w.cell? ⟨L, i, none⟩ = some (.int k (l.getD i 0 : Nat)) := by
  have := h.cells (g := L) rfl i _ (intsV_get k l i hi)
  rw [addr_add, Nat.zero_add] at this
  exact this
theorem own_thaw {w : World} {B : Nat} {t : TypeId} {L n c : Nat} {xs : List Value} (h : w.ownsRow B t 1 (.slice (some ⟨L, 0, none⟩) n c) n xs) (i : Nat) : w.frozen? ⟨L, i, none⟩ = false := by
  obtain ⟨_, cur, hr, _⟩ := own_row h
  exact hr.frozen i
theorem own_put {w : World} {B : Nat} {t : TypeId} {k : IntKind} {L n c : Nat} {l : List Nat} (h : w.ownsRow B t 1 (.slice (some ⟨L, 0, none⟩) n c) n (intsV k l)) (i x : Nat) (hi : i < l.length) : (w.setCell ⟨L, i, none⟩ (.int k (x : Int))).ownsRow B t 1 (.slice (some ⟨L, 0, none⟩) n c) n (intsV k (l.set i x)) := by
  obtain ⟨hB, cur, hr, hs, hn, hm, ht⟩ := own_row h
  have hl := h.1
  rw [intsV_length] at hl
  refine ⟨by rw [intsV_length, List.length_set]; exact hl, .inr ⟨L, c, cur.setIfInBounds i (.int k (x : Int)), rfl, hB, hr.put i _, hn, hm, by simpa using hs, ?_⟩⟩
  rw [intsV_set, ← ht, Array.toList_setIfInBounds, List.take_set]
theorem own_far {w : World} {B : Nat} {t : TypeId} {size L n c : Nat} {xs : List Value} (h : w.ownsRow B t size (.slice (some ⟨L, 0, none⟩) n c) n xs) {p : Addr} (hp : p.block ≠ L) (u : Value) : (w.setCell p u).ownsRow B t size (.slice (some ⟨L, 0, none⟩) n c) n xs :=
  (Turns.refl w [p.block]).setCell (by simp) u |>.own h (fun g hg => by injection hg with hg; subst hg; simpa using fun e => hp e.symm)

/-- The object at G, its slice's row at L. -/
structure Held (tS tE : TypeId) (k : IntKind) (w : World) (B G L c : Nat) (ks : List Nat) : Prop where
  hG : B ≤ G
  row : Row w G tS #[.slice (some ⟨L, 0, none⟩) ks.length c]
  own : w.ownsRow B tE 1 (.slice (some ⟨L, 0, none⟩) ks.length c) ks.length (intsV k ks)
section
variable {tS tE : TypeId} {k : IntKind} {w : World} {B G L c : Nat} {ks : List Nat}
theorem Held.cellG (h : Held tS tE k w B G L c ks) : w.cell? ⟨G, 0, none⟩ = some (.slice (some ⟨L, 0, none⟩) ks.length c) := by rw [h.row.cell]; simp
theorem Held.thawG (h : Held tS tE k w B G L c ks) : w.frozen? ⟨G, 0, none⟩ = false := h.row.frozen 0
theorem Held.cell (h : Held tS tE k w B G L c ks) (i : Nat) (hi : i < ks.length) : w.cell? ⟨L, i, none⟩ = some (.int k (ks.getD i 0 : Nat)) := own_cell h.own i hi
theorem Held.thaw (h : Held tS tE k w B G L c ks) (i : Nat) : w.frozen? ⟨L, i, none⟩ = false := own_thaw h.own i
theorem Held.hL (h : Held tS tE k w B G L c ks) : B ≤ L ∧ L < w.heap.size ∧ ks.length ≤ c ∧ c ≤ maxLen := by
  obtain ⟨h1, cur, hr, _, h2, h3, _⟩ := own_row h.own
  exact ⟨h1, hr.lt, h2, h3⟩
theorem Held.gLt (h : Held tS tE k w B G L c ks) : G < w.heap.size := h.row.lt
theorem Held.ne (h : Held tS tE k w B G L c ks) (ht : tS ≠ tE) : G ≠ L := by
  obtain ⟨_, cur, hr, _⟩ := own_row h.own
  exact h.row.ne_type hr ht
theorem Held.turns {w' : World} {S : List Nat} (h : Held tS tE k w B G L c ks) (ht : Turns w w' S) (hG : G ∉ S) (hL : L ∉ S) : Held tS tE k w' B G L c ks :=
  ⟨h.hG, ht.row h.row hG, ht.own h.own (fun g hg => by injection hg with hg; subst hg; exact hL)⟩
theorem Held.below {w' : World} (h : Held tS tE k w B G L c ks) (hb : Below w.heap.size w w') : Held tS tE k w' B G L c ks := h.turns (Turns.of_below hb []) (by simp) (by simp)
theorem Held.alloc (h : Held tS tE k w B G L c ks) (o : Obj) : Held tS tE k (w.alloc o) B G L c ks := h.below ((Below.refl _ _).alloc (Nat.le_refl _) o)
theorem Held.drewN (h : Held tS tE k w B G L c ks) (n : Nat) : Held tS tE k (w.drewN n) B G L c ks := ⟨h.hG, h.row, h.own⟩
theorem Held.put (h : Held tS tE k w B G L c ks) (ht : tS ≠ tE) (i x : Nat) (hi : i < ks.length) : Held tS tE k (w.setCell ⟨L, i, none⟩ (.int k (x : Int))) B G L c (ks.set i x) :=
  ⟨h.hG, by rw [List.length_set]; exact h.row.far (h.ne ht) _, by rw [List.length_set]; exact own_put h.own i x hi⟩
theorem Held.mono {B' : Nat} (h : Held tS tE k w B G L c ks) (hB : B' ≤ B) : Held tS tE k w B' G L c ks := ⟨Nat.le_trans hB h.hG, h.row, own_mono h.own hB⟩
/-- The field is given another row. -/
theorem Held.field {L' c' : Nat} {ks' : List Nat} (h : Held tS tE k w B G L c ks) (ho : w.ownsRow B tE 1 (.slice (some ⟨L', 0, none⟩) ks'.length c') ks'.length (intsV k ks')) (ht : tS ≠ tE) :
    Held tS tE k (w.setCell ⟨G, 0, none⟩ (.slice (some ⟨L', 0, none⟩) ks'.length c')) B G L' c' ks' := by
  obtain ⟨_, cur, hr, _⟩ := own_row ho
  refine ⟨h.hG, ?_, own_far ho (by simpa using h.row.ne_type hr ht) _⟩
  have := h.row.put 0 (.slice (some ⟨L', 0, none⟩) ks'.length c')
  simpa using this
end
end Go.Proofs.Ytfipmpajdkgffaa

namespace Go.Proofs.Ytfipmpajdkgffaa
open Go.RowKit
set_option linter.unusedVariables false
set_option linter.unusedSimpArgs false

theorem i64_or_nat (a b : Nat) (ha : a < 9223372036854775808) (hb : b < 9223372036854775808) : bits .or .i64 (a : Int) (b : Int) = ((a ||| b : Nat) : Int) := by
  have hx : a ||| b < 2 ^ 63 := Nat.or_lt_two_pow (by omega) (by omega)
  show IntKind.i64.wrap ((BitVec.ofInt 64 (a : Int) ||| BitVec.ofInt 64 (b : Int)).toNat : Int) = _
  rw [BitVec.toNat_or, ofInt_u64 a (by omega), ofInt_u64 b (by omega)]
  rw [IntKind.wrap_i64]; omega
theorem or_place (b p : Nat) (hb : b < 16777215) (hp : p < 256) : bits .or .i64 ((b : Int) * 256) (p : Int) = ((b * 256 + p : Nat) : Int) := by
  have h := i64_or_nat (b * 256) p (by omega) (by omega)
  rw [nat_join 8 (b * 256) p (by omega) (by omega)] at h
  rw [← h]; congr 1
set_option maxHeartbeats 1000000 in
theorem number_any (b p : Nat) (hb : b < 16777215) (hp : p < 256) (w : World) :
    Calls Try.prog 24 #[.agg #[.int .i64 b, .int .i64 p]] w fun e w' => e = .returned (.int .u32 (b * 256 + p + 1 : Nat)) ∧ Below w.heap.size w w' := by
  have HO := Lib.hid (or_place b p hb hp)
  go_enter Try.func24, Try.ntmps24
  go_wp2
  go_ret
  refine ⟨?_, by (repeat (first | (with_reducible refine Below.drew ?_) | (with_reducible refine below_drewN0 ?_ _) | ((with_reducible refine Below.setCell ?_ ?_ _); rotate_left; focus (first | omega | (simp; done) | (simp; omega) | (simp at *; omega))) | ((with_reducible refine Below.alloc ?_ ?_ _); rotate_left; focus (first | omega | (simp; done) | (simp; omega) | (simp at *; omega))) | (with_reducible exact Below.refl _ _)))⟩
  show Ending.returned (Value.int .u32 _) = _
  rw [HO.out]
  congr 2
  omega
set_option maxHeartbeats 1000000 in
theorem place_any (v : Nat) (hv : 1 ≤ v ∧ v < 4294967296) (w : World) :
    Calls Try.prog 27 #[.int .u32 v] w fun e w' => e = .returned (.agg #[.int .i64 ((v - 1) / 256 : Nat), .int .i64 ((v - 1) % 256 : Nat)]) ∧ Below w.heap.size w w' := by
  have HO : Hid (bits .and .u32 ((v : Int) - 1) 255 = (((v - 1) % 256 : Nat) : Int)) := by
    have h := u32_and_nat (v - 1) 255 (by omega) (by omega)
    rw [nat_mask8] at h
    unfold Hid
    rw [← h]; congr 1
    omega
  go_enter Try.func27, Try.ntmps27
  obtain ⟨x, hx⟩ : ∃ x, bits .and .u32 ((v : Int) - 1) 255 = x := ⟨_, rfl⟩
  have hx2 : x = (((v - 1) % 256 : Nat) : Int) := hx.symm.trans HO.out
  go_wp2
  have e1 : ((v : Int) - 1) / 256 = (((v - 1) / 256 : Nat) : Int) := by omega
  have e2 : ((v - 1 : Nat) : Int) % 256 = (((v - 1) % 256 : Nat) : Int) := by omega
  exact bodyPost_ret (v := .agg #[.int .i64 (((v : Int) - 1) / 256), .int .i64 (((v - 1 : Nat) : Int) % 256)]) (results_cell_row rfl _ _ w.heap.size 28 _ (0, 0) _ rfl (Row.fresh _ _ _) Try.underlying28 rfl (by kernel_rfl)) rfl ⟨by rw [e1, e2], by (repeat (first | (with_reducible refine Below.drew ?_) | (with_reducible refine below_drewN0 ?_ _) | ((with_reducible refine Below.setCell ?_ ?_ _); rotate_left; focus (first | omega | (simp; done) | (simp; omega) | (simp at *; omega))) | ((with_reducible refine Below.alloc ?_ ?_ _); rotate_left; focus (first | omega | (simp; done) | (simp; omega) | (simp at *; omega))) | (with_reducible exact Below.refl _ _)))⟩
theorem num_join (a b c d : Nat) (ha : a < 256) (hb : b < 256) (hc : c < 256) (hd : d < 256) :
    bits .or .u32 (bits .or .u32 (bits .or .u32 ((a : Int) % 4294967296) ((b : Int) % 4294967296 * 256 % 4294967296)) ((c : Int) % 4294967296 * 65536 % 4294967296)) ((d : Int) % 4294967296 * 16777216 % 4294967296) = ((a + 256 * b + 65536 * c + 16777216 * d : Nat) : Int) := by
  rw [show (a : Int) % 4294967296 = ((a : Nat) : Int) by omega, show (b : Int) % 4294967296 * 256 % 4294967296 = ((b * 256 : Nat) : Int) by omega, show (c : Int) % 4294967296 * 65536 % 4294967296 = ((c * 65536 : Nat) : Int) by omega, show (d : Int) % 4294967296 * 16777216 % 4294967296 = ((d * 16777216 : Nat) : Int) by omega]
  rw [u32_or_nat a _ (by omega) (by omega), Nat.or_comm, nat_join 8 (b * 256) a (by omega) (by omega), u32_or_nat _ _ (by omega) (by omega), Nat.or_comm, nat_join 16 (c * 65536) _ (by omega) (by omega), u32_or_nat _ _ (by omega) (by omega), Nat.or_comm, nat_join 24 (d * 16777216) _ (by omega) (by omega)]
  congr 1; omega
theorem getD_lt {b : List Nat} (hb : ∀ u ∈ b, u < 256) (i : Nat) : b.getD i 0 < 256 := by
  rw [List.getD_eq_getElem?_getD]
  cases h : b[i]? with
  | none => simp
  | some u => exact hb u (List.mem_of_getElem? h)
set_option maxHeartbeats 1000000 in
theorem get_any (n c : Nat) (b : List Nat) (i : Nat) (hn : 4 ≤ n) (hb : ∀ u ∈ b, u < 256) (w : World) (g off : Nat) (q : ∀ j, j < 4 → w.cell? ⟨g, off + j, none⟩ = some (.int .u8 (b.getD (i + j) 0))) :
    Calls Try.prog 26 #[.slice (some ⟨g, off, none⟩) n c] w fun e w' => e = .returned (.int .u32 (num4 b i)) ∧ ∃ k, w' = w.drewN k := by
  have q0 := q 0 (by omega)
  have q1 := q 1 (by omega)
  have q2 := q 2 (by omega)
  have q3 := q 3 (by omega)
  simp only [Nat.add_zero] at q0
  have HJ := Lib.hid (num_join _ _ _ _ (getD_lt hb i) (getD_lt hb (i + 1)) (getD_lt hb (i + 2)) (getD_lt hb (i + 3)))
  have HN : Hid (num4 b i = b.getD i 0 + 256 * b.getD (i + 1) 0 + 65536 * b.getD (i + 2) 0 + 16777216 * b.getD (i + 3) 0) := rfl
  rw [HN.out]
  clear HN
  generalize b.getD i 0 = x0 at *
  generalize b.getD (i + 1) 0 = x1 at *
  generalize b.getD (i + 2) 0 = x2 at *
  generalize b.getD (i + 3) 0 = x3 at *
  clear q
  go_enter Try.func26, Try.ntmps26
  go_wp2
  go_quiet (fail)
  go_wp2
  go_ret
  exact ⟨by rw [← HJ.out]; rfl, ⟨_, rfl⟩⟩
set_option maxHeartbeats 1000000 in
theorem right_aux (b p : Int) (r : Bool) (hr : r = decide (0 ≤ b ∧ b < 1024 ∧ 0 ≤ p ∧ p < 256)) (w : World) : Calls Try.prog 22 #[.agg #[.int .i64 b, .int .i64 p]] w fun e w' => e = .returned (.bool r) ∧ Below w.heap.size w w' := by
  have HB : Hid (Below w.heap.size w (w.alloc (.cells #[.int .i64 b, .int .i64 p] 28))) := by unfold Hid; (repeat (first | (with_reducible refine Below.drew ?_) | (with_reducible refine below_drewN0 ?_ _) | ((with_reducible refine Below.setCell ?_ ?_ _); rotate_left; focus (first | omega | (simp; done) | (simp; omega) | (simp at *; omega))) | ((with_reducible refine Below.alloc ?_ ?_ _); rotate_left; focus (first | omega | (simp; done) | (simp; omega) | (simp at *; omega))) | (with_reducible exact Below.refl _ _)))
  by_cases h1 : 0 ≤ b
  · by_cases h2 : b < 1024
    · by_cases h3 : 0 ≤ p
      · by_cases h4 : p < 256
        · obtain rfl : r = true := hr.trans (decide_eq_true ⟨h1, h2, h3, h4⟩)
          clear hr
          go_enter Try.func22, Try.ntmps22
          go_wp2
          go_ret
          exact ⟨rfl, HB.out⟩
        · obtain rfl : r = false := hr.trans (decide_eq_false (fun h => h4 h.2.2.2))
          clear hr
          go_enter Try.func22, Try.ntmps22
          go_wp2
          go_ret
          exact ⟨rfl, HB.out⟩
      · obtain rfl : r = false := hr.trans (decide_eq_false (fun h => h3 h.2.2.1))
        clear hr
        go_enter Try.func22, Try.ntmps22
        go_wp2
        go_ret
        exact ⟨rfl, HB.out⟩
    · obtain rfl : r = false := hr.trans (decide_eq_false (fun h => h2 h.2.1))
      clear hr
      go_enter Try.func22, Try.ntmps22
      go_wp2
      go_ret
      exact ⟨rfl, HB.out⟩
  · obtain rfl : r = false := hr.trans (decide_eq_false (fun h => h1 h.1))
    clear hr
    go_enter Try.func22, Try.ntmps22
    go_wp2
    go_ret
    exact ⟨rfl, HB.out⟩
theorem right_any (b p : Int) (w : World) : Calls Try.prog 22 #[.agg #[.int .i64 b, .int .i64 p]] w fun e w' => e = .returned (.bool (decide (0 ≤ b ∧ b < 1024 ∧ 0 ≤ p ∧ p < 256))) ∧ Below w.heap.size w w' := right_aux b p _ rfl w
set_option maxHeartbeats 1000000 in
theorem may_any (v : Nat) (hv : v < 4294967296) (w : World) : Calls Try.prog 40 #[.int .u32 v] w fun e w' => e = .returned (.bool (decide (v ≤ 262144))) ∧ Below w.heap.size w w' := by
  by_cases h0 : v = 0
  · subst h0
    go_enter Try.func40, Try.ntmps40
    go_wp2
    go_ret
    exact ⟨rfl, Below.refl _ _⟩
  · have HPl := Lib.hid (place_any v (by omega) w)
    have h1 : ¬ (v : Int) = 0 := by omega
    have h2 : ((v : Int) == 0) = false := beq_eq_false_iff_ne.2 h1
    have HE : Hid (decide (0 ≤ (((v - 1) / 256 : Nat) : Int) ∧ (((v - 1) / 256 : Nat) : Int) < 1024 ∧ 0 ≤ (((v - 1) % 256 : Nat) : Int) ∧ (((v - 1) % 256 : Nat) : Int) < 256) = decide (v ≤ 262144)) := by
      unfold Hid
      exact decide_eq_decide.2 (by omega)
    go_enter Try.func40, Try.ntmps40
    go_wp2_with fail
    refine HPl.out.mono ?_
    rintro e w1 ⟨rfl, hb⟩
    have HB := Lib.hid hb
    have HR := Lib.hid (right_any ((v - 1) / 256 : Nat) ((v - 1) % 256 : Nat) w1)
    rw [HE.out] at HR
    clear hb HPl HE
    generalize (v - 1) / 256 = x at *
    generalize (v - 1) % 256 = y at *
    go_wp2_with fail
    refine HR.out.mono ?_
    rintro e w2 ⟨rfl, hb⟩
    have HB2 := Lib.hid (HB.out.trans (hb.mono HB.out.size))
    clear hb HR
    go_wp2
    go_ret
    exact ⟨by first | rfl | (simp; done), HB2.out⟩
/-- Cells in which a number's bytes are laid, k of them. -/
def putk (cs : Array Value) (off v : Nat) : Nat → Array Value
  | 0 => cs
  | k + 1 => (putk cs off v k).setIfInBounds (off + k) (.int .u8 (v / 256 ^ k % 256 : Nat))
theorem putk_size (cs : Array Value) (off v k : Nat) : (putk cs off v k).size = cs.size := by
  induction k with
  | zero => rfl
  | succ k ih => simp [putk, ih]
theorem putk_get (cs : Array Value) (off v k i : Nat) (hk : off + k ≤ cs.size) : (putk cs off v k)[i]? = if off ≤ i ∧ i < off + k then some (.int .u8 (v / 256 ^ (i - off) % 256 : Nat)) else cs[i]? := by
  induction k with
  | zero => rw [if_neg (by omega)]; rfl
  | succ k ih =>
    rw [putk, Array.getElem?_setIfInBounds, putk_size]
    by_cases h : off + k = i
    · subst h
      rw [if_pos rfl, if_pos (by omega), if_pos ⟨by omega, by omega⟩, show off + k - off = k by omega]
    · rw [if_neg h, ih (by omega)]
      by_cases h2 : off ≤ i ∧ i < off + k
      · rw [if_pos h2, if_pos ⟨h2.1, by omega⟩]
      · rw [if_neg h2, if_neg (by omega)]
set_option maxHeartbeats 1000000 in
theorem put_any (g off n c v : Nat) (cs : Array Value) (hn : 4 ≤ n) (hv : v < 4294967296) (hc : off + 4 ≤ cs.size) (w : World) (hr : Row w g 5 cs) :
    Calls Try.prog 37 #[.slice (some ⟨g, off, none⟩) n c, .int .u32 v] w fun e w' => (∃ v, e = .returned v) ∧ Row w' g 5 (putk cs off v 4) ∧ Turns w w' [g] := by
  have HR := Lib.hid hr
  clear hr
  go_enter Try.func37, Try.ntmps37
  go_wp2
  go_loopw [4, 5] (fun a i wr => ∃ k : Nat, i = .int .i64 k ∧ k ≤ 4 ∧ Row wr g 5 (putk cs off v k) ∧ Turns w wr [g]) (fun _ i _ => 4 - (intOf i).toNat)
  case atStart => exact ⟨0, rfl, by omega, HR.out, Turns.refl _ _⟩
  case round =>
    obtain ⟨k, rfl, hk, hr, ht⟩ := hrel
    by_cases hk4 : k < 4
    · have HRk := Lib.hid hr
      have HT := Lib.hid ht
      have hsz : off + k < (putk cs off v k).size := by rw [putk_size]; omega
      have q := (hr.cell (off + k)).trans (Array.getElem?_eq_getElem hsz)
      have f := hr.frozen (off + k)
      generalize (putk cs off v k)[off + k] = x at q
      clear hr ht
      have HV : Hid ((v : Int) / 2 ^ (8 * k) % 256 = ((v / 256 ^ k % 256 : Nat) : Int)) := by
        unfold Hid
        rw [show (256 : Nat) ^ k = 2 ^ (8 * k) by rw [Nat.pow_mul], Int.natCast_emod, Int.natCast_ediv, Int.natCast_pow]; rfl
      have HRn : Hid (Row (wr.setCell ⟨g, off + k, none⟩ (.int .u8 (v / 256 ^ k % 256 : Nat))) g 5 (putk cs off v (k + 1))) := HRk.out.put (off + k) _
      have HTn : Hid (Turns w (wr.setCell ⟨g, off + k, none⟩ (.int .u8 (v / 256 ^ k % 256 : Nat))) [g]) := HT.out.setCell (by simp) _
      go_wp2
      go_roundw
      case rel => exact ⟨k + 1, by go_num, by omega, by rw [HV.out]; exact HRn.out, by rw [HV.out]; exact HTn.out⟩
      case measure => simp [intOf]; omega
    · obtain rfl : k = 4 := by omega
      have HRk := Lib.hid hr
      have HT := Lib.hid ht
      clear hr ht
      go_wp2
      go_end0
      exact ⟨⟨_, rfl⟩, HRk.out, HT.out⟩
end Go.Proofs.Ytfipmpajdkgffaa

namespace Go.Proofs.Ytfipmpajdkgffaa
open Go.RowKit Go.MapKept Go.ChangeMaps
open Go.Maps (Keyed)
set_option linter.unusedVariables false
set_option linter.unusedSimpArgs false

/-- f, but v at key. -/
noncomputable def updK {α : Type} (f : Value → Option α) (key : Value) (v : Option α) : Value → Option α := fun x => open Classical in if x = key then v else f x
theorem updK_same {α : Type} (f : Value → Option α) (key : Value) (v : Option α) : updK f key v key = v := by simp [updK]
theorem updK_ne {α : Type} (f : Value → Option α) (key : Value) (v : Option α) {x : Value} (h : x ≠ key) : updK f key v x = f x := by simp [updK, h]

/-- Block b of w is a map of n entries; f tells what stands at a key. -/
def MapIs (P : Program) (k : TypeId) (w : World) (b n : Nat) (f : Value → Option Value) : Prop :=
  ∃ es clock, w.heap[b]? = some (.map es clock) ∧ Stamped es clock ∧ es.size = n ∧ (∀ x ∈ es.toList, ∃ l, keyOf P k x.key = some l) ∧ ∀ key v, f key = some v ↔ ∃ x ∈ es.toList, x.key = key ∧ x.val = v
section
variable {P : Program} {k : TypeId} {w : World} {b n : Nat} {f : Value → Option Value}
theorem MapIs.lt (h : MapIs P k w b n f) : b < w.heap.size := by
  obtain ⟨es, clock, hb, _⟩ := h
  exact (Array.getElem?_eq_some_iff.1 hb).1
theorem MapIs.block {w' : World} (h : MapIs P k w b n f) (hb : w'.heap[b]? = w.heap[b]?) : MapIs P k w' b n f := by
  obtain ⟨es, clock, h1, h2⟩ := h
  exact ⟨es, clock, hb.trans h1, h2⟩
theorem MapIs.turns {w' : World} {S : List Nat} (h : MapIs P k w b n f) (ht : Turns w w' S) (hb : b ∉ S) : MapIs P k w' b n f := h.block (ht.block b h.lt hb)
theorem MapIs.fresh (P : Program) (k : TypeId) (w : World) : MapIs P k (w.alloc (.map #[] 0)) w.heap.size 0 (fun _ => none) :=
  ⟨#[], 0, heap_alloc_new w _, stamped_empty 0, rfl, by simp, by simp⟩
theorem MapIs.none_of {key : Value} (h : f key = none) {es : Array MapEntry} (hf : ∀ key v, f key = some v ↔ ∃ x ∈ es.toList, x.key = key ∧ x.val = v) : ∀ x ∈ es.toList, x.key ≠ key := fun x hx e => by
  have := (hf key x.val).2 ⟨x, hx, e, rfl⟩
  rw [h] at this; cases this

/-- The entry at a key, or none. -/
theorem MapIs.find (K : Keyed P k) {es : Array MapEntry} (hk : ∀ x ∈ es.toList, ∃ l, keyOf P k x.key = some l) (hf : ∀ key v, f key = some v ↔ ∃ x ∈ es.toList, x.key = key ∧ x.val = v) {key : Value} {kl : Lit} (hkey : keyOf P k key = some kl) (w : World) :
    (f key = none ∧ (Instr.findKey k key es.toList).run P w = .ok none w ∧ ∀ x ∈ es.toList, x.key ≠ key) ∨
    ∃ j e, f key = some e.val ∧ (Instr.findKey k key es.toList).run P w = .ok (some (j, e.val)) w ∧ es.toList[j]? = some e ∧ e.key = key := by
  rcases K.find w hkey es.toList hk with ⟨h1, h2⟩ | ⟨j, e, h1, h2, h3⟩
  · refine .inl ⟨?_, h1, h2⟩
    cases hc : f key with
    | none => rfl
    | some v =>
      obtain ⟨x, hx, e, _⟩ := (hf key v).1 hc
      exact absurd e (h2 x hx)
  · exact .inr ⟨j, e, (hf key e.val).2 ⟨e, List.mem_of_getElem? h2, h3, rfl⟩, h1, h2, h3⟩

theorem MapIs.look {t e : TypeId} (h : MapIs P k w b n f) (K : Keyed P k) (ht : P.underlying t = some (.map k e)) {z : Value} (hz : (zeroValue e).run P w = .ok z w) {key : Value} {kl : Lit} (hkey : keyOf P k key = some kl) :
    (Instr.lookup t (.map (some b)) key false).run P w = .ok ((f key).getD z) w ∧
    (Instr.lookup t (.map (some b)) key true).run P w = .ok (.tuple #[(f key).getD z, .bool (f key).isSome]) w := by
  obtain ⟨es, clock, hb, hs, hn, hk, hf⟩ := h
  rcases MapIs.find K hk hf hkey w with ⟨h0, h1, h2⟩ | ⟨j, e0, h0, h1, h2, h3⟩
  · rw [h0]
    constructor <;> simp [Instr.lookup, run_underlying ht, MapKept.run_getObj_map hb, K.check w _ hkey, h1, hz, Result.andThen]
  · rw [h0]
    constructor <;> simp [Instr.lookup, run_underlying ht, MapKept.run_getObj_map hb, K.check w _ hkey, h1, Result.andThen]

theorem grown_setBlock {w : World} {b : Nat} {es : Array MapEntry} {clock : Nat} (hb : w.heap[b]? = some (.map es clock)) (o : Obj) : w.grownBy (setBlock w b o) (some b) :=
  ⟨rfl, rfl, rfl, by simp [setBlock], fun i _ hi => heap_setBlock_other hb _ (fun e => hi (by rw [e]))⟩
theorem mem_set_other {es : Array MapEntry} {clock : Nat} (hs : Stamped es clock) {j : Nat} {e0 e1 : MapEntry} (h2 : es.toList[j]? = some e0) (x : MapEntry) : x ∈ es.toList.set j e1 ↔ x = e1 ∨ (x ∈ es.toList ∧ x.key ≠ e0.key) := by
  have hn : es.toList.Pairwise (fun x y => x.key ≠ y.key) := ((stamped_iff es clock).1 hs).2.2
  obtain ⟨hj, ej⟩ := List.getElem?_eq_some_iff.1 h2
  constructor
  · intro hx
    obtain ⟨i, hi, ex⟩ := List.getElem_of_mem hx
    rw [List.getElem_set] at ex
    split at ex
    · exact .inl ex.symm
    · rename_i hne
      have hi' : i < es.toList.length := by simpa using hi
      refine .inr ⟨ex ▸ List.getElem_mem hi', ?_⟩
      rw [← ex, ← ej]
      rcases Nat.lt_or_gt_of_ne hne with h | h
      · exact (List.pairwise_iff_getElem.1 hn j i hj hi' h).symm
      · exact List.pairwise_iff_getElem.1 hn i j hi' hj h
  · rintro (rfl | ⟨hx, hne⟩)
    · exact List.mem_iff_getElem.2 ⟨j, by simpa using hj, by simp⟩
    · obtain ⟨i, hi, ex⟩ := List.getElem_of_mem hx
      have hij : i ≠ j := by rintro rfl; rw [ej] at ex; exact hne (by rw [ex])
      exact List.mem_iff_getElem.2 ⟨i, by simpa using hi, by rw [List.getElem_set_ne (Ne.symm hij)]; exact ex⟩

/-- What stands behind a put at a key: the same in each way that Go writes it. -/
theorem MapIs.put_entries (K : Keyed P k) {es : Array MapEntry} {clock : Nat} (hs : Stamped es clock) (hk : ∀ x ∈ es.toList, ∃ l, keyOf P k x.key = some l) (hf : ∀ key v, f key = some v ↔ ∃ x ∈ es.toList, x.key = key ∧ x.val = v)
    {key val : Value} {kl : Lit} (hkey : keyOf P k key = some kl) {j : Nat} {e0 : MapEntry} (h2 : es.toList[j]? = some e0) (h3 : e0.key = key) :
    Stamped (es.modify j fun e => { e with key := key, val := val }) clock ∧ (∀ x ∈ (es.modify j fun e => { e with key := key, val := val }).toList, ∃ l, keyOf P k x.key = some l) ∧
    ∀ key' v, updK f key (some val) key' = some v ↔ ∃ x ∈ (es.modify j fun e => { e with key := key, val := val }).toList, x.key = key' ∧ x.val = v := by
  have hj : es[j]? = some e0 := by simpa using h2
  have hkeyf : ∀ e', es[j]? = some e' → ({ e' with key := key, val := val } : MapEntry).key = e'.key := fun e' he' => by rw [hj] at he'; cases he'; exact h3.symm
  have hlist : (es.modify j (fun e' => { e' with key := key, val := val })).toList = es.toList.set j { e0 with key := key, val := val } := by rw [Array.toList_modify, modify_eq_set _ _ _ _ h2]
  refine ⟨stamped_modify hs _ _ (fun _ _ => rfl) (fun e' _ he' => hkeyf e' he'), ?_, ?_⟩
  · intro x hx
    rw [hlist, mem_set_other hs h2] at hx
    rcases hx with rfl | ⟨hx, _⟩
    · exact ⟨kl, hkey⟩
    · exact hk x hx
  · intro key' v
    rw [hlist]
    by_cases he : key' = key
    · subst he
      rw [updK_same]
      constructor
      · rintro h; injection h with h; subst h
        exact ⟨{ e0 with key := key', val := val }, (mem_set_other hs h2 _).2 (.inl rfl), rfl, rfl⟩
      · rintro ⟨x, hx, e1, e2⟩
        rcases (mem_set_other hs h2 _).1 hx with rfl | ⟨_, hne⟩
        · rw [← e2]
        · rw [h3] at hne; exact absurd e1 hne
    · rw [updK_ne _ _ _ he, hf]
      constructor
      · rintro ⟨x, hx, e1, e2⟩
        exact ⟨x, (mem_set_other hs h2 _).2 (.inr ⟨hx, by rw [h3, e1]; exact he⟩), e1, e2⟩
      · rintro ⟨x, hx, e1, e2⟩
        rcases (mem_set_other hs h2 _).1 hx with rfl | ⟨hx, _⟩
        · exact absurd e1.symm he
        · exact ⟨x, hx, e1, e2⟩
theorem MapIs.push_entries (K : Keyed P k) {es : Array MapEntry} {clock : Nat} (hs : Stamped es clock) (hk : ∀ x ∈ es.toList, ∃ l, keyOf P k x.key = some l) (hf : ∀ key v, f key = some v ↔ ∃ x ∈ es.toList, x.key = key ∧ x.val = v)
    {key val : Value} {kl : Lit} (hkey : keyOf P k key = some kl) (h2 : ∀ x ∈ es.toList, x.key ≠ key) :
    Stamped (es.push { key, val, born := clock }) (clock + 1) ∧ (∀ x ∈ (es.push { key, val, born := clock }).toList, ∃ l, keyOf P k x.key = some l) ∧
    ∀ key' v, updK f key (some val) key' = some v ↔ ∃ x ∈ (es.push { key, val, born := clock }).toList, x.key = key' ∧ x.val = v := by
  refine ⟨stamped_push hs h2, ?_, ?_⟩
  · intro x hx
    simp only [Array.toList_push, List.mem_append, List.mem_singleton] at hx
    rcases hx with hx | rfl
    · exact hk x hx
    · exact ⟨kl, hkey⟩
  · intro key' v
    simp only [Array.toList_push, List.mem_append, List.mem_singleton]
    by_cases he : key' = key
    · subst he
      rw [updK_same]
      constructor
      · rintro h; injection h with h; subst h
        exact ⟨_, .inr rfl, rfl, rfl⟩
      · rintro ⟨x, hx | rfl, e1, e2⟩
        · exact absurd e1 (h2 x hx)
        · rw [← e2]
    · rw [updK_ne _ _ _ he, hf]
      constructor
      · rintro ⟨x, hx, e1, e2⟩
        exact ⟨x, .inl hx, e1, e2⟩
      · rintro ⟨x, hx | rfl, e1, e2⟩
        · exact ⟨x, hx, e1, e2⟩
        · exact absurd e1.symm he

theorem MapIs.update {t e : TypeId} (h : MapIs P k w b n f) (K : Keyed P k) (ht : P.underlying t = some (.map k e)) {key val : Value} {kl : Lit} (hkey : keyOf P k key = some kl) :
    ∃ w', (Instr.mapUpdate t (.map (some b)) key val).run P w = .ok () w' ∧ MapIs P k w' b (if (f key).isSome then n else n + 1) (updK f key (some val)) ∧ w.grownBy w' (some b) := by
  obtain ⟨es, clock, hb, hs, hn, hk, hf⟩ := h
  rcases MapIs.find K hk hf hkey w with ⟨h0, h1, h2⟩ | ⟨j, e0, h0, h1, h2, h3⟩
  · refine ⟨setBlock w b (.map (es.push { key, val, born := clock }) (clock + 1)), ?_, ?_, grown_setBlock hb _⟩
    · simp [Instr.mapUpdate, run_underlying ht, MapKept.run_getObj_map hb, K.check w false hkey, h1, MapKept.run_setObj_map _ hb, Result.andThen, setBlock]
    · obtain ⟨p1, p2, p3⟩ := MapIs.push_entries (val := val) K hs hk hf hkey h2
      exact ⟨_, _, heap_setBlock_same hb _, p1, by rw [h0]; simp [hn], p2, p3⟩
  · have hj : es[j]? = some e0 := by simpa using h2
    refine ⟨setBlock w b (.map (es.modify j (fun e' => { e' with key := key, val := val })) clock), ?_, ?_, grown_setBlock hb _⟩
    · simp [Instr.mapUpdate, run_underlying ht, MapKept.run_getObj_map hb, K.check w false hkey, h1, hj, h3, K.stays w hkey, MapKept.run_setObj_map _ hb, Result.andThen, setBlock]
    · obtain ⟨p1, p2, p3⟩ := MapIs.put_entries (val := val) K hs hk hf hkey h2 h3
      exact ⟨_, _, heap_setBlock_same hb _, p1, by rw [h0]; simp [hn], p2, p3⟩

theorem find_born {es : Array MapEntry} {clock : Nat} (hs : Stamped es clock) {j : Nat} {e0 : MapEntry} (hj : es[j]? = some e0) : es.findIdx? (fun e => (e.born : Int) == (e0.born : Int)) = some j := by
  obtain ⟨hlt, ej⟩ := Array.getElem?_eq_some_iff.1 hj
  rw [Array.findIdx?_eq_some_iff_getElem]
  refine ⟨hlt, by rw [ej]; simp, fun i hi => ?_⟩
  have hnd := ((stamped_iff es clock).1 hs).2.1
  have hne : es[i].born ≠ es[j].born := by
    have hp := List.pairwise_iff_getElem.1 hnd i j (by simp; omega) (by simpa using hlt) hi
    simpa using hp
  rw [ej] at hne
  simp; omega
theorem run_entryStore {w1 : World} {es : Array MapEntry} {clock : Nat} (hb1 : w1.heap[b]? = some (.map es clock)) (hs : Stamped es clock) {j : Nat} {e0 : MapEntry} (hj : es[j]? = some e0) (t : TypeId) (val : Value) :
    (Instr.entryStore t (.map (some b)) (.int .i64 (e0.born : Nat)) val).run P w1 = .ok () (setBlock w1 b (.map (es.modify j fun e => { e with val := val }) clock)) := by
  simp [Instr.entryStore, MapKept.run_getObj_map hb1, Result.andThen, asInt, asIntOf, find_born hs hj, MapKept.run_setObj_map _ hb1, setBlock]
theorem modify_key {es : Array MapEntry} {j : Nat} {e0 : MapEntry} (hj : es.toList[j]? = some e0) {key : Value} (h3 : e0.key = key) (val : Value) : (es.modify j fun e => { e with val := val }) = es.modify j fun e => { e with key := key, val := val } := by
  apply Array.toList_inj.1
  rw [Array.toList_modify, Array.toList_modify, modify_eq_set _ _ _ _ hj, modify_eq_set _ _ _ _ hj, h3]
theorem modify_same {es : Array MapEntry} {j : Nat} {e0 : MapEntry} (hj : es.toList[j]? = some e0) {key : Value} (h3 : e0.key = key) : (es.modify j fun e => { e with key := key }) = es := by
  apply Array.toList_inj.1
  rw [Array.toList_modify, modify_eq_set _ _ _ _ hj, ← h3]
  obtain ⟨hl, e⟩ := List.getElem?_eq_some_iff.1 hj
  show es.toList.set j e0 = es.toList
  rw [← e]
  exact List.set_getElem_self hl
theorem updK_twice {α : Type} (f : Value → Option α) (key : Value) (u v : Option α) : updK (updK f key u) key v = updK f key v := by
  funext x
  by_cases h : x = key
  · subst h; rw [updK_same, updK_same]
  · rw [updK_ne _ _ _ h, updK_ne _ _ _ h, updK_ne _ _ _ h]
theorem grown_twice {a b' c : World} {r : Option Nat} (h : a.grownBy b' r) (h' : b'.grownBy c r) : a.grownBy c r :=
  ⟨h'.os.trans h.os, h'.tape.trans h.tape, h'.output.trans h.output, Nat.le_trans h.size h'.size, fun i hi hne => (h'.block i (Nat.lt_of_lt_of_le hi h.size) hne).trans (h.block i hi hne)⟩
/-- 'm[k] op= v': the entry first, then what it holds. -/
theorem MapIs.entry {t e : TypeId} (h : MapIs P k w b n f) (K : Keyed P k) (ht : P.underlying t = some (.map k e)) {z : Value} (hz : (zeroValue e).run P w = .ok z w) {key : Value} {kl : Lit} (hkey : keyOf P k key = some kl) :
    ∃ (st : Nat) (w1 : World), (Instr.mapEntry t (.map (some b)) key).run P w = .ok (.tuple #[(f key).getD z, .int .i64 st]) w1 ∧ w.grownBy w1 (some b) ∧ MapIs P k w1 b (if (f key).isSome then n else n + 1) (if (f key).isSome then f else updK f key (some z)) ∧
      ∀ val, ∃ w2, (Instr.entryStore t (.map (some b)) (.int .i64 st) val).run P w1 = .ok () w2 ∧ MapIs P k w2 b (if (f key).isSome then n else n + 1) (updK f key (some val)) ∧ w.grownBy w2 (some b) := by
  obtain ⟨es, clock, hb, hs, hn, hk, hf⟩ := h
  rcases MapIs.find K hk hf hkey w with ⟨h0, h1, h2⟩ | ⟨j, e0, h0, h1, h2, h3⟩
  · have hb1 := heap_setBlock_same hb (.map (es.push { key, val := z, born := clock }) (clock + 1))
    obtain ⟨p1, p2, p3⟩ := MapIs.push_entries (val := z) K hs hk hf hkey h2
    have hpj : (es.push { key, val := z, born := clock })[es.size]? = some { key, val := z, born := clock } := by simp
    have hpl : (es.push { key, val := z, born := clock }).toList[es.size]? = some { key, val := z, born := clock } := by rw [Array.getElem?_toList]; exact hpj
    refine ⟨clock, setBlock w b (.map (es.push { key, val := z, born := clock }) (clock + 1)), ?_, grown_setBlock hb _, ⟨_, _, hb1, p1, by rw [h0]; simp [hn], p2, by rw [h0]; simpa using p3⟩, fun val => ?_⟩
    · simp [Instr.mapEntry, run_underlying ht, MapKept.run_getObj_map hb, K.check w false hkey, h1, hz, MapKept.run_setObj_map _ hb, Result.andThen, setBlock, h0, goInt]
    · have hr := run_entryStore (P := P) hb1 p1 hpj t val
      rw [modify_key hpl rfl] at hr
      obtain ⟨q1, q2, q3⟩ := MapIs.put_entries (val := val) K p1 p2 p3 hkey hpl rfl
      refine ⟨_, hr, ⟨_, _, heap_setBlock_same hb1 _, q1, by rw [h0]; simp [hn], q2, ?_⟩, grown_twice (grown_setBlock hb _) (grown_setBlock hb1 _)⟩
      rw [updK_twice] at q3
      exact q3
  · have hj : es[j]? = some e0 := by simpa using h2
    have hb1 := heap_setBlock_same hb (.map es clock)
    refine ⟨e0.born, setBlock w b (.map es clock), ?_, grown_setBlock hb _, ⟨_, _, hb1, hs, by rw [h0]; simp [hn], hk, by rw [h0]; simpa using hf⟩, fun val => ?_⟩
    · have hm := modify_same h2 h3
      simp [Instr.mapEntry, run_underlying ht, MapKept.run_getObj_map hb, K.check w false hkey, h1, hj, h3, K.stays w hkey, MapKept.run_setObj_map _ hb, Result.andThen, setBlock, h0, goInt, hm]
    · have hr := run_entryStore (P := P) hb1 hs hj t val
      rw [modify_key h2 h3] at hr
      obtain ⟨q1, q2, q3⟩ := MapIs.put_entries (val := val) K hs hk hf hkey h2 h3
      exact ⟨_, hr, ⟨_, _, heap_setBlock_same hb1 _, q1, by rw [h0]; simp [hn], q2, q3⟩, grown_twice (grown_setBlock hb _) (grown_setBlock hb1 _)⟩

theorem MapIs.delete {t e ty : TypeId} (h : MapIs P k w b n f) (K : Keyed P k) (ht : P.underlying t = some (.map k e)) {key : Value} {kl : Lit} (hkey : keyOf P k key = some kl) :
    ∃ w', (Builtin.delete_ #[t, k] ty #[.map (some b), key]).run P w = .ok (.tuple #[]) w' ∧ MapIs P k w' b (if (f key).isSome then n - 1 else n) (updK f key none) ∧ w.grownBy w' (some b) := by
  obtain ⟨es, clock, hb, hs, hn, hk, hf⟩ := h
  rcases MapIs.find K hk hf hkey w with ⟨h0, h1, h2⟩ | ⟨j, e0, h0, h1, h2, h3⟩
  · refine ⟨setBlock w b (.map es clock), ?_, ⟨es, clock, heap_setBlock_same hb _, hs, by rw [h0]; simp [hn], hk, fun key' v => ?_⟩, grown_setBlock hb _⟩
    · simp [Builtin.delete_, run_underlying ht, MapKept.run_getObj_map hb, K.check w _ hkey, h1, MapKept.run_setObj_map _ hb, Result.andThen, setBlock]
    · by_cases he : key' = key
      · subst he
        rw [updK_same]
        constructor
        · intro h; cases h
        · rintro ⟨x, hx, e1, _⟩; exact absurd e1 (h2 x hx)
      · rw [updK_ne _ _ _ he]; exact hf key' v
  · have hjl : j < es.toList.length := (List.getElem?_eq_some_iff.1 h2).1
    have hjs : j < es.size := by simpa using hjl
    have hsub : (es.eraseIdxIfInBounds j).toList = es.toList.eraseIdx j := by
      unfold Array.eraseIdxIfInBounds
      rw [dif_pos hjs]
      simp
    have hmem : ∀ x, x ∈ es.toList.eraseIdx j ↔ x ∈ es.toList ∧ x.key ≠ key := by
      intro x
      have hn' : es.toList.Pairwise (fun x y => x.key ≠ y.key) := ((stamped_iff es clock).1 hs).2.2
      obtain ⟨_, ej⟩ := List.getElem?_eq_some_iff.1 h2
      constructor
      · intro hx
        obtain ⟨i, hne, hi⟩ := List.mem_eraseIdx_iff_getElem?.1 hx
        obtain ⟨hi', ei⟩ := List.getElem?_eq_some_iff.1 hi
        refine ⟨List.mem_of_getElem? hi, ?_⟩
        rw [← h3, ← ei, ← ej]
        rcases Nat.lt_or_gt_of_ne hne with h | h
        · exact List.pairwise_iff_getElem.1 hn' i j hi' hjl h
        · exact (List.pairwise_iff_getElem.1 hn' j i hjl hi' h).symm
      · rintro ⟨hx, hne⟩
        obtain ⟨i, hi⟩ := List.mem_iff_getElem?.1 hx
        refine List.mem_eraseIdx_iff_getElem?.2 ⟨i, ?_, hi⟩
        rintro rfl
        rw [h2] at hi; injection hi with hi
        exact hne (by rw [← hi]; exact h3)
    refine ⟨setBlock w b (.map (es.eraseIdxIfInBounds j) clock), ?_, ⟨_, clock, heap_setBlock_same hb _, stamped_erase hs j, ?_, ?_, fun key' v => ?_⟩, grown_setBlock hb _⟩
    · simp [Builtin.delete_, run_underlying ht, MapKept.run_getObj_map hb, K.check w _ hkey, h1, MapKept.run_setObj_map _ hb, Result.andThen, setBlock]
    · rw [h0]
      have h9 : (es.eraseIdxIfInBounds j).toList.length = es.toList.length - 1 := by rw [hsub, List.length_eraseIdx, if_pos hjl]
      rw [Array.length_toList, Array.length_toList, hn] at h9
      simpa using h9
    · intro x hx
      rw [hsub, hmem] at hx
      exact hk x hx.1
    · rw [hsub]
      by_cases he : key' = key
      · subst he
        rw [updK_same]
        constructor
        · intro h; cases h
        · rintro ⟨x, hx, e1, _⟩; exact absurd e1 ((hmem x).1 hx).2
      · rw [updK_ne _ _ _ he, hf]
        constructor
        · rintro ⟨x, hx, e1, e2⟩
          exact ⟨x, (hmem x).2 ⟨hx, by rw [e1]; exact he⟩, e1, e2⟩
        · rintro ⟨x, hx, e1, e2⟩
          exact ⟨x, ((hmem x).1 hx).1, e1, e2⟩
theorem MapIs.clear {t e ty : TypeId} (h : MapIs P k w b n f) (ht : P.underlying t = some (.map k e)) :
    ∃ w', (Builtin.clear_ #[t] ty #[.map (some b)]).run P w = .ok (.tuple #[]) w' ∧ MapIs P k w' b 0 (fun _ => none) ∧ w.grownBy w' (some b) := by
  obtain ⟨es, clock, hb, hs, hn, hk, hf⟩ := h
  refine ⟨setBlock w b (.map #[] clock), ?_, ⟨#[], clock, heap_setBlock_same hb _, stamped_empty _, rfl, by simp, by simp⟩, grown_setBlock hb _⟩
  simp [Builtin.clear_, run_underlying ht, MapKept.run_getObj_map hb, MapKept.run_setObj_map _ hb, Result.andThen, setBlock]
theorem MapIs.len {t e ty : TypeId} (h : MapIs P k w b n f) (ht : P.underlying t = some (.map k e)) : (Builtin.len_ #[t] ty #[.map (some b)]).run P w = .ok (goInt n) w := by
  obtain ⟨es, clock, hb, hs, hn, hk, hf⟩ := h
  subst hn
  simp [Builtin.len_, run_underlying ht, MapKept.run_getObj_map hb, Result.andThen, Builtin.lenOf]
end
end Go.Proofs.Ytfipmpajdkgffaa

namespace Go.Proofs.Ytfipmpajdkgffaa
open Go.RowKit Go.MapKept Go.ChangeMaps
open Go.Maps (Keyed)
set_option linter.unusedVariables false
set_option linter.unusedSimpArgs false

/-- A part in memory. -/
structure Pt where
  b : List Nat
  d : Bool
  u : Int
/-- A map. -/
structure Sm where
  sectors : Nat
  page : Nat
  held : Nat
  parts : Nat → Option Pt
  cnt : Nat
  dir : Nat → Nat
  clock : Int
def Sm.each (S : Sm) : Nat := S.page / 4
def Sm.np (S : Sm) : Nat := (S.sectors - 1) / S.each + 1
/-- A shelf. -/
structure Sh where
  L : List (List Nat)
  N : List Int
  full : Int
def updP (parts : Nat → Option Pt) (n : Nat) (x : Option Pt) : Nat → Option Pt := fun m => if m = n then x else parts m
theorem updP_same (parts : Nat → Option Pt) (n : Nat) (x : Option Pt) : updP parts n x n = x := by simp [updP]
theorem updP_ne {parts : Nat → Option Pt} {n m : Nat} {x : Option Pt} (h : m ≠ n) : updP parts n x m = parts m := by simp [updP, h]
abbrev nk (n : Nat) : Value := .int .i64 n
theorem intKeyed : Keyed Try.prog 3 := Go.Maps.int_keyed Try.underlying3
theorem nk_inj {a b : Nat} (h : nk a = nk b) : a = b := by
  have : (a : Int) = (b : Int) := by simpa [nk] using h
  omega
abbrev blkOf (v : Value) : List Nat := v.ownBlock.toList
theorem turns_grown {w w' : World} {v : Value} (h : w.grownBy w' v.ownBlock) : Turns w w' (blkOf v) :=
  ⟨h.os, h.tape, h.output, h.size, fun k hk hn => h.block k hk (fun e => hn (by unfold blkOf; rw [← e]; simp))⟩
theorem own_blkOf {w : World} {B : Nat} {e : TypeId} {sz n : Nat} {v : Value} {xs : List Value} (h : w.ownsRow B e sz v n xs) {k : Nat} (hk : k ∈ blkOf v) : B ≤ k ∧ k < w.heap.size ∧ ∃ cs, Row w k e cs := by
  rcases h.2 with ⟨e1, _⟩ | ⟨g', cap, cur, e1, hb, h1, _⟩
  · rw [e1] at hk; cases hk
  · rw [e1] at hk
    obtain rfl : k = g' := by simpa [blkOf, Value.ownBlock] using hk
    exact ⟨hb, Row.lt h1, cur, h1⟩
/-- A part's row, its bytes. -/
structure PtAt (w : World) (Pb bb page : Nat) (x : Pt) : Prop where
  row : ∃ cap, Row w Pb 75 #[.slice (some ⟨bb, 0, none⟩) page cap, .bool x.d, .int .i64 x.u] ∧ page ≤ cap
  bytes : ∃ cs : Array Value, Row w bb 5 cs ∧ page ≤ cs.size ∧ ∀ i, i < page → cs[i]? = some (.int .u8 (x.b.getD i 0))
  len : x.b.length = page
  small : ∀ u ∈ x.b, u < 256
/-- A shelf's rows. -/
structure ShIs (w : World) (Sb : Nat) (T F : List Nat) (sh : Sh) : Prop where
  at' : ∃ (v1 v2 : Value) (xs : List Value), Row w Sb 56 #[v1, v2, .int .i64 sh.full] ∧ w.ownsRow 0 43 1 v1 sh.L.length xs ∧ w.ownsRow 0 3 1 v2 sh.N.length (sh.N.map fun n => .int .i64 n) ∧
    (∀ k ∈ blkOf v1, k ∈ T) ∧ (∀ k ∈ blkOf v2, k ∈ T) ∧ ∀ (i : Nat) (d : List Nat), sh.L[i]? = some d → ∃ A c, xs[i]? = some (.slice A d.length c) ∧ Cells8 w A d ∧ ∀ a, A = some a → 0 < d.length → a.block ∈ F
  mem : Sb ∈ T
  small : ∀ d ∈ sh.L, ∀ u ∈ d, u < 256
  same : sh.N.length = sh.L.length
/-- A map's rows. -/
structure SmAt (w : World) (Mb Sb Q Db : Nat) (P pb : Nat → Nat) (T F : List Nat) (S : Sm) (sh : Sh) : Prop where
  row : Row w Mb 66 #[.int .i64 S.sectors, .int .i64 S.page, .int .i64 S.held, .iface 33 (.pointer (some ⟨Sb, 0, none⟩)), .map (some Q), .slice (some ⟨Db, 0, none⟩) S.np S.np, .int .i64 S.clock]
  dir : ∃ cs : Array Value, Row w Db 68 cs ∧ cs.size = S.np ∧ ∀ n, n < S.np → cs[n]? = some (.int .u32 (S.dir n)) ∧ S.dir n < 4294967296
  map : ∃ f, MapIs Try.prog 3 w Q S.cnt f ∧ ∀ key v, f key = some v ↔ ∃ n x, S.parts n = some x ∧ key = nk n ∧ v = .pointer (some ⟨P n, 0, none⟩)
  part : ∀ n x, S.parts n = some x → n < S.np ∧ PtAt w (P n) (pb n) S.page x ∧ P n ∈ T ∧ pb n ∈ T
  inj : ∀ n m, n ≠ m → (S.parts n).isSome = true → (S.parts m).isSome = true → P n ≠ P m ∧ pb n ≠ pb m
  shelf : ShIs w Sb T F sh
  mem : Mb ∈ T ∧ Q ∈ T ∧ Db ∈ T
  apart : ∀ k ∈ F, k ∉ T
  lt : ∀ k, k ∈ T ∨ k ∈ F → k < w.heap.size
  sh : 1 ≤ S.sectors ∧ S.sectors ≤ 4294967296 ∧ (16 ≤ S.page ∧ S.page ≤ 4096 ∧ S.page % 4 = 0) ∧ 1 ≤ S.held ∧ S.held ≤ 4096
section
variable {w w' : World} {Mb Sb Q Db : Nat} {P pb : Nat → Nat} {T F T2 : List Nat} {S : Sm} {sh : Sh}
theorem PtAt.keep {Pb bb page : Nat} {x : Pt} (h : PtAt w Pb bb page x) (ht : Turns w w' T2) (h1 : Pb ∉ T2) (h2 : bb ∉ T2) : PtAt w' Pb bb page x := by
  obtain ⟨⟨cap, hr, hc⟩, ⟨cs, hb, hs, hi⟩, h3, h4⟩ := h
  exact ⟨⟨cap, ht.row hr h1, hc⟩, ⟨cs, ht.row hb h2, hs, hi⟩, h3, h4⟩
theorem cells8_turns {A : Option Addr} {l : List Nat} (h : Cells8 w A l) (ht : Turns w w' T2) (hn : ∀ a, A = some a → 0 < l.length → a.block ∉ T2) : Cells8 w' A l := fun i hi => by
  obtain ⟨b, off, e, hc⟩ := h i hi
  exact ⟨b, off, e, ht.cell hc (hn ⟨b, off, none⟩ e (by omega))⟩
theorem ShIs.keep (h : ShIs w Sb T F sh) (ht : Turns w w' T2) (hT : ∀ k ∈ T2, k ∉ T ∧ k ∉ F) : ShIs w' Sb T F sh := by
  obtain ⟨⟨v1, v2, xs, h1, h2, h3, h4, h5, h6⟩, hm, hs, he⟩ := h
  refine ⟨⟨v1, v2, xs, ht.row h1 (fun hk => (hT _ hk).1 hm), ht.own h2 (fun g hg hk => (hT _ hk).1 (h4 g (by unfold blkOf; rw [hg]; simp))), ht.own h3 (fun g hg hk => (hT _ hk).1 (h5 g (by unfold blkOf; rw [hg]; simp))), h4, h5, fun i d hd => ?_⟩, hm, hs, he⟩
  obtain ⟨A, c, h7, h8, h9⟩ := h6 i d hd
  exact ⟨A, c, h7, cells8_turns h8 ht (fun a e h0 hk => (hT _ hk).2 (h9 a e h0)), h9⟩
/-- What is not the map's has turned. -/
theorem SmAt.keep (h : SmAt w Mb Sb Q Db P pb T F S sh) (ht : Turns w w' T2) (hT : ∀ k ∈ T2, k ∉ T ∧ k ∉ F) : SmAt w' Mb Sb Q Db P pb T F S sh := by
  obtain ⟨cs, d1, d2, d3⟩ := h.dir
  obtain ⟨f, m1, m2⟩ := h.map
  exact ⟨ht.row h.row (fun hk => (hT _ hk).1 h.mem.1), ⟨cs, ht.row d1 (fun hk => (hT _ hk).1 h.mem.2.2), d2, d3⟩, ⟨f, m1.turns ht (fun hk => (hT _ hk).1 h.mem.2.1), m2⟩,
    fun n x hx => by obtain ⟨a, b, c, d⟩ := h.part n x hx; exact ⟨a, b.keep ht (fun hk => (hT _ hk).1 c) (fun hk => (hT _ hk).1 d), c, d⟩, h.inj, h.shelf.keep ht hT, h.mem, h.apart, fun k hk => Nat.lt_of_lt_of_le (h.lt k hk) ht.size, h.sh⟩
theorem SmAt.below (h : SmAt w Mb Sb Q Db P pb T F S sh) (hb : Below w.heap.size w w') : SmAt w' Mb Sb Q Db P pb T F S sh := h.keep (Turns.of_below hb []) (by simp)
/-- The blocks' kinds: none of a map's is another's. -/
theorem SmAt.kinds (h : SmAt w Mb Sb Q Db P pb T F S sh) : (Mb ≠ Q ∧ Mb ≠ Db ∧ Mb ≠ Sb ∧ Q ≠ Db ∧ Q ≠ Sb ∧ Db ≠ Sb) ∧ ∀ n x, S.parts n = some x → (P n ≠ Mb ∧ P n ≠ Q ∧ P n ≠ Db ∧ P n ≠ Sb) ∧ (pb n ≠ Mb ∧ pb n ≠ Q ∧ pb n ≠ Db ∧ pb n ≠ Sb) ∧ ∀ m y, S.parts m = some y → P n ≠ pb m := by
  obtain ⟨cs, d1, _⟩ := h.dir
  obtain ⟨f, ⟨es, clock, m1, _⟩, _⟩ := h.map
  obtain ⟨v1, v2, xs, s1, _⟩ := h.shelf.at'
  have nq : ∀ g ty cs, Row w g ty cs → g ≠ Q := fun g ty cs hr e => by
    subst e; unfold Row at hr; rw [hr] at m1; cases m1
  refine ⟨⟨nq _ _ _ h.row, Row.ne_type h.row d1 (by decide), Row.ne_type h.row s1 (by decide), Ne.symm (nq _ _ _ d1), Ne.symm (nq _ _ _ s1), Row.ne_type d1 s1 (by decide)⟩, fun n x hx => ?_⟩
  obtain ⟨_, ⟨⟨cap, pr, _⟩, ⟨bs, br, _⟩, _, _⟩, _, _⟩ := h.part n x hx
  refine ⟨⟨Row.ne_type pr h.row (by decide), nq _ _ _ pr, Row.ne_type pr d1 (by decide), Row.ne_type pr s1 (by decide)⟩, ⟨Row.ne_type br h.row (by decide), nq _ _ _ br, Row.ne_type br d1 (by decide), Row.ne_type br s1 (by decide)⟩, fun m y hy => ?_⟩
  obtain ⟨_, ⟨_, ⟨bs', br', _⟩, _, _⟩, _, _⟩ := h.part m y hy
  exact Row.ne_type pr br' (by decide)
end
/-- A map, wherever it lies. -/
def SmIs (w : World) (Mb Sb : Nat) (T F : List Nat) (S : Sm) (sh : Sh) : Prop := ∃ Q Db P pb, SmAt w Mb Sb Q Db P pb T F S sh
/-- A map that has gone on: its blocks are of those, or new. -/
def SmTo (w w' : World) (Mb Sb : Nat) (T F : List Nat) (S : Sm) (sh : Sh) : Prop := ∃ T' F', SmIs w' Mb Sb T' F' S sh ∧ Turns w w' T ∧ (∀ k ∈ T', k ∈ T ∨ w.heap.size ≤ k) ∧ (∀ k ∈ F', k ∈ F ∨ w.heap.size ≤ k)
theorem SmIs.keep {w w' : World} {Mb Sb : Nat} {T F T2 : List Nat} {S : Sm} {sh : Sh} (h : SmIs w Mb Sb T F S sh) (ht : Turns w w' T2) (hT : ∀ k ∈ T2, k ∉ T ∧ k ∉ F) : SmIs w' Mb Sb T F S sh := by
  obtain ⟨Q, Db, P, pb, h⟩ := h
  exact ⟨Q, Db, P, pb, h.keep ht hT⟩
theorem SmIs.to {w w' : World} {Mb Sb : Nat} {T F : List Nat} {S : Sm} {sh : Sh} (h : SmIs w Mb Sb T F S sh) (hb : Below w.heap.size w w') : SmTo w w' Mb Sb T F S sh :=
  ⟨T, F, h.keep (Turns.of_below hb []) (by simp), Turns.of_below hb T, fun k hk => .inl hk, fun k hk => .inl hk⟩
theorem SmTo.after {w w1 : World} {Mb Sb : Nat} {T F : List Nat} {S : Sm} {sh : Sh} {R : Prop} (h : SmTo w w1 Mb Sb T F S sh) (hr : ∀ T' F', SmIs w1 Mb Sb T' F' S sh → (∀ (w2 : World) (S2 : Sm) (sh2 : Sh), SmTo w1 w2 Mb Sb T' F' S2 sh2 → SmTo w w2 Mb Sb T F S2 sh2) → R) : R := by
  obtain ⟨T', F', h1, h2, h3, h4⟩ := h
  refine hr T' F' h1 (fun w2 S2 sh2 ⟨T2, F2, g1, g2, g3, g4⟩ => ⟨T2, F2, g1, h2.trans g2 h3, fun k hk => ?_, fun k hk => ?_⟩)
  · rcases g3 k hk with h | h
    · exact h3 k h
    · exact .inr (Nat.le_trans h2.size h)
  · rcases g4 k hk with h | h
    · exact h4 k h
    · exact .inr (Nat.le_trans h2.size h)
end Go.Proofs.Ytfipmpajdkgffaa

namespace Go.Proofs.Ytfipmpajdkgffaa
open Go.RowKit Go.MapKept Go.ChangeMaps
set_option linter.unusedVariables false
set_option linter.unusedSimpArgs false

theorem bytes_info : (Try.prog.info? 5).map (fun i => (i.zero, i.size, i.bytes)) = some (some (.int .u8 0), 1, 1) := by kernel_rfl
theorem bs_info : (Try.prog.info? 43).map (fun i => (i.zero, i.size, i.bytes)) = some (some (.slice none 0 0), 1, 24) := by kernel_rfl
theorem int_info : (Try.prog.info? 3).map (fun i => (i.zero, i.size, i.bytes)) = some (some (.int .i64 0), 1, 8) := by kernel_rfl
def sh0 : Sh := ⟨[], [], -1⟩
theorem src_one {w : World} {t : TypeId} {u : Value} : Src (w.alloc (.cells #[u] t)) 1 (some ⟨w.heap.size, 0, none⟩) 1 [u] :=
  Src.of_at rfl (fun j v hv => by
    rw [addr_add, Nat.zero_add, (Row.fresh w t #[u]).cell]
    simpa using hv)
theorem own_cells8 {w : World} {B : Nat} {A : Option Addr} {n c : Nat} {l : List Nat} (h : w.ownsRow B 5 1 (.slice A n c) n (intsV .u8 l)) (hn : n = l.length) : Cells8 w A l ∧ ∀ a, A = some a → B ≤ a.block ∧ ∃ cs, Row w a.block 5 cs := by
  rcases h.2 with ⟨e1, h0⟩ | ⟨g, cap, cur, e1, hb, hr, h1, h2, h3, h4⟩
  · injection e1 with e1 e2 e3
    subst e1
    refine ⟨fun i hi => by omega, fun a e => by cases e⟩
  · injection e1 with e1 e2 e3
    subst e1
    refine ⟨fun i hi => ⟨g, 0, rfl, ?_⟩, fun a e => ?_⟩
    · rw [(show Row w g _ cur from hr).cell, Nat.zero_add]
      have h5 := intsV_get .u8 l i hi
      rw [← h4, List.getElem?_take, if_pos (by omega)] at h5
      simpa using h5
    · injection e with e
      subst e
      exact ⟨hb, cur, hr⟩
theorem NewShelf_any (w : World) : Calls Try.prog 15 #[] w fun e w' => e = .returned (.pointer (some ⟨w.heap.size, 0, none⟩)) ∧ ShIs w' w.heap.size [w.heap.size] [] sh0 ∧ Below w.heap.size w w' := by
  go_enter Try.func15, Try.ntmps15
  go_wp2
  go_ret
  exact ⟨rfl, ⟨⟨.slice none 0 0, .slice none 0 0, [], Row.fresh _ _ _, World.ownsRow_nil _ _ _ _, World.ownsRow_nil _ _ _ _, by simp [blkOf, Value.ownBlock], by simp [blkOf, Value.ownBlock], by simp [sh0]⟩, by simp, by simp [sh0], rfl⟩, by (repeat (first | (with_reducible refine Below.drew ?_) | (with_reducible refine below_drewN0 ?_ _) | ((with_reducible refine Below.setCell ?_ ?_ _); rotate_left; focus (first | omega | (simp; done) | (simp; omega) | (simp at *; omega))) | ((with_reducible refine Below.alloc ?_ ?_ _); rotate_left; focus (first | omega | (simp; done) | (simp; omega) | (simp at *; omega))) | (with_reducible exact Below.refl _ _)))⟩
/-- Put, where there is room. -/
def Sh.put (sh : Sh) (n : Int) (b : List Nat) : Sh := ⟨sh.L ++ [b], sh.N ++ [n], if 0 < sh.full then sh.full - 1 else sh.full⟩
theorem put_results (tmps : Array Value) (w : World) (g : Nat) (a b e : Int) (h6 : tmps.getD 6 undef = .pointer (some ⟨g, 0, none⟩)) (h7 : tmps.getD 7 undef = .int .i64 e) (hr : Row w g 28 #[.int .i64 a, .int .i64 b]) :
    (results Try.f36 tmps).run Try.prog w = .ok (.tuple #[.agg #[.int .i64 a, .int .i64 b], .int .i64 e]) w := by
  have h6' : tmps[6]?.getD undef = .pointer (some ⟨g, 0, none⟩) := by simpa using h6
  have h7' : tmps[7]?.getD undef = .int .i64 e := by simpa using h7
  have c0 := hr.cell 0
  have c1 := hr.cell 1
  simp only [List.getElem?_toArray, List.getElem?_cons_zero, List.getElem?_cons_succ] at c0 c1
  simp [results, Try.results36, asAddr, h6', h7', go_sem, c0, c1]
theorem ShPut_full (w : World) (Sb : Nat) (n : Int) (A : Option Addr) (m c : Nat) (q2 : w.cell? ⟨Sb, 2, none⟩ = some (.int .i64 0)) :
    Calls Try.prog 36 #[.pointer (some ⟨Sb, 0, none⟩), .int .i64 n, .slice A m c] w fun e w' => e = .returned (.tuple #[.agg #[.int .i64 0, .int .i64 0], .int .i64 3]) ∧ Below w.heap.size w w' := by
  have q2' : (w.alloc (.cells #[.int .i64 0, .int .i64 0] 28)).cell? ⟨Sb, 2, none⟩ = some (.int .i64 0) := (World.cell?_alloc_lt _ _ _ (World.block_lt_of_cell? w _ q2)).trans q2
  have HR : Hid (Row (w.alloc (.cells #[.int .i64 0, .int .i64 0] 28)) w.heap.size 28 #[.int .i64 0, .int .i64 0]) := Row.fresh _ _ _
  clear q2
  go_enter Try.func36, Try.ntmps36
  go_wp2
  exact bodyPost_ret (v := .tuple #[.agg #[.int .i64 0, .int .i64 0], .int .i64 3]) (put_results _ _ w.heap.size 0 0 3 rfl rfl HR.out) rfl ⟨rfl, by (repeat (first | (with_reducible refine Below.drew ?_) | (with_reducible refine below_drewN0 ?_ _) | ((with_reducible refine Below.setCell ?_ ?_ _); rotate_left; focus (first | omega | (simp; done) | (simp; omega) | (simp at *; omega))) | ((with_reducible refine Below.alloc ?_ ?_ _); rotate_left; focus (first | omega | (simp; done) | (simp; omega) | (simp at *; omega))) | (with_reducible exact Below.refl _ _)))⟩
set_option maxRecDepth 100000 in
set_option maxHeartbeats 4000000 in
theorem ShPut_room (w : World) (Sb : Nat) (T F : List Nat) (sh : Sh) (h : ShIs w Sb T F sh) (hTF : ∀ k ∈ F, k ∉ T) (n : Int) (A : Option Addr) (c : Nat) (b : List Nat) (hb : ∀ u ∈ b, u < 256) (hs : Cells8 w A b) (hbl : b.length ≤ 65536) (hl : sh.L.length ≤ 1048576) (hfull : -1 ≤ sh.full ∧ sh.full ≤ 1048576 ∧ sh.full ≠ 0) (hlt : ∀ k, k ∈ T ∨ k ∈ F → k < w.heap.size) (hA : ∀ a, A = some a → 0 < b.length → a.block ∉ T) :
    Calls Try.prog 36 #[.pointer (some ⟨Sb, 0, none⟩), .int .i64 n, .slice A b.length c] w fun e w' =>
      e = .returned (.tuple #[.agg #[.int .i64 (sh.L.length / 256 : Nat), .int .i64 (sh.L.length % 256 : Nat)], .int .i64 0]) ∧
        ∃ T' F', ShIs w' Sb T' F' (sh.put n b) ∧ Turns w w' T ∧ (∀ k ∈ T', k ∈ T ∨ w.heap.size ≤ k) ∧ (∀ k ∈ F', k ∈ F ∨ w.heap.size ≤ k) ∧ (∀ k ∈ T, k ∈ T') ∧ (∀ k ∈ F, k ∈ F') ∧ (∀ k ∈ F', k ∉ T') ∧ ∀ k, k ∈ T' ∨ k ∈ F' → k < w'.heap.size := by
  obtain ⟨i0, ji, jz0, jz1, jz2⟩ := info_parts bytes_info
  obtain ⟨i1, ki, kz0, kz1, kz2⟩ := info_parts bs_info
  obtain ⟨i2, li, lz0, lz1, lz2⟩ := info_parts int_info
  obtain ⟨v1, v2, xs, h1, h2, h3, h4, h5, h6⟩ := h.at'
  have HSm := Lib.hid h.small
  have HSa := Lib.hid h.same
  have hNl : sh.N.length ≤ 1048576 := by rw [h.same]; exact hl
  have HMe := Lib.hid h.mem
  obtain ⟨w1, hw1⟩ : ∃ w1, w1 = w.alloc (.cells #[.int .i64 0, .int .i64 0] 28) := ⟨_, rfl⟩
  have HB1 : Hid (Below w.heap.size w w1) := by unfold Hid; rw [hw1]; (repeat (first | (with_reducible refine Below.drew ?_) | (with_reducible refine below_drewN0 ?_ _) | ((with_reducible refine Below.setCell ?_ ?_ _); rotate_left; focus (first | omega | (simp; done) | (simp; omega) | (simp at *; omega))) | ((with_reducible refine Below.alloc ?_ ?_ _); rotate_left; focus (first | omega | (simp; done) | (simp; omega) | (simp at *; omega))) | (with_reducible exact Below.refl _ _)))
  have HZ1 : Hid (Row w1 w.heap.size 28 #[.int .i64 0, .int .i64 0]) := by unfold Hid; rw [hw1]; exact Row.fresh _ _ _
  have HR1 := Lib.hid (h1.below HB1.out h1.lt)
  have q2 := HR1.out.cell 2
  have f2 := HR1.out.frozen 2
  simp only [List.getElem?_toArray, List.getElem?_cons_zero, List.getElem?_cons_succ] at q2
  obtain ⟨fl, hfl⟩ : ∃ fl, fl = sh.full := ⟨_, rfl⟩
  have HFl := Lib.hid hfl
  rw [← hfl] at q2 hfull
  obtain ⟨hf1, hf2, hf3⟩ := hfull
  have HW1 := Lib.hid hw1
  have HO1 := Lib.hid h2
  have HO2 := Lib.hid h3
  have HT1 := Lib.hid h4
  have HT2 := Lib.hid h5
  have HXs := Lib.hid h6
  have HCs := Lib.hid hs
  have HSr := Lib.hid h1
  have HA := Lib.hid hA
  have HLt := Lib.hid hlt
  have HBy := Lib.hid hb
  have HTF := Lib.hid hTF
  rw [hw1] at q2 f2
  clear h1 h2 h3 h4 h5 h6 h hfl hw1 hs hb hTF hA hlt
  obtain ⟨lL, hlL⟩ : ∃ l, l = sh.L.length := ⟨_, rfl⟩
  have HlL := Lib.hid hlL
  rw [← hlL] at HO1 hl ⊢
  obtain ⟨bl, hbl'⟩ : ∃ l, l = b.length := ⟨_, rfl⟩
  have HBl := Lib.hid hbl'
  rw [← hbl'] at hbl HA ⊢
  clear hlL hbl'
  by_cases hf : 0 < fl
  · obtain ⟨fn, hfn⟩ : ∃ fn, fn = fl - 1 := ⟨_, rfl⟩
    obtain ⟨wp, hwp⟩ : ∃ wp, wp = w1.setCell ⟨Sb, 2, none⟩ (.int .i64 (fl - 1)) := ⟨_, rfl⟩
    have HRp : Hid (Row wp Sb 56 #[v1, v2, .int .i64 fn]) := by unfold Hid; rw [hwp, hfn]; simpa using HR1.out.put 2 (.int .i64 (fl - 1))
    have HTp : Hid (Turns w wp [Sb]) := by unfold Hid; rw [hwp]; exact (Turns.of_below HB1.out [Sb]).setCell (by simp) _
    have HZp : Hid (Row wp w.heap.size 28 #[.int .i64 0, .int .i64 0]) := by
      unfold Hid; rw [hwp]
      exact ((Turns.refl w1 [Sb]).setCell (p := ⟨Sb, 2, none⟩) (by simp) (.int .i64 (fl - 1))).row HZ1.out (by simp; exact Row.ne_type HZ1.out HR1.out (by decide))
    have HFn : Hid (fn = (sh.put n b).full) := by unfold Hid Sh.put; rw [hfn, HFl.out]; rw [HFl.out] at hf; simp [hf]
    have HWp := Lib.hid hwp
    rw [HW1.out] at HWp
    clear hwp hfn
    go_enter Try.func36, Try.ntmps36
    go_wp2_with fail
    rw [← HWp.out]
    clear q2 f2 HWp HW1 HB1 HZ1 HR1
    have HO1p : Hid (wp.ownsRow 0 43 1 v1 lL xs) := HTp.out.own HO1.out (fun g hg hm => by
      obtain ⟨_, _, cs, hr⟩ := own_blkOf HO1.out (k := g) (by unfold blkOf; rw [hg]; simp)
      have h1 := HTp.out.size
      rw [List.mem_singleton.1 hm] at hr
      exact Row.ne_type hr HSr.out (by decide) rfl)
    have HO2p : Hid (wp.ownsRow 0 3 1 v2 sh.N.length (sh.N.map fun n => .int .i64 n)) := HTp.out.own HO2.out (fun g hg hm => by
      obtain ⟨_, _, cs, hr⟩ := own_blkOf HO2.out (k := g) (by unfold blkOf; rw [hg]; simp)
      rw [List.mem_singleton.1 hm] at hr
      exact Row.ne_type hr HSr.out (by decide) rfl)
    have HCp : Hid (Cells8 wp A b) := cells8_turns HCs.out HTp.out (fun a e h0 hm => HA.out a e (by rw [HBl.out]; exact h0) (by rw [List.mem_singleton.1 hm]; exact HMe.out))
    have hSb1 : Sb ∉ blkOf v1 := fun hm => by obtain ⟨_, _, cs, hr⟩ := own_blkOf HO1p.out hm; exact Row.ne_type hr HRp.out (by decide) rfl
    have k1 : ∀ t : Kept wp (blkOf v1), t.u.cell? ⟨Sb, 0, none⟩ = some v1 := fun t => (t.h.row HRp.out hSb1).cell 0
    obtain ⟨Av, cv, rfl, _, _⟩ := own_shape HO1p.out
    (refine region_kept (blkOf (.slice Av lL cv)) [0, 1, 2, 3, 4, 6] [5, 7, 8, 9, 10, 11, 12] (by kernel_rfl) (by kernel_rfl) (fun _ _ _ _ _ h => h) ?_; simp only [List.filterMap_cons, List.getElem?_cons_zero, List.getElem?_cons_succ, List.filterMap_nil]; (repeat ((show wpQuiet _ _ _ _ (_ :: _) _); go_big_quiet_step (fail))); refine wpQuiet_nil ?_)
    clear k1
    have HB3 : Hid (Below wp.heap.size wp (wp.drew.alloc (.cells #[] 5))) := by unfold Hid; (repeat (first | (with_reducible refine Below.drew ?_) | (with_reducible refine below_drewN0 ?_ _) | ((with_reducible refine Below.setCell ?_ ?_ _); rotate_left; focus (first | omega | (simp; done) | (simp; omega) | (simp at *; omega))) | ((with_reducible refine Below.alloc ?_ ?_ _); rotate_left; focus (first | omega | (simp; done) | (simp; omega) | (simp at *; omega))) | (with_reducible exact Below.refl _ _)))
    have HO3 : Hid ((wp.drew.alloc (.cells #[] 5)).ownsRow wp.heap.size 5 1 (.slice (some ⟨wp.heap.size, 0, none⟩) 0 0) 0 []) := World.ownsRow_made (base := wp.heap.size) (size := 1) (e := 5) wp.drew #[] 0 (Nat.le_refl _) (Nat.zero_le _) rfl
    have HS3 : Hid (Src (wp.drew.alloc (.cells #[] 5)) 1 A bl (intsV .u8 b)) := by rw [HBl.out]; exact Src.bytes (HCp.out.keep (keep_below HB3.out))
    refine wpSeqS_step ?_
    go_wp2_with fail
    refine outQ_normal (Turns.of_below HB3.out _) ?_
    refine wpSeqS_step (wpList_append_src _ rfl (.tmp 32) (.tmp 33) 43 rfl wp.heap.size 5 i0 (.int .u8 0) 1 1 Try.underlying43 ji jz0 jz1 jz2 rfl (by decide) (.slice (some ⟨wp.heap.size, 0, none⟩) 0 0) 0 [] rfl HO3.out A bl c _ rfl HS3.out (intsV_one .u8 b) (by unfold maxLen; omega) (by omega) HB3.out.size ?_)
    intro v4 w4 hown hgrow hat
    rw [Nat.zero_add, List.nil_append] at hown
    obtain ⟨A4, c4, rfl, _, _⟩ := own_shape hown
    have HB4 : Hid (Below wp.heap.size wp w4) := HB3.out.grown hgrow HB3.out.size (fun k hk => by
      have : wp.heap.size = k := by injection hk
      omega)
    have HD4 := Lib.hid hown
    clear hown hgrow hat HO3 HS3
    refine wpList_nil (outQ_normal (Turns.of_below HB4.out _) ?_)
    refine wpSeqS_step ?_
    go_wp2_with fail
    have HB5 : Hid (Below wp.heap.size wp (w4.alloc (.cells #[.slice A4 bl c4] 43))) := HB4.out.alloc HB4.out.size _
    have HO5 := Lib.hid (own_below HO1p.out HB5.out)
    have HD5 := Lib.hid (own_below HD4.out ((Below.refl w4.heap.size w4).alloc (Nat.le_refl _) (.cells #[.slice A4 bl c4] 43)))
    have HS5 := Lib.hid (src_one (w := w4) (t := 43) (u := .slice A4 bl c4))
    refine outQ_normal (Turns.of_below HB5.out _) ?_
    refine wpSeqS_step (wpList_append_src _ rfl (.tmp 31) (.tmp 35) 53 rfl 0 43 i1 _ 1 24 Try.underlying53 ki kz0 kz1 kz2 rfl (by decide) (.slice Av lL cv) lL xs rfl HO5.out (some ⟨w4.heap.size, 0, none⟩) 1 1 _ rfl HS5.out (by intro u hu; rw [List.mem_singleton.1 hu]; rfl) (by unfold maxLen; omega) (by omega) (Nat.zero_le _) ?_)
    intro v6 w6 hown hgrow hat
    have HT6 : Hid (Turns (w4.alloc (.cells #[.slice A4 bl c4] 43)) w6 (blkOf (.slice Av lL cv))) := turns_grown hgrow
    have HT06 : Hid (Turns wp w6 (blkOf (.slice Av lL cv))) := (Turns.of_below HB5.out _).trans HT6.out (fun k hk => .inl hk)
    have HO6 := Lib.hid hown
    have HAt6 := Lib.hid hat
    clear hown hgrow hat HS5 HO5
    refine wpList_nil (outQ_normal HT06.out ?_)
    obtain ⟨A6, c6, rfl, _, _⟩ := own_shape HO6.out
    obtain ⟨Ai, ci, rfl, _, _⟩ := own_shape HO2p.out
    have HR6 := Lib.hid (HT06.out.row HRp.out hSb1)
    have q60 := HR6.out.cell 0
    have f60 := HR6.out.frozen 0
    simp only [List.getElem?_toArray, List.getElem?_cons_zero, List.getElem?_cons_succ] at q60
    obtain ⟨w7, hw7⟩ : ∃ w7, w7 = w6.setCell ⟨Sb, 0, none⟩ (.slice A6 (lL + 1) c6) := ⟨_, rfl⟩
    have HR7 : Hid (Row w7 Sb 56 #[.slice A6 (lL + 1) c6, .slice Ai sh.N.length ci, .int .i64 fn]) := by unfold Hid; rw [hw7]; simpa using HR6.out.put 0 (.slice A6 (lL + 1) c6)
    have HT67 : Hid (Turns w6 w7 [Sb]) := by unfold Hid; rw [hw7]; exact (Turns.refl w6 [Sb]).setCell (by simp) _
    have HT07 : Hid (Turns wp w7 (Sb :: blkOf (.slice Av lL cv))) := (HT06.out.mono (fun k hk => List.mem_cons_of_mem _ hk)).trans HT67.out (fun k hk => .inl (by rw [List.mem_singleton.1 hk]; simp))
    have hnS : ∀ {g : Nat} {ty : TypeId} {cs : Array Value} {V : World}, Row V g ty cs → ty ≠ 56 → (∃ cs', Row V Sb 56 cs') → g ∉ [Sb] := fun hr hne ⟨cs', h2⟩ hm => by
      rw [List.mem_singleton.1 hm] at hr
      exact Row.ne_type hr h2 hne rfl
    have HO67 : Hid (w7.ownsRow 0 43 1 (.slice A6 (lL + 1) c6) (lL + 1) (xs ++ [.slice A4 bl c4])) := HT67.out.own HO6.out (fun g hg => by
      obtain ⟨_, _, cs, hr⟩ := own_blkOf HO6.out (k := g) (by unfold blkOf; rw [hg]; simp)
      exact hnS hr (by decide) ⟨_, HR6.out⟩)
    have HO27 : Hid (w7.ownsRow 0 3 1 (.slice Ai sh.N.length ci) sh.N.length (sh.N.map fun n => .int .i64 n)) := HT07.out.own HO2p.out (fun g hg hm => by
      obtain ⟨_, _, cs, hr⟩ := own_blkOf HO2p.out (k := g) (by unfold blkOf; rw [hg]; simp)
      rcases List.mem_cons.1 hm with e | hm
      · exact Row.ne_type hr HRp.out (by decide) e
      · obtain ⟨_, _, cs', hr'⟩ := own_blkOf HO1p.out hm
        exact Row.ne_type hr hr' (by decide) rfl)
    have HZ7 : Hid (Row w7 w.heap.size 28 #[.int .i64 0, .int .i64 0]) := HT07.out.row HZp.out (fun hm => by
      rcases List.mem_cons.1 hm with e | hm
      · exact Row.ne_type HZp.out HRp.out (by decide) e
      · obtain ⟨_, _, cs', hr'⟩ := own_blkOf HO1p.out hm
        exact Row.ne_type HZp.out hr' (by decide) rfl)
    have HD7 : Hid (w7.ownsRow wp.heap.size 5 1 (.slice A4 bl c4) bl (intsV .u8 b)) := ((HT6.out.mono (fun k hk => List.mem_cons_of_mem _ hk) : Turns _ w6 (Sb :: blkOf (.slice Av lL cv))).trans HT67.out (fun k hk => .inl (by rw [List.mem_singleton.1 hk]; simp))).own HD5.out (fun g hg hm => by
      obtain ⟨_, _, cs, hr⟩ := own_blkOf HD5.out (k := g) (by unfold blkOf; rw [hg]; simp)
      rcases List.mem_cons.1 hm with e | hm
      · exact Row.ne_type hr (HRp.out.below HB5.out HRp.out.lt) (by decide) e
      · obtain ⟨_, _, cs', hr'⟩ := own_blkOf HO1p.out hm
        exact Row.ne_type hr (hr'.below HB5.out hr'.lt) (by decide) rfl)
    have HO28 := Lib.hid (own_below HO27.out ((Below.refl w7.heap.size w7).alloc (Nat.le_refl _) (.cells #[.int .i64 n] 3)))
    have HS8 := Lib.hid (src_one (w := w7) (t := 3) (u := .int .i64 n))
    obtain ⟨w8, hw8⟩ : ∃ w8, w8 = w7.alloc (.cells #[.int .i64 n] 3) := ⟨_, rfl⟩
    have HW8 : Hid (w8 = (w6.setCell ⟨Sb, 0, none⟩ (.slice A6 (lL + 1) c6)).alloc (.cells #[.int .i64 n] 3)) := by unfold Hid; rw [hw8, hw7]
    have HB78 : Hid (Below w7.heap.size w7 w8) := by unfold Hid; rw [hw8]; (repeat (first | (with_reducible refine Below.drew ?_) | (with_reducible refine below_drewN0 ?_ _) | ((with_reducible refine Below.setCell ?_ ?_ _); rotate_left; focus (first | omega | (simp; done) | (simp; omega) | (simp at *; omega))) | ((with_reducible refine Below.alloc ?_ ?_ _); rotate_left; focus (first | omega | (simp; done) | (simp; omega) | (simp at *; omega))) | (with_reducible exact Below.refl _ _)))
    have HZe : Hid (w7.heap.size = w6.heap.size) := by unfold Hid; rw [hw7]; simp
    rw [← hw8] at HO28 HS8
    have HX9 : Hid (∀ (v9 : Value) (w9 : World), w8.grownBy w9 (Value.slice Ai sh.N.length ci).ownBlock → Row w9 Sb 56 #[.slice A6 (lL + 1) c6, .slice Ai sh.N.length ci, .int .i64 fn] ∧ Row w9 w.heap.size 28 #[.int .i64 0, .int .i64 0] ∧ Turns w7 w9 (blkOf (.slice Ai sh.N.length ci))) := fun v9 w9 hg => by
      have ht := turns_grown hg
      have hb := HB78.out
      refine ⟨ht.row (HR7.out.below hb HR7.out.lt) (fun hm => ?_), ht.row (HZ7.out.below hb HZ7.out.lt) (fun hm => ?_), (Turns.of_below hb _).trans ht (fun k hk => .inl hk)⟩
      · obtain ⟨_, _, cs', hr'⟩ := own_blkOf HO28.out hm
        exact Row.ne_type (HR7.out.below hb HR7.out.lt) hr' (by decide) rfl
      · obtain ⟨_, _, cs', hr'⟩ := own_blkOf HO28.out hm
        exact Row.ne_type (HZ7.out.below hb HZ7.out.lt) hr' (by decide) rfl
    clear hw8
    have HW7 := Lib.hid hw7
    have q71 := HR7.out.cell 1
    simp only [List.getElem?_toArray, List.getElem?_cons_zero, List.getElem?_cons_succ] at q71
    rw [hw7] at q71
    clear hw7
    refine wpSeqS_step ?_
    go_wp2_with fail
    refine outQ_normal HT06.out ?_
    refine wpSeqS_step ?_
    go_wp2_with fail
    refine outQ_normal HT06.out ?_
    have hZS : w.heap.size ≠ Sb := Row.ne_type HZ7.out HR7.out (by decide)
    have hSZ : Sb ≠ w.heap.size := Ne.symm hZS
    refine wpSeqS_last ?_
    go_wp2_with (at_builtin; go_must (rw [← HW8.out, ← HZe.out]; refine wpList_append_src _ rfl (.tmp 43) (.tmp 45) 54 rfl 0 3 i2 (.int .i64 0) 1 8 Try.underlying54 li lz0 lz1 lz2 rfl (by decide) (.slice Ai sh.N.length ci) sh.N.length (sh.N.map fun n => .int .i64 n) rfl HO28.out (some ⟨w7.heap.size, 0, none⟩) 1 1 _ rfl HS8.out (by intro u hu; rw [List.mem_singleton.1 hu]; rfl) (by unfold maxLen; omega) (by omega) (Nat.zero_le _) ?_); intro v9 w9 hown9 hgrow9 hat9; obtain ⟨hR9, hZ9, hT9⟩ := HX9.out v9 w9 hgrow9; have q90 := hR9.cell 0; have q91 := hR9.cell 1; have f91 := hR9.frozen 1; have z0 := hZ9.cell 0; have z1 := hZ9.cell 1; have g0 := hZ9.frozen 0; have g1 := hZ9.frozen 1; simp only [List.getElem?_toArray, List.getElem?_cons_zero, List.getElem?_cons_succ] at q90 q91 z0 z1; obtain ⟨A9, c9, rfl, _, _⟩ := own_shape hown9)
    obtain ⟨w10, hw10⟩ : ∃ w10, w10 = (((w9.setCell ⟨Sb, 1, none⟩ (.slice A9 (sh.N.length + 1) c9)).setCell ⟨w.heap.size, 0, none⟩ (.int .i64 ((lL : Int) / 256))).setCell ⟨w.heap.size, 1, none⟩ (.int .i64 ((lL : Int) % 256))) := ⟨_, rfl⟩
    rw [← hw10]
    have hT910 : Turns w9 w10 [Sb, w.heap.size] := by rw [hw10]; exact (((Turns.refl w9 [Sb, w.heap.size]).setCell (by simp) _).setCell (by simp) _).setCell (by simp) _
    have hR10 : Row w10 Sb 56 #[.slice A6 (lL + 1) c6, .slice A9 (sh.N.length + 1) c9, .int .i64 fn] := by
      rw [hw10]
      have h1 := hR9.put 1 (.slice A9 (sh.N.length + 1) c9)
      have ht : Turns (w9.setCell ⟨Sb, 1, none⟩ (.slice A9 (sh.N.length + 1) c9)) w10 [w.heap.size] := by rw [hw10]; exact ((Turns.refl _ [w.heap.size]).setCell (by simp) _).setCell (by simp) _
      have h2 := ht.row h1 (by simpa using hSZ)
      rw [hw10] at h2
      simpa using h2
    have hZ10 : Row w10 w.heap.size 28 #[.int .i64 ((lL : Int) / 256), .int .i64 ((lL : Int) % 256)] := by
      rw [hw10]
      have h1 := ((Turns.refl w9 [Sb]).setCell (p := ⟨Sb, 1, none⟩) (by simp) (.slice A9 (sh.N.length + 1) c9)).row hZ9 (by simpa using hZS)
      have h2 := (h1.put 0 (.int .i64 ((lL : Int) / 256))).put 1 (.int .i64 ((lL : Int) % 256))
      simpa using h2
    have hnot : ∀ {g : Nat} {ty : TypeId} {cs : Array Value}, Row w9 g ty cs → ty ≠ 56 → ty ≠ 28 → g ∉ [Sb, w.heap.size] := fun hr h1 h2 hm => by
      simp only [List.mem_cons, List.not_mem_nil, or_false] at hm
      rcases hm with rfl | rfl
      · exact Row.ne_type hr hR9 h1 rfl
      · exact Row.ne_type hr hZ9 h2 rfl
    have hO69 : w9.ownsRow 0 43 1 (.slice A6 (lL + 1) c6) (lL + 1) (xs ++ [.slice A4 bl c4]) := hT9.own HO67.out (fun g hg hm => by
      obtain ⟨_, _, cs, hr⟩ := own_blkOf HO67.out (k := g) (by unfold blkOf; rw [hg]; simp)
      obtain ⟨_, _, cs', hr'⟩ := own_blkOf HO27.out hm
      exact Row.ne_type hr hr' (by decide) rfl)
    have hD9 : w9.ownsRow wp.heap.size 5 1 (.slice A4 bl c4) bl (intsV .u8 b) := hT9.own HD7.out (fun g hg hm => by
      obtain ⟨_, _, cs, hr⟩ := own_blkOf HD7.out (k := g) (by unfold blkOf; rw [hg]; simp)
      obtain ⟨_, _, cs', hr'⟩ := own_blkOf HO27.out hm
      exact Row.ne_type hr hr' (by decide) rfl)
    have hO610 : w10.ownsRow 0 43 1 (.slice A6 (lL + 1) c6) (lL + 1) (xs ++ [.slice A4 bl c4]) := hT910.own hO69 (fun g hg => by
      obtain ⟨_, _, cs, hr⟩ := own_blkOf hO69 (k := g) (by unfold blkOf; rw [hg]; simp)
      exact hnot hr (by decide) (by decide))
    have hO910 : w10.ownsRow 0 3 1 (.slice A9 (sh.N.length + 1) c9) (sh.N.length + 1) (sh.N.map (fun n => .int .i64 n) ++ [.int .i64 n]) := hT910.own hown9 (fun g hg => by
      obtain ⟨_, _, cs, hr⟩ := own_blkOf hown9 (k := g) (by unfold blkOf; rw [hg]; simp)
      exact hnot hr (by decide) (by decide))
    have hD10 : w10.ownsRow wp.heap.size 5 1 (.slice A4 bl c4) bl (intsV .u8 b) := hT910.own hD9 (fun g hg => by
      obtain ⟨_, _, cs, hr⟩ := own_blkOf hD9 (k := g) (by unfold blkOf; rw [hg]; simp)
      exact hnot hr (by decide) (by decide))
    obtain ⟨hc8, hA4⟩ := own_cells8 hD10 HBl.out
    have hszp : w.heap.size ≤ wp.heap.size := HTp.out.size
    have hsz5 : wp.heap.size ≤ (w4.alloc (.cells #[.slice A4 bl c4] 43)).heap.size := HB5.out.size
    have hsz7 : wp.heap.size ≤ w7.heap.size := HT07.out.size
    have hsz8 : w7.heap.size ≤ w8.heap.size := HB78.out.size
    have hTw : Turns w w10 T := by
      have h1 : Turns w wp T := HTp.out.mono (fun k hk => by rw [List.mem_singleton.1 hk]; exact HMe.out)
      have h2 : Turns w w7 T := h1.trans HT07.out (fun k hk => .inl (by
        rcases List.mem_cons.1 hk with rfl | hk
        · exact HMe.out
        · exact HT1.out k hk))
      have h3 : Turns w w9 T := h2.trans hT9 (fun k hk => .inl (HT2.out k hk))
      exact h3.trans hT910 (fun k hk => by
        simp only [List.mem_cons, List.not_mem_nil, or_false] at hk
        rcases hk with rfl | rfl
        · exact .inl HMe.out
        · exact .inr (Nat.le_refl _))
    have hb6 : ∀ k ∈ blkOf (.slice A6 (lL + 1) c6), k ∈ T ∨ w.heap.size ≤ k := fun k hk => by
      rcases HAt6.out with e | e
      · unfold blkOf at hk
        rw [e] at hk
        exact .inl (HT1.out k hk)
      · unfold blkOf at hk
        rw [e] at hk
        simp at hk
        right; rw [World.size_alloc] at hsz5; omega
    have hb9 : ∀ k ∈ blkOf (.slice A9 (sh.N.length + 1) c9), k ∈ T ∨ w.heap.size ≤ k := fun k hk => by
      rcases hat9 with e | e
      · unfold blkOf at hk
        rw [e] at hk
        exact .inl (HT2.out k hk)
      · unfold blkOf at hk
        rw [e] at hk
        simp at hk
        right; omega
    have hlen1 : (sh.put n b).L.length = lL + 1 := by show (sh.L ++ [b]).length = _; rw [List.length_append, ← HlL.out]; rfl
    have hlen2 : (sh.put n b).N.length = sh.N.length + 1 := by show (sh.N ++ [n]).length = _; rw [List.length_append]; rfl
    have hxl : xs.length = lL := by have := HO1p.out.1; simpa using this
    refine bodyPost_ret (v := .tuple #[.agg #[.int .i64 ((lL : Int) / 256), .int .i64 ((lL : Int) % 256)], .int .i64 0]) (put_results _ _ w.heap.size ((lL : Int) / 256) ((lL : Int) % 256) 0 rfl rfl hZ10) rfl ⟨by rw [Int.natCast_ediv, Int.natCast_emod]; rfl, T ++ (blkOf (.slice A6 (lL + 1) c6) ++ blkOf (.slice A9 (sh.N.length + 1) c9)), F ++ A4.toList.map (·.block), ⟨⟨.slice A6 (lL + 1) c6, .slice A9 (sh.N.length + 1) c9, xs ++ [.slice A4 bl c4], by rw [← HFn.out]; exact hR10, by rw [hlen1]; exact hO610, by rw [hlen2]; show w10.ownsRow 0 _ 1 _ _ ((sh.N ++ [n]).map fun n => .int .i64 n); rw [List.map_append]; exact hO910, fun k hk => by simp only [List.mem_append]; exact .inr (.inl hk), fun k hk => by simp only [List.mem_append]; exact .inr (.inr hk), fun i d hd => ?_⟩, by simp only [List.mem_append]; exact .inl HMe.out, fun d hd => ?_, by show (sh.N ++ [n]).length = (sh.L ++ [b]).length; rw [List.length_append, List.length_append, HSa.out]; rfl⟩, hTw, fun k hk => ?_, fun k hk => ?_, fun k hk => by simp only [List.mem_append]; exact .inl hk, fun k hk => by simp only [List.mem_append]; exact .inl hk, fun k hk => ?_, fun k hk => ?_⟩
    · have hd' : (sh.L ++ [b])[i]? = some d := hd
      rcases Nat.lt_or_ge i sh.L.length with hi | hi
      · rw [List.getElem?_append_left hi] at hd'
        obtain ⟨Ad, cd, h1, h2, h3⟩ := HXs.out i d hd'
        exact ⟨Ad, cd, by rw [List.getElem?_append_left (by rw [hxl, HlL.out]; exact hi)]; exact h1, cells8_turns h2 hTw (fun a e h0 hk => HTF.out _ (h3 a e h0) hk), fun a e h0 => by simp only [List.mem_append]; exact .inl (h3 a e h0)⟩
      · rw [List.getElem?_append_right hi] at hd'
        have hi0 : i = sh.L.length := by
          have := (List.getElem?_eq_some_iff.1 hd').1
          simp at this; omega
        subst hi0
        simp at hd'
        subst hd'
        refine ⟨A4, c4, by rw [List.getElem?_append_right (by rw [hxl, HlL.out]; exact Nat.le_refl _), hxl, HlL.out, Nat.sub_self, ← HBl.out]; rfl, hc8, fun a e _ => by rw [e]; simp⟩
    · have hd' : d ∈ sh.L ++ [b] := hd
      rcases List.mem_append.1 hd' with hd' | hd'
      · exact HSm.out d hd'
      · rw [List.mem_singleton.1 hd']; exact HBy.out
    · simp only [List.mem_append] at hk
      rcases hk with hk | hk | hk
      · exact .inl hk
      · exact hb6 k hk
      · exact hb9 k hk
    · simp only [List.mem_append] at hk
      rcases hk with hk | hk
      · exact .inl hk
      · cases A4 with
        | none => simp at hk
        | some a => simp at hk; subst hk; right; have := (hA4 a rfl).1; omega
    · simp only [List.mem_append] at hk ⊢
      rintro (hm | hm | hm)
      · rcases hk with hk | hk
        · exact HTF.out k hk hm
        · cases A4 with
          | none => simp at hk
          | some a => simp at hk; subst hk; have h1 := (hA4 a rfl).1; have h2 := HLt.out _ (.inl hm); omega
      · rcases hk with hk | hk
        · rcases hb6 k hm with h | h
          · exact HTF.out k hk h
          · have := HLt.out _ (.inr hk); omega
        · cases A4 with
          | none => simp at hk
          | some a =>
            simp at hk; subst hk
            obtain ⟨_, cs, hr⟩ := hA4 a rfl
            obtain ⟨_, _, cs', hr'⟩ := own_blkOf hO610 hm
            exact Row.ne_type hr hr' (by decide) rfl
      · rcases hk with hk | hk
        · rcases hb9 k hm with h | h
          · exact HTF.out k hk h
          · have := HLt.out _ (.inr hk); omega
        · cases A4 with
          | none => simp at hk
          | some a =>
            simp at hk; subst hk
            obtain ⟨_, cs, hr⟩ := hA4 a rfl
            obtain ⟨_, _, cs', hr'⟩ := own_blkOf hO910 hm
            exact Row.ne_type hr hr' (by decide) rfl
    · simp only [List.mem_append] at hk
      rcases hk with (hk | hk | hk) | hk | hk
      · exact Nat.lt_of_lt_of_le (HLt.out _ (.inl hk)) hTw.size
      · exact (own_blkOf hO610 hk).2.1
      · exact (own_blkOf hO910 hk).2.1
      · exact Nat.lt_of_lt_of_le (HLt.out _ (.inr hk)) hTw.size
      · cases A4 with
        | none => simp at hk
        | some a => simp at hk; subst hk; obtain ⟨_, cs, hr⟩ := hA4 a rfl; exact hr.lt
  · obtain ⟨fn, hfn⟩ : ∃ fn, fn = fl := ⟨_, rfl⟩
    obtain ⟨wp, hwp⟩ : ∃ wp, wp = w1 := ⟨_, rfl⟩
    have HRp : Hid (Row wp Sb 56 #[v1, v2, .int .i64 fn]) := by unfold Hid; rw [hwp, hfn, HFl.out]; exact HR1.out
    have HTp : Hid (Turns w wp [Sb]) := by unfold Hid; rw [hwp]; exact Turns.of_below HB1.out [Sb]
    have HZp : Hid (Row wp w.heap.size 28 #[.int .i64 0, .int .i64 0]) := by unfold Hid; rw [hwp]; exact HZ1.out
    have HFn : Hid (fn = (sh.put n b).full) := by unfold Hid Sh.put; rw [hfn, HFl.out]; rw [HFl.out] at hf; simp [hf]
    have HWp := Lib.hid hwp
    rw [HW1.out] at HWp
    clear hwp hfn
    go_enter Try.func36, Try.ntmps36
    go_wp2_with fail
    rw [← HWp.out]
    clear q2 f2 HWp HW1 HB1 HZ1 HR1
    have HO1p : Hid (wp.ownsRow 0 43 1 v1 lL xs) := HTp.out.own HO1.out (fun g hg hm => by
      obtain ⟨_, _, cs, hr⟩ := own_blkOf HO1.out (k := g) (by unfold blkOf; rw [hg]; simp)
      have h1 := HTp.out.size
      rw [List.mem_singleton.1 hm] at hr
      exact Row.ne_type hr HSr.out (by decide) rfl)
    have HO2p : Hid (wp.ownsRow 0 3 1 v2 sh.N.length (sh.N.map fun n => .int .i64 n)) := HTp.out.own HO2.out (fun g hg hm => by
      obtain ⟨_, _, cs, hr⟩ := own_blkOf HO2.out (k := g) (by unfold blkOf; rw [hg]; simp)
      rw [List.mem_singleton.1 hm] at hr
      exact Row.ne_type hr HSr.out (by decide) rfl)
    have HCp : Hid (Cells8 wp A b) := cells8_turns HCs.out HTp.out (fun a e h0 hm => HA.out a e (by rw [HBl.out]; exact h0) (by rw [List.mem_singleton.1 hm]; exact HMe.out))
    have hSb1 : Sb ∉ blkOf v1 := fun hm => by obtain ⟨_, _, cs, hr⟩ := own_blkOf HO1p.out hm; exact Row.ne_type hr HRp.out (by decide) rfl
    have k1 : ∀ t : Kept wp (blkOf v1), t.u.cell? ⟨Sb, 0, none⟩ = some v1 := fun t => (t.h.row HRp.out hSb1).cell 0
    obtain ⟨Av, cv, rfl, _, _⟩ := own_shape HO1p.out
    (refine region_kept (blkOf (.slice Av lL cv)) [0, 1, 2, 3, 4, 6] [5, 7, 8, 9, 10, 11, 12] (by kernel_rfl) (by kernel_rfl) (fun _ _ _ _ _ h => h) ?_; simp only [List.filterMap_cons, List.getElem?_cons_zero, List.getElem?_cons_succ, List.filterMap_nil]; (repeat ((show wpQuiet _ _ _ _ (_ :: _) _); go_big_quiet_step (fail))); refine wpQuiet_nil ?_)
    clear k1
    have HB3 : Hid (Below wp.heap.size wp (wp.drew.alloc (.cells #[] 5))) := by unfold Hid; (repeat (first | (with_reducible refine Below.drew ?_) | (with_reducible refine below_drewN0 ?_ _) | ((with_reducible refine Below.setCell ?_ ?_ _); rotate_left; focus (first | omega | (simp; done) | (simp; omega) | (simp at *; omega))) | ((with_reducible refine Below.alloc ?_ ?_ _); rotate_left; focus (first | omega | (simp; done) | (simp; omega) | (simp at *; omega))) | (with_reducible exact Below.refl _ _)))
    have HO3 : Hid ((wp.drew.alloc (.cells #[] 5)).ownsRow wp.heap.size 5 1 (.slice (some ⟨wp.heap.size, 0, none⟩) 0 0) 0 []) := World.ownsRow_made (base := wp.heap.size) (size := 1) (e := 5) wp.drew #[] 0 (Nat.le_refl _) (Nat.zero_le _) rfl
    have HS3 : Hid (Src (wp.drew.alloc (.cells #[] 5)) 1 A bl (intsV .u8 b)) := by rw [HBl.out]; exact Src.bytes (HCp.out.keep (keep_below HB3.out))
    refine wpSeqS_step ?_
    go_wp2_with fail
    refine outQ_normal (Turns.of_below HB3.out _) ?_
    refine wpSeqS_step (wpList_append_src _ rfl (.tmp 32) (.tmp 33) 43 rfl wp.heap.size 5 i0 (.int .u8 0) 1 1 Try.underlying43 ji jz0 jz1 jz2 rfl (by decide) (.slice (some ⟨wp.heap.size, 0, none⟩) 0 0) 0 [] rfl HO3.out A bl c _ rfl HS3.out (intsV_one .u8 b) (by unfold maxLen; omega) (by omega) HB3.out.size ?_)
    intro v4 w4 hown hgrow hat
    rw [Nat.zero_add, List.nil_append] at hown
    obtain ⟨A4, c4, rfl, _, _⟩ := own_shape hown
    have HB4 : Hid (Below wp.heap.size wp w4) := HB3.out.grown hgrow HB3.out.size (fun k hk => by
      have : wp.heap.size = k := by injection hk
      omega)
    have HD4 := Lib.hid hown
    clear hown hgrow hat HO3 HS3
    refine wpList_nil (outQ_normal (Turns.of_below HB4.out _) ?_)
    refine wpSeqS_step ?_
    go_wp2_with fail
    have HB5 : Hid (Below wp.heap.size wp (w4.alloc (.cells #[.slice A4 bl c4] 43))) := HB4.out.alloc HB4.out.size _
    have HO5 := Lib.hid (own_below HO1p.out HB5.out)
    have HD5 := Lib.hid (own_below HD4.out ((Below.refl w4.heap.size w4).alloc (Nat.le_refl _) (.cells #[.slice A4 bl c4] 43)))
    have HS5 := Lib.hid (src_one (w := w4) (t := 43) (u := .slice A4 bl c4))
    refine outQ_normal (Turns.of_below HB5.out _) ?_
    refine wpSeqS_step (wpList_append_src _ rfl (.tmp 31) (.tmp 35) 53 rfl 0 43 i1 _ 1 24 Try.underlying53 ki kz0 kz1 kz2 rfl (by decide) (.slice Av lL cv) lL xs rfl HO5.out (some ⟨w4.heap.size, 0, none⟩) 1 1 _ rfl HS5.out (by intro u hu; rw [List.mem_singleton.1 hu]; rfl) (by unfold maxLen; omega) (by omega) (Nat.zero_le _) ?_)
    intro v6 w6 hown hgrow hat
    have HT6 : Hid (Turns (w4.alloc (.cells #[.slice A4 bl c4] 43)) w6 (blkOf (.slice Av lL cv))) := turns_grown hgrow
    have HT06 : Hid (Turns wp w6 (blkOf (.slice Av lL cv))) := (Turns.of_below HB5.out _).trans HT6.out (fun k hk => .inl hk)
    have HO6 := Lib.hid hown
    have HAt6 := Lib.hid hat
    clear hown hgrow hat HS5 HO5
    refine wpList_nil (outQ_normal HT06.out ?_)
    obtain ⟨A6, c6, rfl, _, _⟩ := own_shape HO6.out
    obtain ⟨Ai, ci, rfl, _, _⟩ := own_shape HO2p.out
    have HR6 := Lib.hid (HT06.out.row HRp.out hSb1)
    have q60 := HR6.out.cell 0
    have f60 := HR6.out.frozen 0
    simp only [List.getElem?_toArray, List.getElem?_cons_zero, List.getElem?_cons_succ] at q60
    obtain ⟨w7, hw7⟩ : ∃ w7, w7 = w6.setCell ⟨Sb, 0, none⟩ (.slice A6 (lL + 1) c6) := ⟨_, rfl⟩
    have HR7 : Hid (Row w7 Sb 56 #[.slice A6 (lL + 1) c6, .slice Ai sh.N.length ci, .int .i64 fn]) := by unfold Hid; rw [hw7]; simpa using HR6.out.put 0 (.slice A6 (lL + 1) c6)
    have HT67 : Hid (Turns w6 w7 [Sb]) := by unfold Hid; rw [hw7]; exact (Turns.refl w6 [Sb]).setCell (by simp) _
    have HT07 : Hid (Turns wp w7 (Sb :: blkOf (.slice Av lL cv))) := (HT06.out.mono (fun k hk => List.mem_cons_of_mem _ hk)).trans HT67.out (fun k hk => .inl (by rw [List.mem_singleton.1 hk]; simp))
    have hnS : ∀ {g : Nat} {ty : TypeId} {cs : Array Value} {V : World}, Row V g ty cs → ty ≠ 56 → (∃ cs', Row V Sb 56 cs') → g ∉ [Sb] := fun hr hne ⟨cs', h2⟩ hm => by
      rw [List.mem_singleton.1 hm] at hr
      exact Row.ne_type hr h2 hne rfl
    have HO67 : Hid (w7.ownsRow 0 43 1 (.slice A6 (lL + 1) c6) (lL + 1) (xs ++ [.slice A4 bl c4])) := HT67.out.own HO6.out (fun g hg => by
      obtain ⟨_, _, cs, hr⟩ := own_blkOf HO6.out (k := g) (by unfold blkOf; rw [hg]; simp)
      exact hnS hr (by decide) ⟨_, HR6.out⟩)
    have HO27 : Hid (w7.ownsRow 0 3 1 (.slice Ai sh.N.length ci) sh.N.length (sh.N.map fun n => .int .i64 n)) := HT07.out.own HO2p.out (fun g hg hm => by
      obtain ⟨_, _, cs, hr⟩ := own_blkOf HO2p.out (k := g) (by unfold blkOf; rw [hg]; simp)
      rcases List.mem_cons.1 hm with e | hm
      · exact Row.ne_type hr HRp.out (by decide) e
      · obtain ⟨_, _, cs', hr'⟩ := own_blkOf HO1p.out hm
        exact Row.ne_type hr hr' (by decide) rfl)
    have HZ7 : Hid (Row w7 w.heap.size 28 #[.int .i64 0, .int .i64 0]) := HT07.out.row HZp.out (fun hm => by
      rcases List.mem_cons.1 hm with e | hm
      · exact Row.ne_type HZp.out HRp.out (by decide) e
      · obtain ⟨_, _, cs', hr'⟩ := own_blkOf HO1p.out hm
        exact Row.ne_type HZp.out hr' (by decide) rfl)
    have HD7 : Hid (w7.ownsRow wp.heap.size 5 1 (.slice A4 bl c4) bl (intsV .u8 b)) := ((HT6.out.mono (fun k hk => List.mem_cons_of_mem _ hk) : Turns _ w6 (Sb :: blkOf (.slice Av lL cv))).trans HT67.out (fun k hk => .inl (by rw [List.mem_singleton.1 hk]; simp))).own HD5.out (fun g hg hm => by
      obtain ⟨_, _, cs, hr⟩ := own_blkOf HD5.out (k := g) (by unfold blkOf; rw [hg]; simp)
      rcases List.mem_cons.1 hm with e | hm
      · exact Row.ne_type hr (HRp.out.below HB5.out HRp.out.lt) (by decide) e
      · obtain ⟨_, _, cs', hr'⟩ := own_blkOf HO1p.out hm
        exact Row.ne_type hr (hr'.below HB5.out hr'.lt) (by decide) rfl)
    have HO28 := Lib.hid (own_below HO27.out ((Below.refl w7.heap.size w7).alloc (Nat.le_refl _) (.cells #[.int .i64 n] 3)))
    have HS8 := Lib.hid (src_one (w := w7) (t := 3) (u := .int .i64 n))
    obtain ⟨w8, hw8⟩ : ∃ w8, w8 = w7.alloc (.cells #[.int .i64 n] 3) := ⟨_, rfl⟩
    have HW8 : Hid (w8 = (w6.setCell ⟨Sb, 0, none⟩ (.slice A6 (lL + 1) c6)).alloc (.cells #[.int .i64 n] 3)) := by unfold Hid; rw [hw8, hw7]
    have HB78 : Hid (Below w7.heap.size w7 w8) := by unfold Hid; rw [hw8]; (repeat (first | (with_reducible refine Below.drew ?_) | (with_reducible refine below_drewN0 ?_ _) | ((with_reducible refine Below.setCell ?_ ?_ _); rotate_left; focus (first | omega | (simp; done) | (simp; omega) | (simp at *; omega))) | ((with_reducible refine Below.alloc ?_ ?_ _); rotate_left; focus (first | omega | (simp; done) | (simp; omega) | (simp at *; omega))) | (with_reducible exact Below.refl _ _)))
    have HZe : Hid (w7.heap.size = w6.heap.size) := by unfold Hid; rw [hw7]; simp
    rw [← hw8] at HO28 HS8
    have HX9 : Hid (∀ (v9 : Value) (w9 : World), w8.grownBy w9 (Value.slice Ai sh.N.length ci).ownBlock → Row w9 Sb 56 #[.slice A6 (lL + 1) c6, .slice Ai sh.N.length ci, .int .i64 fn] ∧ Row w9 w.heap.size 28 #[.int .i64 0, .int .i64 0] ∧ Turns w7 w9 (blkOf (.slice Ai sh.N.length ci))) := fun v9 w9 hg => by
      have ht := turns_grown hg
      have hb := HB78.out
      refine ⟨ht.row (HR7.out.below hb HR7.out.lt) (fun hm => ?_), ht.row (HZ7.out.below hb HZ7.out.lt) (fun hm => ?_), (Turns.of_below hb _).trans ht (fun k hk => .inl hk)⟩
      · obtain ⟨_, _, cs', hr'⟩ := own_blkOf HO28.out hm
        exact Row.ne_type (HR7.out.below hb HR7.out.lt) hr' (by decide) rfl
      · obtain ⟨_, _, cs', hr'⟩ := own_blkOf HO28.out hm
        exact Row.ne_type (HZ7.out.below hb HZ7.out.lt) hr' (by decide) rfl
    clear hw8
    have HW7 := Lib.hid hw7
    have q71 := HR7.out.cell 1
    simp only [List.getElem?_toArray, List.getElem?_cons_zero, List.getElem?_cons_succ] at q71
    rw [hw7] at q71
    clear hw7
    refine wpSeqS_step ?_
    go_wp2_with fail
    refine outQ_normal HT06.out ?_
    refine wpSeqS_step ?_
    go_wp2_with fail
    refine outQ_normal HT06.out ?_
    have hZS : w.heap.size ≠ Sb := Row.ne_type HZ7.out HR7.out (by decide)
    have hSZ : Sb ≠ w.heap.size := Ne.symm hZS
    refine wpSeqS_last ?_
    go_wp2_with (at_builtin; go_must (rw [← HW8.out, ← HZe.out]; refine wpList_append_src _ rfl (.tmp 43) (.tmp 45) 54 rfl 0 3 i2 (.int .i64 0) 1 8 Try.underlying54 li lz0 lz1 lz2 rfl (by decide) (.slice Ai sh.N.length ci) sh.N.length (sh.N.map fun n => .int .i64 n) rfl HO28.out (some ⟨w7.heap.size, 0, none⟩) 1 1 _ rfl HS8.out (by intro u hu; rw [List.mem_singleton.1 hu]; rfl) (by unfold maxLen; omega) (by omega) (Nat.zero_le _) ?_); intro v9 w9 hown9 hgrow9 hat9; obtain ⟨hR9, hZ9, hT9⟩ := HX9.out v9 w9 hgrow9; have q90 := hR9.cell 0; have q91 := hR9.cell 1; have f91 := hR9.frozen 1; have z0 := hZ9.cell 0; have z1 := hZ9.cell 1; have g0 := hZ9.frozen 0; have g1 := hZ9.frozen 1; simp only [List.getElem?_toArray, List.getElem?_cons_zero, List.getElem?_cons_succ] at q90 q91 z0 z1; obtain ⟨A9, c9, rfl, _, _⟩ := own_shape hown9)
    obtain ⟨w10, hw10⟩ : ∃ w10, w10 = (((w9.setCell ⟨Sb, 1, none⟩ (.slice A9 (sh.N.length + 1) c9)).setCell ⟨w.heap.size, 0, none⟩ (.int .i64 ((lL : Int) / 256))).setCell ⟨w.heap.size, 1, none⟩ (.int .i64 ((lL : Int) % 256))) := ⟨_, rfl⟩
    rw [← hw10]
    have hT910 : Turns w9 w10 [Sb, w.heap.size] := by rw [hw10]; exact (((Turns.refl w9 [Sb, w.heap.size]).setCell (by simp) _).setCell (by simp) _).setCell (by simp) _
    have hR10 : Row w10 Sb 56 #[.slice A6 (lL + 1) c6, .slice A9 (sh.N.length + 1) c9, .int .i64 fn] := by
      rw [hw10]
      have h1 := hR9.put 1 (.slice A9 (sh.N.length + 1) c9)
      have ht : Turns (w9.setCell ⟨Sb, 1, none⟩ (.slice A9 (sh.N.length + 1) c9)) w10 [w.heap.size] := by rw [hw10]; exact ((Turns.refl _ [w.heap.size]).setCell (by simp) _).setCell (by simp) _
      have h2 := ht.row h1 (by simpa using hSZ)
      rw [hw10] at h2
      simpa using h2
    have hZ10 : Row w10 w.heap.size 28 #[.int .i64 ((lL : Int) / 256), .int .i64 ((lL : Int) % 256)] := by
      rw [hw10]
      have h1 := ((Turns.refl w9 [Sb]).setCell (p := ⟨Sb, 1, none⟩) (by simp) (.slice A9 (sh.N.length + 1) c9)).row hZ9 (by simpa using hZS)
      have h2 := (h1.put 0 (.int .i64 ((lL : Int) / 256))).put 1 (.int .i64 ((lL : Int) % 256))
      simpa using h2
    have hnot : ∀ {g : Nat} {ty : TypeId} {cs : Array Value}, Row w9 g ty cs → ty ≠ 56 → ty ≠ 28 → g ∉ [Sb, w.heap.size] := fun hr h1 h2 hm => by
      simp only [List.mem_cons, List.not_mem_nil, or_false] at hm
      rcases hm with rfl | rfl
      · exact Row.ne_type hr hR9 h1 rfl
      · exact Row.ne_type hr hZ9 h2 rfl
    have hO69 : w9.ownsRow 0 43 1 (.slice A6 (lL + 1) c6) (lL + 1) (xs ++ [.slice A4 bl c4]) := hT9.own HO67.out (fun g hg hm => by
      obtain ⟨_, _, cs, hr⟩ := own_blkOf HO67.out (k := g) (by unfold blkOf; rw [hg]; simp)
      obtain ⟨_, _, cs', hr'⟩ := own_blkOf HO27.out hm
      exact Row.ne_type hr hr' (by decide) rfl)
    have hD9 : w9.ownsRow wp.heap.size 5 1 (.slice A4 bl c4) bl (intsV .u8 b) := hT9.own HD7.out (fun g hg hm => by
      obtain ⟨_, _, cs, hr⟩ := own_blkOf HD7.out (k := g) (by unfold blkOf; rw [hg]; simp)
      obtain ⟨_, _, cs', hr'⟩ := own_blkOf HO27.out hm
      exact Row.ne_type hr hr' (by decide) rfl)
    have hO610 : w10.ownsRow 0 43 1 (.slice A6 (lL + 1) c6) (lL + 1) (xs ++ [.slice A4 bl c4]) := hT910.own hO69 (fun g hg => by
      obtain ⟨_, _, cs, hr⟩ := own_blkOf hO69 (k := g) (by unfold blkOf; rw [hg]; simp)
      exact hnot hr (by decide) (by decide))
    have hO910 : w10.ownsRow 0 3 1 (.slice A9 (sh.N.length + 1) c9) (sh.N.length + 1) (sh.N.map (fun n => .int .i64 n) ++ [.int .i64 n]) := hT910.own hown9 (fun g hg => by
      obtain ⟨_, _, cs, hr⟩ := own_blkOf hown9 (k := g) (by unfold blkOf; rw [hg]; simp)
      exact hnot hr (by decide) (by decide))
    have hD10 : w10.ownsRow wp.heap.size 5 1 (.slice A4 bl c4) bl (intsV .u8 b) := hT910.own hD9 (fun g hg => by
      obtain ⟨_, _, cs, hr⟩ := own_blkOf hD9 (k := g) (by unfold blkOf; rw [hg]; simp)
      exact hnot hr (by decide) (by decide))
    obtain ⟨hc8, hA4⟩ := own_cells8 hD10 HBl.out
    have hszp : w.heap.size ≤ wp.heap.size := HTp.out.size
    have hsz5 : wp.heap.size ≤ (w4.alloc (.cells #[.slice A4 bl c4] 43)).heap.size := HB5.out.size
    have hsz7 : wp.heap.size ≤ w7.heap.size := HT07.out.size
    have hsz8 : w7.heap.size ≤ w8.heap.size := HB78.out.size
    have hTw : Turns w w10 T := by
      have h1 : Turns w wp T := HTp.out.mono (fun k hk => by rw [List.mem_singleton.1 hk]; exact HMe.out)
      have h2 : Turns w w7 T := h1.trans HT07.out (fun k hk => .inl (by
        rcases List.mem_cons.1 hk with rfl | hk
        · exact HMe.out
        · exact HT1.out k hk))
      have h3 : Turns w w9 T := h2.trans hT9 (fun k hk => .inl (HT2.out k hk))
      exact h3.trans hT910 (fun k hk => by
        simp only [List.mem_cons, List.not_mem_nil, or_false] at hk
        rcases hk with rfl | rfl
        · exact .inl HMe.out
        · exact .inr (Nat.le_refl _))
    have hb6 : ∀ k ∈ blkOf (.slice A6 (lL + 1) c6), k ∈ T ∨ w.heap.size ≤ k := fun k hk => by
      rcases HAt6.out with e | e
      · unfold blkOf at hk
        rw [e] at hk
        exact .inl (HT1.out k hk)
      · unfold blkOf at hk
        rw [e] at hk
        simp at hk
        right; rw [World.size_alloc] at hsz5; omega
    have hb9 : ∀ k ∈ blkOf (.slice A9 (sh.N.length + 1) c9), k ∈ T ∨ w.heap.size ≤ k := fun k hk => by
      rcases hat9 with e | e
      · unfold blkOf at hk
        rw [e] at hk
        exact .inl (HT2.out k hk)
      · unfold blkOf at hk
        rw [e] at hk
        simp at hk
        right; omega
    have hlen1 : (sh.put n b).L.length = lL + 1 := by show (sh.L ++ [b]).length = _; rw [List.length_append, ← HlL.out]; rfl
    have hlen2 : (sh.put n b).N.length = sh.N.length + 1 := by show (sh.N ++ [n]).length = _; rw [List.length_append]; rfl
    have hxl : xs.length = lL := by have := HO1p.out.1; simpa using this
    refine bodyPost_ret (v := .tuple #[.agg #[.int .i64 ((lL : Int) / 256), .int .i64 ((lL : Int) % 256)], .int .i64 0]) (put_results _ _ w.heap.size ((lL : Int) / 256) ((lL : Int) % 256) 0 rfl rfl hZ10) rfl ⟨by rw [Int.natCast_ediv, Int.natCast_emod]; rfl, T ++ (blkOf (.slice A6 (lL + 1) c6) ++ blkOf (.slice A9 (sh.N.length + 1) c9)), F ++ A4.toList.map (·.block), ⟨⟨.slice A6 (lL + 1) c6, .slice A9 (sh.N.length + 1) c9, xs ++ [.slice A4 bl c4], by rw [← HFn.out]; exact hR10, by rw [hlen1]; exact hO610, by rw [hlen2]; show w10.ownsRow 0 _ 1 _ _ ((sh.N ++ [n]).map fun n => .int .i64 n); rw [List.map_append]; exact hO910, fun k hk => by simp only [List.mem_append]; exact .inr (.inl hk), fun k hk => by simp only [List.mem_append]; exact .inr (.inr hk), fun i d hd => ?_⟩, by simp only [List.mem_append]; exact .inl HMe.out, fun d hd => ?_, by show (sh.N ++ [n]).length = (sh.L ++ [b]).length; rw [List.length_append, List.length_append, HSa.out]; rfl⟩, hTw, fun k hk => ?_, fun k hk => ?_, fun k hk => by simp only [List.mem_append]; exact .inl hk, fun k hk => by simp only [List.mem_append]; exact .inl hk, fun k hk => ?_, fun k hk => ?_⟩
    · have hd' : (sh.L ++ [b])[i]? = some d := hd
      rcases Nat.lt_or_ge i sh.L.length with hi | hi
      · rw [List.getElem?_append_left hi] at hd'
        obtain ⟨Ad, cd, h1, h2, h3⟩ := HXs.out i d hd'
        exact ⟨Ad, cd, by rw [List.getElem?_append_left (by rw [hxl, HlL.out]; exact hi)]; exact h1, cells8_turns h2 hTw (fun a e h0 hk => HTF.out _ (h3 a e h0) hk), fun a e h0 => by simp only [List.mem_append]; exact .inl (h3 a e h0)⟩
      · rw [List.getElem?_append_right hi] at hd'
        have hi0 : i = sh.L.length := by
          have := (List.getElem?_eq_some_iff.1 hd').1
          simp at this; omega
        subst hi0
        simp at hd'
        subst hd'
        refine ⟨A4, c4, by rw [List.getElem?_append_right (by rw [hxl, HlL.out]; exact Nat.le_refl _), hxl, HlL.out, Nat.sub_self, ← HBl.out]; rfl, hc8, fun a e _ => by rw [e]; simp⟩
    · have hd' : d ∈ sh.L ++ [b] := hd
      rcases List.mem_append.1 hd' with hd' | hd'
      · exact HSm.out d hd'
      · rw [List.mem_singleton.1 hd']; exact HBy.out
    · simp only [List.mem_append] at hk
      rcases hk with hk | hk | hk
      · exact .inl hk
      · exact hb6 k hk
      · exact hb9 k hk
    · simp only [List.mem_append] at hk
      rcases hk with hk | hk
      · exact .inl hk
      · cases A4 with
        | none => simp at hk
        | some a => simp at hk; subst hk; right; have := (hA4 a rfl).1; omega
    · simp only [List.mem_append] at hk ⊢
      rintro (hm | hm | hm)
      · rcases hk with hk | hk
        · exact HTF.out k hk hm
        · cases A4 with
          | none => simp at hk
          | some a => simp at hk; subst hk; have h1 := (hA4 a rfl).1; have h2 := HLt.out _ (.inl hm); omega
      · rcases hk with hk | hk
        · rcases hb6 k hm with h | h
          · exact HTF.out k hk h
          · have := HLt.out _ (.inr hk); omega
        · cases A4 with
          | none => simp at hk
          | some a =>
            simp at hk; subst hk
            obtain ⟨_, cs, hr⟩ := hA4 a rfl
            obtain ⟨_, _, cs', hr'⟩ := own_blkOf hO610 hm
            exact Row.ne_type hr hr' (by decide) rfl
      · rcases hk with hk | hk
        · rcases hb9 k hm with h | h
          · exact HTF.out k hk h
          · have := HLt.out _ (.inr hk); omega
        · cases A4 with
          | none => simp at hk
          | some a =>
            simp at hk; subst hk
            obtain ⟨_, cs, hr⟩ := hA4 a rfl
            obtain ⟨_, _, cs', hr'⟩ := own_blkOf hO910 hm
            exact Row.ne_type hr hr' (by decide) rfl
    · simp only [List.mem_append] at hk
      rcases hk with (hk | hk | hk) | hk | hk
      · exact Nat.lt_of_lt_of_le (HLt.out _ (.inl hk)) hTw.size
      · exact (own_blkOf hO610 hk).2.1
      · exact (own_blkOf hO910 hk).2.1
      · exact Nat.lt_of_lt_of_le (HLt.out _ (.inr hk)) hTw.size
      · cases A4 with
        | none => simp at hk
        | some a => simp at hk; subst hk; obtain ⟨_, cs, hr⟩ := hA4 a rfl; exact hr.lt
set_option maxRecDepth 100000 in
set_option maxHeartbeats 2000000 in
theorem ShGet_out (w : World) (Sb k lL cv : Nat) (Av : Option Addr) (v2 : Value) (fl : Int) (hr : Row w Sb 56 #[.slice Av lL cv, v2, .int .i64 fl]) (hk : lL ≤ k) (hk32 : k < 4294967296) :
    Calls Try.prog 84 #[.pointer (some ⟨Sb, 0, none⟩), .agg #[.int .i64 (k / 256 : Nat), .int .i64 (k % 256 : Nat)]] w fun e w' => e = .returned (.tuple #[.slice none 0 0, .int .i64 8]) ∧ Below w.heap.size w w' := by
  have q0 : (w.alloc (.cells #[.int .i64 (k / 256 : Nat), .int .i64 (k % 256 : Nat)] 28)).cell? ⟨Sb, 0, none⟩ = some (.slice Av lL cv) := (hr.alloc _).cell 0
  have HB : Hid (Below w.heap.size w (w.alloc (.cells #[.int .i64 (k / 256 : Nat), .int .i64 (k % 256 : Nat)] 28))) := by unfold Hid; (repeat (first | (with_reducible refine Below.drew ?_) | (with_reducible refine below_drewN0 ?_ _) | ((with_reducible refine Below.setCell ?_ ?_ _); rotate_left; focus (first | omega | (simp; done) | (simp; omega) | (simp at *; omega))) | ((with_reducible refine Below.alloc ?_ ?_ _); rotate_left; focus (first | omega | (simp; done) | (simp; omega) | (simp at *; omega))) | (with_reducible exact Below.refl _ _)))
  obtain ⟨x, hx⟩ : ∃ x, x = k / 256 := ⟨_, rfl⟩
  obtain ⟨y, hy⟩ : ∃ y, y = k % 256 := ⟨_, rfl⟩
  have hxy : x * 256 + y = k ∧ y < 256 ∧ x < 16777216 := by omega
  rw [← hx, ← hy] at q0 HB ⊢
  obtain ⟨e1, e2, e3⟩ := hxy
  have e4 : (x : Int) * 256 + y ≥ lL := by omega
  have e5 : ¬ (x : Int) < 0 := by omega
  have e6 : ¬ (y : Int) < 0 := by omega
  have e7 : ¬ (y : Int) ≥ 256 := by omega
  clear hr hx hy
  go_enter Try.func84, Try.ntmps84
  go_wp2
  go_ret2
  exact ⟨rfl, HB.out⟩
set_option maxRecDepth 100000 in
set_option maxHeartbeats 2000000 in
theorem ShGet_in (w : World) (Sb k : Nat) (T F : List Nat) (sh : Sh) (h : ShIs w Sb T F sh) (d : List Nat) (hd : sh.L[k]? = some d) (hl : sh.L.length ≤ 1048576) (hdl : d.length ≤ 65536) :
    Calls Try.prog 84 #[.pointer (some ⟨Sb, 0, none⟩), .agg #[.int .i64 (k / 256 : Nat), .int .i64 (k % 256 : Nat)]] w fun e w' => ∃ A c, e = .returned (.tuple #[.slice A d.length c, .int .i64 0]) ∧ w'.ownsRow w.heap.size 5 1 (.slice A d.length c) d.length (intsV .u8 d) ∧ Below w.heap.size w w' := by
  obtain ⟨i0, ji, jz0, jz1, jz2⟩ := info_parts bytes_info
  obtain ⟨v1, v2, xs, h1, h2, h3, h4, h5, h6⟩ := h.at'
  obtain ⟨Av, cv, rfl, _, _⟩ := own_shape h2
  obtain ⟨A, c, hx, hc, _⟩ := h6 k d hd
  have hkl : k < sh.L.length := (List.getElem?_eq_some_iff.1 hd).1
  obtain ⟨lL, hlL⟩ : ∃ l, l = sh.L.length := ⟨_, rfl⟩
  rw [← hlL] at h1 h2 hl hkl
  obtain ⟨g, rfl, hcell⟩ : ∃ g, Av = some ⟨g, 0, none⟩ ∧ w.cell? ⟨g, k, none⟩ = some (.slice A d.length c) := by
    rcases h2.2 with ⟨e1, h0⟩ | ⟨g, cap, cur, e1, _, hr, a1, a2, a3, a4⟩
    · omega
    · injection e1 with e1 _ _
      refine ⟨g, e1, ?_⟩
      rw [(show Row w g _ cur from hr).cell]
      rw [← a4, List.getElem?_take, if_pos (by omega)] at hx
      simpa using hx
  obtain ⟨w1, hw1⟩ : ∃ w1, w1 = w.alloc (.cells #[.int .i64 (k / 256 : Nat), .int .i64 (k % 256 : Nat)] 28) := ⟨_, rfl⟩
  have HB1 : Hid (Below w.heap.size w w1) := by unfold Hid; rw [hw1]; (repeat (first | (with_reducible refine Below.drew ?_) | (with_reducible refine below_drewN0 ?_ _) | ((with_reducible refine Below.setCell ?_ ?_ _); rotate_left; focus (first | omega | (simp; done) | (simp; omega) | (simp at *; omega))) | ((with_reducible refine Below.alloc ?_ ?_ _); rotate_left; focus (first | omega | (simp; done) | (simp; omega) | (simp at *; omega))) | (with_reducible exact Below.refl _ _)))
  have q0 := (h1.below HB1.out h1.lt).cell 0
  have q1 := keep_below HB1.out _ _ hcell
  have HC := Lib.hid (hc.keep (keep_below HB1.out))
  simp only [List.getElem?_toArray, List.getElem?_cons_zero, List.getElem?_cons_succ] at q0
  obtain ⟨bl, hbl⟩ : ∃ l, l = d.length := ⟨_, rfl⟩
  have HBl := Lib.hid hbl
  rw [← hbl] at q1 hdl ⊢
  obtain ⟨x, hxx⟩ : ∃ x, x = k / 256 := ⟨_, rfl⟩
  obtain ⟨y, hy⟩ : ∃ y, y = k % 256 := ⟨_, rfl⟩
  obtain ⟨e1, e2, e3⟩ : x * 256 + y = k ∧ y < 256 ∧ x < 16777216 := by omega
  rw [← hxx, ← hy] at hw1 ⊢
  subst e1
  have e4 : ¬ (x : Int) * 256 + y ≥ lL := by omega
  have e5 : ¬ (x : Int) < 0 := by omega
  have e6 : ¬ (y : Int) < 0 := by omega
  have e7 : ¬ (y : Int) ≥ 256 := by omega
  have HW1 := Lib.hid hw1
  have HB3 : Hid (Below w1.heap.size w1 (w1.alloc (.cells #[] 5))) := by unfold Hid; (repeat (first | (with_reducible refine Below.drew ?_) | (with_reducible refine below_drewN0 ?_ _) | ((with_reducible refine Below.setCell ?_ ?_ _); rotate_left; focus (first | omega | (simp; done) | (simp; omega) | (simp at *; omega))) | ((with_reducible refine Below.alloc ?_ ?_ _); rotate_left; focus (first | omega | (simp; done) | (simp; omega) | (simp at *; omega))) | (with_reducible exact Below.refl _ _)))
  have HO3 : Hid ((w1.alloc (.cells #[] 5)).ownsRow w1.heap.size 5 1 (.slice (some ⟨w1.heap.size, 0, none⟩) 0 0) 0 []) := World.ownsRow_made (base := w1.heap.size) (size := 1) (e := 5) w1 #[] 0 (Nat.le_refl _) (Nat.zero_le _) rfl
  have HS3 : Hid (Src (w1.alloc (.cells #[] 5)) 1 A bl (intsV .u8 d)) := by rw [HBl.out]; exact Src.bytes (HC.out.keep (keep_below HB3.out))
  have HSz : Hid (w1.heap.size = w.heap.size + 1) := by unfold Hid; rw [hw1]; simp
  have q0b := keep_below HB3.out _ _ q0
  have q1b := keep_below HB3.out _ _ q1
  rw [hw1] at q0 q0b q1b
  clear q1
  clear h1 h2 h3 h4 h5 h6 h hcell hx hc hd hlL hbl hxx hy hw1
  go_enter Try.func84, Try.ntmps84
  go_wp2_with (at_builtin; go_must (rw [← HW1.out, ← HSz.out]; refine wpList_append_src _ rfl (.tmp 35) (.tmp 42) 43 rfl w1.heap.size 5 i0 (.int .u8 0) 1 1 Try.underlying43 ji jz0 jz1 jz2 rfl (by decide) (.slice (some ⟨w1.heap.size, 0, none⟩) 0 0) 0 [] rfl HO3.out A bl c _ rfl HS3.out (intsV_one .u8 d) (by unfold maxLen; omega) (by omega) HB3.out.size ?_); intro v4 w4 hown hgrow hat)
  rw [Nat.zero_add, List.nil_append] at hown
  obtain ⟨A4, c4, rfl, _, _⟩ := own_shape hown
  have HB4 : Hid (Below w1.heap.size w1 w4) := HB3.out.grown hgrow HB3.out.size (fun k hk => by
    have : w1.heap.size = k := by injection hk
    omega)
  have HO4 := Lib.hid (own_mono hown HB1.out.size)
  clear hown hgrow hat
  go_ret2
  exact ⟨A4, c4, rfl, HO4.out, HB1.out.trans (HB4.out.mono HB1.out.size)⟩
end Go.Proofs.Ytfipmpajdkgffaa

namespace Go.Proofs.Ytfipmpajdkgffaa
open Go.RowKit
set_option linter.unusedVariables false
set_option linter.unusedSimpArgs false

section
variable {P : Program} {n : Nat} {ops : Array Oper} {Q : Exit → Act → World → Prop} {md : Region.Mode} {S : World → Prop}
theorem sem_wide (o : Oper) (ρ : Operand → Value) : o.semAt Fence.wide.round ρ = execOp ρ o := Oper.semAt_none ρ o
theorem opIn_yields {i : Nat} {o : Oper} {v : Value} {a : Act} (hi : ops[i]? = some o) (hy : YieldsIf P ops S o v a) {K : Act → World → Prop} {w : World} (hS : S w) (h : K (a.put o.dst v) w) : wpOpIn Fence.wide n P ops Q i K a w := by
  unfold wpOpIn
  simp only [hi]
  rcases hy with ⟨hw, hv⟩ | ⟨hw, rfl⟩
  · rw [if_pos hw]
    unfold Oper.wpIn
    rw [sem_wide, hv w hS]
    exact ⟨fun _ _ => trivial, h⟩
  · rw [if_neg (by rw [hw]; simp)]
    exact ⟨fun _ _ => trivial, h⟩
theorem opIn_putIf {j : Nat} {oi oj : Oper} {v : Value} (hj : ops[j]? = some oj) (hap : oi.apart ops oj = true) (hsi : ∀ cs b, oi.op ≠ .select cs b) (hsj : ∀ cs b, oj.op ≠ .select cs b)
    (hQ : ∀ c a w, Q (.panic c) (a.put oi.dst v) w → Q (.panic c) a w) {K : Act → World → Prop} {a : Act} {w : World} (hy : YieldsIf P ops S oi v a) (h : wpOpIn Fence.wide n P ops Q j K (a.put oi.dst v) w) :
    wpOpIn Fence.wide n P ops Q j (fun a' w' => YieldsIf P ops S oi v a' ∧ K (a'.put oi.dst v) w') a w := by
  obtain ⟨h1, h2, h3⟩ := Oper.apart_spec hap
  have keep : ∀ (a : Act), YieldsIf P ops S oi v a → ∀ u, YieldsIf P ops S oi v (a.put oj.dst u) := fun a hy u => hy.of_same (execOp_put oi hsi a oj.dst u h3) (wanted_put oi a oj.dst u h3)
  have keepD : ∀ d, YieldsIf P ops S oi v { a with defers := d :: a.defers } := fun d => hy.of_same rfl rfl
  unfold wpOpIn at *
  simp only [hj] at *
  rw [wanted_put oj a oi.dst v h1] at h
  by_cases hw : Region.wanted oj (yielded ops a.tmps) = true
  · rw [if_pos hw] at h ⊢
    unfold Oper.wpIn at *
    refine ⟨fun _ _ => trivial, ?_⟩
    have h := h.2
    rw [sem_wide] at h ⊢
    rw [execOp_put oj hsj a oi.dst v h1] at h
    generalize (execOp a.eval oj).run P w = r at *
    cases r with
    | ok x w' =>
      cases x <;> simp only [Oper.uponIn] at h ⊢
      case value u => exact ⟨keep a hy u, by rw [← Act.put_comm a v u h2]; exact h⟩
      case skip => exact ⟨keep a hy _, by rw [← Act.put_comm a v undef h2]; exact h⟩
      case defer d =>
        refine ⟨keep _ (keepD d) _, ?_⟩
        rw [← Act.put_comm _ v undef h2, ← Act.put_defers]
        exact h
      case enter f args =>
        refine ⟨h.1, CallsIn.mono h.2 fun e w'' he => ?_⟩
        cases e with
        | returned u => exact ⟨keep a hy u, by rw [← Act.put_comm a v u h2]; exact he⟩
        | panicked c => exact hQ _ _ _ he
        | outgrown => exact he
      case row row args => exact ⟨h.1, RowsIn.mono h.2 fun u w'' he => ⟨keep a hy u, by rw [← Act.put_comm a v u h2]; exact he⟩⟩
      case round l f t asg b =>
        refine ⟨h.1, RoundIn.mono h.2 fun e w'' he => ?_⟩
        cases e with
        | returned u => exact ⟨keep a hy u, by rw [← Act.put_comm a v u h2]; exact he⟩
        | panicked c => exact hQ _ _ _ he
        | outgrown => exact he
    | halt x w' =>
      cases x <;> simp only [Oper.uponIn] at h ⊢
      case panic u => exact hQ _ _ _ h
  · rw [if_neg hw] at h ⊢
    exact ⟨fun _ _ => trivial, keep a hy _, by rw [← Act.put_comm a v undef h2]; exact h.2⟩
/-- S is shown anew behind each. -/
def wpAnyHI (n : Nat) (P : Program) (md : Region.Mode) (ops : Array Oper) (Q : Exit → Act → World → Prop) (S : World → Prop) : Nat → Array Bool → Act → World → Prop
  | 0, listed, a, w => Region.ready md ops listed = [] ∧ Q .normal a w
  | fuel + 1, listed, a, w => (Region.ready md ops listed = [] → Q .normal a w) ∧ ∀ i ∈ Region.ready md ops listed, wpOpIn Fence.wide n P ops Q i (fun a' w' => S w' ∧ wpAnyHI n P md ops Q S fuel (listed.setIfInBounds i true) a' w') a w
theorem anyHI_sound : ∀ (fuel : Nat) (listed : Array Bool) (a : Act) (w : World), wpAnyHI n P md ops Q S fuel listed a w → wpAnyIn Fence.wide n P md ops Q fuel listed a w
  | 0, _, _, _, h => h
  | fuel + 1, _, _, _, h => ⟨h.1, fun i hi => wpOpIn_mono (fun a' w' h' => anyHI_sound fuel _ a' w' h'.2) (h.2 i hi)⟩
theorem anyHI_first {i : Nat} {oi : Oper} {v : Value} (hi : ops[i]? = some oi) (hsel : ∀ (j : Nat) (o : Oper) cs b, ops[j]? = some o → o.op ≠ .select cs b) (hQ : ∀ c a w, Q (.panic c) (a.put oi.dst v) w → Q (.panic c) a w) :
    ∀ (fuel : Nat) (listed : Array Bool) (a : Act) (w : World),
      (∀ j oj, ops[j]? = some oj → j ≠ i → listed.getD j true = false → (∀ e ∈ oj.after, Region.binds md e = true → e.on ≠ i) → oi.apart ops oj = true) →
      i ∈ Region.ready md ops listed → YieldsIf P ops S oi v a → S w → wpAnyHI n P md ops Q S fuel (listed.setIfInBounds i true) (a.put oi.dst v) w → wpAnyHI n P md ops Q S (fuel + 1) listed a w := by
  intro fuel
  induction fuel with
  | zero =>
    intro listed a w _ hr hy hS H
    refine ⟨fun h => (by rw [h] at hr; cases hr), fun j hj => ?_⟩
    by_cases hji : j = i
    · subst hji; exact opIn_yields hi hy hS ⟨hS, H⟩
    · have := ready_mono hj hji
      rw [H.1] at this
      cases this
  | succ fuel ih =>
    intro listed a w hfree hr hy hS H
    refine ⟨fun h => (by rw [h] at hr; cases hr), fun j hj => ?_⟩
    by_cases hji : j = i
    · subst hji; exact opIn_yields hi hy hS ⟨hS, H⟩
    · have h1 := H.2 j (ready_mono hj hji)
      obtain ⟨hjun, oj, hoj, hall⟩ := mem_ready.1 hj
      have hnot : ∀ e ∈ oj.after, Region.binds md e = true → e.on ≠ i := fun e he hb heq => by
        have h1 := hall e he hb
        have h0 := (mem_ready.1 hr).1
        rw [heq] at h1
        rcases Nat.lt_or_ge i listed.size with h' | h'
        · simp [h'] at h0 h1; rw [h0] at h1; cases h1
        · simp [Array.getElem?_eq_none h'] at h1
      have h2 := opIn_putIf hoj (hfree j oj hoj hji hjun hnot) (fun cs b => hsel i oi cs b hi) (fun cs b => hsel j oj cs b hoj) hQ hy h1
      have hfree' : ∀ k ok, ops[k]? = some ok → k ≠ i → (listed.setIfInBounds j true).getD k true = false → (∀ e ∈ ok.after, Region.binds md e = true → e.on ≠ i) → oi.apart ops ok = true := fun k ok hk hki hun hno => by
        refine hfree k ok hk hki ?_ hno
        by_cases hjk : j = k
        · subst hjk; exact hjun
        · rw [getD_set_ne true hjk] at hun; exact hun
      refine wpOpIn_mono (fun a' w' h3 => ⟨h3.2.1, ih (listed.setIfInBounds j true) a' w' hfree' (ready_mono hr (Ne.symm hji)) h3.1 h3.2.1 ?_⟩) h2
      rw [Array.setIfInBounds_comm _ _ hji]
      exact h3.2.2
theorem anyHI_take {i : Nat} {oi : Oper} {v : Value} {fuel : Nat} {listed : Array Bool} {a : Act} {w : World} (hi : ops[i]? = some oi) (hs : Region.noSelect ops = true) (hf : Region.free md ops listed i = true) (hr : (Region.ready md ops listed).contains i = true)
    (hQ : ∀ c a w, Q (.panic c) (a.put oi.dst v) w → Q (.panic c) a w) (hy : YieldsIf P ops S oi v a) (hS : S w) (h : wpAnyHI n P md ops Q S fuel (listed.setIfInBounds i true) (a.put oi.dst v) w) : wpAnyHI n P md ops Q S (fuel + 1) listed a w :=
  anyHI_first hi (Region.noSelect_spec hs) hQ fuel listed a w (Region.free_spec hi hf) (by simpa using hr) hy hS h
theorem anyHI_one {i : Nat} {fuel : Nat} {listed : Array Bool} {a : Act} {w : World} (hr : Region.ready md ops listed = [i]) (h : wpOpIn Fence.wide n P ops Q i (fun a' w' => S w' ∧ wpAnyHI n P md ops Q S fuel (listed.setIfInBounds i true) a' w') a w) : wpAnyHI n P md ops Q S (fuel + 1) listed a w :=
  ⟨fun h0 => (by rw [hr] at h0; cases h0), fun j hj => by rw [hr] at hj; rw [List.mem_singleton.1 hj]; exact h⟩
theorem anyHI_done {listed : Array Bool} {a : Act} {w : World} (hr : Region.ready md ops listed = []) (h : Q .normal a w) : ∀ fuel, wpAnyHI n P md ops Q S fuel listed a w
  | 0 => ⟨hr, h⟩
  | _ + 1 => ⟨fun _ => h, by rw [hr]; simp⟩
/-- One operation after the other, in the fence; behind each S is shown anew. -/
def wpSeqI (n : Nat) (P : Program) (ops : Array Oper) (S : World → Prop) (Q : Exit → Act → World → Prop) : List Oper → Act → World → Prop
  | [], a, w => Q .normal a w
  | o :: rest, a, w => wpListIn Fence.wide n P ops (outQ Q fun a' w' => S w' ∧ wpSeqI n P ops S Q rest a' w') [o] a w
theorem oper_wpIn_post {o : Oper} {a : Act} {w : World} {K : Act → World → Prop} {Q Q' : Exit → Act → World → Prop} (hp : ∀ c a w, Q (.panic c) a w → Q' (.panic c) a w) (ho : LetsOut Q → LetsOut Q') (h : o.wpIn Fence.wide n P a w K Q) : o.wpIn Fence.wide n P a w K Q' := by
  unfold Oper.wpIn at *
  refine ⟨h.1, ?_⟩
  have h := h.2
  generalize (o.semAt Fence.wide.round a.eval).run P w = r at *
  cases r with
  | ok x w' =>
    cases x <;> simp only [Oper.uponIn] at h ⊢ <;>
      first
        | exact h
        | exact ⟨h.1, CallsIn.mono h.2 (fun e w'' he => by cases e <;> first | exact he | exact hp _ _ _ he | exact ho he)⟩
        | exact ⟨h.1, RoundIn.mono h.2 (fun e w'' he => by cases e <;> first | exact he | exact hp _ _ _ he | exact ho he)⟩
  | halt x w' => cases x <;> simp only [Oper.uponIn] at h ⊢ <;> first | exact h | exact hp _ _ _ h
theorem letsOut_out {Q : Exit → Act → World → Prop} {N : Act → World → Prop} (h : LetsOut (outQ Q N)) : LetsOut Q := by
  obtain ⟨a, w, h⟩ := h; exact ⟨a, w, h⟩
end
section
variable {P : Program} {n : Nat} {l : List Oper} {Q : Exit → Act → World → Prop} {S : World → Prop}
theorem opIn_of_list {i : Nat} {o : Oper} (ho : l[i]? = some o) {N : Act → World → Prop} {K : Act → World → Prop} {a : Act} {w : World} (hK : ∀ a w, N a w → K a w) (h : wpListIn Fence.wide n P l.toArray (outQ Q N) [o] a w) : wpOpIn Fence.wide n P l.toArray Q i K a w := by
  have ho' : l.toArray[i]? = some o := by simpa using ho
  unfold wpOpIn
  simp only [ho']
  unfold wpListIn at h
  by_cases hw : Region.wanted o (yielded l.toArray a.tmps) = true
  · rw [if_pos hw] at h ⊢
    exact oper_wpIn_post (fun c a w h => h) (fun h => letsOut_out (N := N) h) (Oper.wpIn_mono (fun a w h => hK a w h) h)
  · rw [if_neg hw] at h ⊢
    exact ⟨h.1, hK _ _ h.2⟩
theorem anyHI_chain : ∀ (ts : List Nat) (listed : Array Bool) (a : Act) (w : World), chainB l.toArray listed ts = true → (∀ i ∈ ts, ∃ o, l[i]? = some o) → wpSeqI n P l.toArray S Q (ts.filterMap (l[·]?)) a w → wpAnyHI n P .any l.toArray Q S ts.length listed a w
  | [], listed, a, w, hB, _, h => anyHI_done (by simpa [chainB] using hB) h _
  | t :: ts, listed, a, w, hB, hr, h => by
    obtain ⟨o, ho⟩ := hr t (by simp)
    simp only [chainB, Bool.and_eq_true, beq_iff_eq] at hB
    rw [List.filterMap_cons, ho] at h
    refine anyHI_one hB.1 ?_
    exact opIn_of_list ho (fun a' w' h' => ⟨h'.1, anyHI_chain ts _ a' w' hB.2 (fun j hj => hr j (by simp [hj])) h'.2⟩) h
theorem anyHI_takes (hs : Region.noSelect l.toArray = true) : ∀ (rs : List Nat) (fuel : Nat) (listed : Array Bool) (a : Act) (w : World), takesB l.toArray listed rs = true → (∀ i ∈ rs, ∃ o, l[i]? = some o ∧ yieldsOnly o = true) → S w →
    (∀ c (a : Act) d v w, Q (.panic c) (a.put d v) w → Q (.panic c) a w) →
    wpQuiet P l.toArray S (fun a' => wpAnyHI n P .any l.toArray Q S fuel (listAll listed rs) a' w) (rs.filterMap (l[·]?)) a → wpAnyHI n P .any l.toArray Q S (fuel + rs.length) listed a w
  | [], fuel, listed, a, w, _, _, _, _, h => by simpa [listAll, wpQuiet] using h
  | i :: rs, fuel, listed, a, w, hB, hr, hS, hQ, h => by
    obtain ⟨o, ho, hy⟩ := hr i (by simp)
    simp only [takesB, Bool.and_eq_true] at hB
    obtain ⟨⟨hf, hc⟩, hB⟩ := hB
    have ho' : l.toArray[i]? = some o := by simpa using ho
    rw [List.filterMap_cons, ho] at h
    simp only at h
    unfold wpQuiet at h
    have key : ∃ v, YieldsIf P l.toArray S o v a ∧ wpQuiet P l.toArray S (fun a' => wpAnyHI n P .any l.toArray Q S fuel (listAll listed (i :: rs)) a' w) (rs.filterMap (l[·]?)) (a.put o.dst v) := by
      by_cases hw : Region.wanted o (yielded l.toArray a.tmps) = true
      · rw [if_pos hw] at h
        obtain ⟨v, hv, hn⟩ := h
        refine ⟨v, .inl ⟨hw, fun w1 hw1 => ?_⟩, hn⟩
        have h1 := hv w1 hw1
        unfold Oper.quietAt at h1
        cases hx : (execOp a.eval o).run P w1 with
        | halt x w2 => rw [hx] at h1; exact h1.elim
        | ok r w2 =>
          obtain ⟨v2, rfl⟩ := yieldsOnly_spec hy _ hx
          rw [hx] at h1
          obtain ⟨rfl, rfl⟩ := h1
          rfl
      · rw [if_neg hw] at h
        exact ⟨undef, .inr ⟨by simpa using hw, rfl⟩, h⟩
    obtain ⟨v, hy', hn⟩ := key
    refine anyHI_take ho' hs hf hc (fun c a' w' h' => hQ c a' _ _ w' h') hy' hS ?_
    exact anyHI_takes hs rs fuel _ _ w hB (fun j hj => hr j (by simp [hj])) hS hQ hn
def seqIB (l : List Oper) (rs ts : List Nat) : Bool :=
  Region.noSelect l.toArray && takesB l.toArray (Array.replicate l.length false) rs && chainB l.toArray (listAll (Array.replicate l.length false) rs) ts && decide (rs.length + ts.length = l.length) &&
  rs.all (fun i => atB l i yieldsOnly) && ts.all (fun i => decide (i < l.length))
/-- **A REGION THAT DRAWS ITS ORDER, IN THE FENCE**: its reads (rs) first; the others (ts) in their one order. -/
theorem region_in {id : Nat} {a : Act} {w : World} (B : List Nat) (rs ts : List Nat) (hm : P.follows .mixedOrders = true) (hB : seqIB l rs ts = true) (hQ : ∀ c (a : Act) d v w, Q (.panic c) (a.put d v) w → Q (.panic c) a w)
    (h : wpQuiet P l.toArray (fun u => ∃ t : Kept w B, u = t.u) (fun a' => wpSeqI n P l.toArray (fun u => Turns w u B) Q (ts.filterMap (l[·]?)) a' w.drew) (rs.filterMap (l[·]?)) a) : (Code.region id l.toArray true).wpIn Fence.wide n P Q a w := by
  have e : (fun u => ∃ t : Kept w B, u = t.u) = fun u => Turns w u B := by
    funext u; apply propext
    exact ⟨fun ⟨t, e⟩ => by subst e; exact t.h, fun h => ⟨⟨u, h⟩, rfl⟩⟩
  rw [e] at h
  simp only [seqIB, Bool.and_eq_true, decide_eq_true_eq, List.all_eq_true] at hB
  obtain ⟨⟨⟨⟨⟨h1, h2⟩, h3⟩, h4⟩, h5⟩, h6⟩ := hB
  refine wpIn_region_any hm ?_
  have hsz : l.toArray.size = l.length := by simp
  rw [hsz]
  have := anyHI_takes (P := P) (n := n) (S := fun u => Turns w u B) (Q := Q) h1 rs ts.length (Array.replicate l.length false) a w.drew h2 (fun i hi => by
    obtain ⟨o, ho, hy⟩ := atB_spec (h5 i hi)
    exact ⟨o, ho, hy⟩) (Turns.refl w B).drew hQ (quiet_imp (fun a' h' => anyHI_chain ts _ a' w.drew h3 (fun i hi => ⟨_, List.getElem?_eq_getElem (by simpa using h6 i hi)⟩) h') _ _ h)
  rw [Nat.add_comm, h4] at this
  exact anyHI_sound _ _ _ _ this
/-! Reads and others by turns: (true, i): i may be taken now, whatever else may come up; (false, i): i is the one that may come up. -/
def mixB (ops : Array Oper) : Array Bool → List (Bool × Nat) → Bool
  | listed, [] => (Region.ready .any ops listed).isEmpty
  | listed, (true, i) :: s => Region.free .any ops listed i && (Region.ready .any ops listed).contains i && mixB ops (listed.setIfInBounds i true) s
  | listed, (false, i) :: s => (Region.ready .any ops listed) == [i] && mixB ops (listed.setIfInBounds i true) s
def wpMix (n : Nat) (P : Program) (l : List Oper) (S : World → Prop) (Q : Exit → Act → World → Prop) : List (Bool × Nat) → Act → World → Prop
  | [], a, w => Q .normal a w
  | (true, i) :: s, a, w => match l[i]? with | some o => wpQuiet P l.toArray S (fun a' => wpMix n P l S Q s a' w) [o] a | none => False
  | (false, i) :: s, a, w => match l[i]? with | some o => wpListIn Fence.wide n P l.toArray (outQ Q fun a' w' => S w' ∧ wpMix n P l S Q s a' w') [o] a w | none => False
theorem wpMix_take {i : Nat} {o : Oper} {s : List (Bool × Nat)} {a : Act} {w : World} (ho : l[i]? = some o) (h : wpQuiet P l.toArray S (fun a' => wpMix n P l S Q s a' w) [o] a) : wpMix n P l S Q ((true, i) :: s) a w := by
  unfold wpMix; rw [ho]; exact h
theorem wpMix_one {i : Nat} {o : Oper} {s : List (Bool × Nat)} {a : Act} {w : World} (ho : l[i]? = some o) (h : wpListIn Fence.wide n P l.toArray (outQ Q fun a' w' => S w' ∧ wpMix n P l S Q s a' w') [o] a w) : wpMix n P l S Q ((false, i) :: s) a w := by
  unfold wpMix; rw [ho]; exact h
theorem wpMix_nil {a : Act} {w : World} (h : Q .normal a w) : wpMix n P l S Q [] a w := h
theorem anyHI_mix (hs : Region.noSelect l.toArray = true) (hQ : ∀ c (a : Act) d v w, Q (.panic c) (a.put d v) w → Q (.panic c) a w) : ∀ (s : List (Bool × Nat)) (listed : Array Bool) (a : Act) (w : World), mixB l.toArray listed s = true → (∀ i, (true, i) ∈ s → atB l i yieldsOnly = true) → S w →
    wpMix n P l S Q s a w → wpAnyHI n P .any l.toArray Q S s.length listed a w
  | [], listed, a, w, hB, _, _, h => anyHI_done (by simpa [mixB] using hB) h _
  | (true, i) :: s, listed, a, w, hB, hy, hS, h => by
    obtain ⟨o, ho, hyo⟩ := atB_spec (hy i (by simp))
    simp only [mixB, Bool.and_eq_true] at hB
    obtain ⟨⟨hf, hc⟩, hB⟩ := hB
    have ho' : l.toArray[i]? = some o := by simpa using ho
    unfold wpMix at h
    rw [ho] at h
    simp only [wpQuiet] at h
    have key : ∃ v, YieldsIf P l.toArray S o v a ∧ wpMix n P l S Q s (a.put o.dst v) w := by
      by_cases hw : Region.wanted o (yielded l.toArray a.tmps) = true
      · rw [if_pos hw] at h
        obtain ⟨v, hv, hn⟩ := h
        refine ⟨v, .inl ⟨hw, fun w1 hw1 => ?_⟩, hn⟩
        have h1 := hv w1 hw1
        unfold Oper.quietAt at h1
        cases hx : (execOp a.eval o).run P w1 with
        | halt x w2 => rw [hx] at h1; exact h1.elim
        | ok r w2 =>
          obtain ⟨v2, rfl⟩ := yieldsOnly_spec hyo _ hx
          rw [hx] at h1
          obtain ⟨rfl, rfl⟩ := h1
          rfl
      · rw [if_neg hw] at h
        exact ⟨undef, .inr ⟨by simpa using hw, rfl⟩, h⟩
    obtain ⟨v, hy', hn⟩ := key
    refine anyHI_take ho' hs hf hc (fun c a' w' h' => hQ c a' _ _ w' h') hy' hS ?_
    exact anyHI_mix hs hQ s _ _ w hB (fun j hj => hy j (by simp [hj])) hS hn
  | (false, i) :: s, listed, a, w, hB, hy, hS, h => by
    simp only [mixB, Bool.and_eq_true, beq_iff_eq] at hB
    unfold wpMix at h
    cases ho : l[i]? with
    | none => rw [ho] at h; exact h.elim
    | some o =>
      rw [ho] at h
      refine anyHI_one hB.1 ?_
      exact opIn_of_list ho (fun a' w' h' => ⟨h'.1, anyHI_mix hs hQ s _ a' w' hB.2 (fun j hj => hy j (by simp [hj])) h'.1 h'.2⟩) h
def mixAllB (l : List Oper) (s : List (Bool × Nat)) : Bool :=
  Region.noSelect l.toArray && mixB l.toArray (Array.replicate l.length false) s && decide (s.length = l.length) && s.all (fun x => !x.1 || atB l x.2 yieldsOnly)
/-- **A REGION THAT DRAWS ITS ORDER, IN THE FENCE**: by the turns s; behind each other operation S is shown anew. -/
theorem region_mix {id : Nat} {a : Act} {w : World} (S : World → Prop) (s : List (Bool × Nat)) (hm : P.follows .mixedOrders = true) (hB : mixAllB l s = true) (hQ : ∀ c (a : Act) d v w, Q (.panic c) (a.put d v) w → Q (.panic c) a w) (hS : S w.drew)
    (h : wpMix n P l S Q s a w.drew) : (Code.region id l.toArray true).wpIn Fence.wide n P Q a w := by
  simp only [mixAllB, Bool.and_eq_true, decide_eq_true_eq, List.all_eq_true] at hB
  obtain ⟨⟨⟨h1, h2⟩, h3⟩, h4⟩ := hB
  refine wpIn_region_any hm ?_
  have hsz : l.toArray.size = l.length := by simp
  rw [hsz]
  have := anyHI_mix (P := P) (n := n) (S := S) (Q := Q) h1 hQ s (Array.replicate l.length false) a w.drew h2 (fun i hi => by simpa using h4 (true, i) hi) hS h
  rw [h3] at this
  exact anyHI_sound _ _ _ _ this
/-- Nothing is owed of a panic that cannot be. -/
theorem wpIn_noPanic {c : Code} {a : Act} {w : World} (h : c.wpIn Fence.wide n P (NoPanic Q) a w) : c.wpIn Fence.wide n P Q a w := wpIn_mono h NoPanic.imp
end
end Go.Proofs.Ytfipmpajdkgffaa

namespace Go.Proofs.Ytfipmpajdkgffaa
/-- The operations of region 'id' in a piece of code. -/
def regOps (id : Nat) : Code → Option (List Oper)
  | .region i ops _ => if i = id then some ops.toList else none
  | .seq a b => (regOps id a).or (regOps id b)
  | .cond _ a b => (regOps id a).or (regOps id b)
  | .block _ a => regOps id a
  | .loop a => regOps id a
  | .rangeFunc _ _ a b => (regOps id a).or (regOps id b)
  | .scope a => regOps id a
  | _ => none
def opsOf (id : Nat) (f : Func) : Option (List Oper) := f.body.bind (regOps id)
/-- The code from region 'id' on, in the sequence in which it stands. -/
def codeFrom (id : Nat) : Code → Option Code
  | .region i ops d => if i = id then some (.region i ops d) else none
  | .seq (.region i ops d) b => if i = id then some (.seq (.region i ops d) b) else codeFrom id b
  | .seq a b => (codeFrom id a).or (codeFrom id b)
  | .cond _ a b => (codeFrom id a).or (codeFrom id b)
  | .block _ a => codeFrom id a
  | .loop a => codeFrom id a
  | .rangeFunc _ _ a b => (codeFrom id a).or (codeFrom id b)
  | .scope a => codeFrom id a
  | _ => none
def fromOf (id : Nat) (f : Func) : Option Code := f.body.bind (codeFrom id)
/-- A loop of a function, by the number of the first region in it. -/
def codeLoop (id : Nat) : Code → Option Code
  | .seq a b => (codeLoop id a).or (codeLoop id b)
  | .cond _ a b => (codeLoop id a).or (codeLoop id b)
  | .block _ a => codeLoop id a
  | .loop a => match codeLoop id a with | some c => some c | none => match regOps id a with | some _ => some (.loop a) | none => none
  | .rangeFunc _ _ a b => (codeLoop id a).or (codeLoop id b)
  | .scope a => codeLoop id a
  | _ => none
def loopOf (id : Nat) (f : Func) : Option Code := f.body.bind (codeLoop id)
end Go.Proofs.Ytfipmpajdkgffaa

namespace Go.Proofs.Ytfipmpajdkgffaa
open Go.RowKit
set_option linter.unusedVariables false
set_option linter.unusedSimpArgs false

/-- take i: a read, whatever else may come up; one i: i is the one that may come up; two i j s t: i and j may come up: s behind i, t behind j. -/
inductive Tn where
  | nil
  | take (i : Nat) (t : Tn)
  | one (i : Nat) (t : Tn)
  | two (i j : Nat) (s t : Tn)
def Tn.len : Tn → Nat
  | .nil => 0
  | .take _ t => t.len + 1
  | .one _ t => t.len + 1
  | .two _ _ s _ => s.len + 1
def Tn.takes : List Nat → Tn → Tn
  | [], t => t
  | i :: l, t => .take i (Tn.takes l t)
def Tn.ones : List Nat → Tn → Tn
  | [], t => t
  | i :: l, t => .one i (Tn.ones l t)
def treeB (l : List Oper) : Array Bool → Tn → Bool
  | listed, .nil => (Region.ready .any l.toArray listed).isEmpty
  | listed, .take i t => atB l i yieldsOnly && Region.free .any l.toArray listed i && (Region.ready .any l.toArray listed).contains i && treeB l (listed.setIfInBounds i true) t
  | listed, .one i t => (Region.ready .any l.toArray listed) == [i] && treeB l (listed.setIfInBounds i true) t
  | listed, .two i j s t => (Region.ready .any l.toArray listed) == [i, j] && decide (s.len = t.len) && treeB l (listed.setIfInBounds i true) s && treeB l (listed.setIfInBounds j true) t
section
variable {P : Program} {n : Nat} {l : List Oper} {Q : Exit → Act → World → Prop} {S : World → Prop}
def wpTree (n : Nat) (P : Program) (l : List Oper) (S : World → Prop) (Q : Exit → Act → World → Prop) : Tn → Act → World → Prop
  | .nil, a, w => Q .normal a w
  | .take i t, a, w => match l[i]? with | some o => wpQuiet P l.toArray S (fun a' => wpTree n P l S Q t a' w) [o] a | none => False
  | .one i t, a, w => match l[i]? with | some o => wpListIn Fence.wide n P l.toArray (outQ Q fun a' w' => S w' ∧ wpTree n P l S Q t a' w') [o] a w | none => False
  | .two i j s t, a, w => (match l[i]? with | some o => wpListIn Fence.wide n P l.toArray (outQ Q fun a' w' => S w' ∧ wpTree n P l S Q s a' w') [o] a w | none => False) ∧
      (match l[j]? with | some o => wpListIn Fence.wide n P l.toArray (outQ Q fun a' w' => S w' ∧ wpTree n P l S Q t a' w') [o] a w | none => False)
theorem wpTree_take {i : Nat} {o : Oper} {s : Tn} {a : Act} {w : World} (ho : l[i]? = some o) (h : wpQuiet P l.toArray S (fun a' => wpTree n P l S Q s a' w) [o] a) : wpTree n P l S Q (.take i s) a w := by
  unfold wpTree; rw [ho]; exact h
theorem wpTree_one {i : Nat} {o : Oper} {s : Tn} {a : Act} {w : World} (ho : l[i]? = some o) (h : wpListIn Fence.wide n P l.toArray (outQ Q fun a' w' => S w' ∧ wpTree n P l S Q s a' w') [o] a w) : wpTree n P l S Q (.one i s) a w := by
  unfold wpTree; rw [ho]; exact h
theorem wpTree_two {i j : Nat} {o o' : Oper} {s t : Tn} {a : Act} {w : World} (ho : l[i]? = some o) (ho' : l[j]? = some o') (h : wpListIn Fence.wide n P l.toArray (outQ Q fun a' w' => S w' ∧ wpTree n P l S Q s a' w') [o] a w) (h' : wpListIn Fence.wide n P l.toArray (outQ Q fun a' w' => S w' ∧ wpTree n P l S Q t a' w') [o'] a w) : wpTree n P l S Q (.two i j s t) a w := by
  unfold wpTree; rw [ho, ho']; exact ⟨h, h'⟩
theorem wpTree_nil {a : Act} {w : World} (h : Q .normal a w) : wpTree n P l S Q .nil a w := h
theorem wpTree_skip {i : Nat} {o : Oper} {s : Tn} {a : Act} {w : World} (ho : l[i]? = some o) (hw : Region.wanted o (yielded l.toArray a.tmps) = false) (hS : S w) (h : wpTree n P l S Q s (a.put o.dst undef) w) : wpTree n P l S Q (.one i s) a w := by
  refine wpTree_one ho ?_
  simp only [wpListIn, hw]
  exact ⟨fun _ _ => trivial, outQ_normal hS h⟩
theorem anyHI_two {i j : Nat} {fuel : Nat} {listed : Array Bool} {a : Act} {w : World} {md : Region.Mode} {ops : Array Oper} (hr : Region.ready md ops listed = [i, j]) (h : wpOpIn Fence.wide n P ops Q i (fun a' w' => S w' ∧ wpAnyHI n P md ops Q S fuel (listed.setIfInBounds i true) a' w') a w) (h' : wpOpIn Fence.wide n P ops Q j (fun a' w' => S w' ∧ wpAnyHI n P md ops Q S fuel (listed.setIfInBounds j true) a' w') a w) : wpAnyHI n P md ops Q S (fuel + 1) listed a w :=
  ⟨fun h0 => (by rw [hr] at h0; cases h0), fun k hk => by
    rw [hr] at hk
    rcases List.mem_cons.1 hk with rfl | hk
    · exact h
    · rw [List.mem_singleton.1 hk]; exact h'⟩
theorem anyHI_tree (hs : Region.noSelect l.toArray = true) (hQ : ∀ c (a : Act) d v w, Q (.panic c) (a.put d v) w → Q (.panic c) a w) : ∀ (s : Tn) (listed : Array Bool) (a : Act) (w : World), treeB l listed s = true → S w →
    wpTree n P l S Q s a w → wpAnyHI n P .any l.toArray Q S s.len listed a w
  | .nil, listed, a, w, hB, _, h => anyHI_done (by simpa [treeB] using hB) h _
  | .take i s, listed, a, w, hB, hS, h => by
    simp only [treeB, Bool.and_eq_true] at hB
    obtain ⟨⟨⟨hyo, hf⟩, hc⟩, hB⟩ := hB
    obtain ⟨o, ho, hyo⟩ := atB_spec hyo
    have ho' : l.toArray[i]? = some o := by simpa using ho
    unfold wpTree at h
    rw [ho] at h
    simp only [wpQuiet] at h
    have key : ∃ v, YieldsIf P l.toArray S o v a ∧ wpTree n P l S Q s (a.put o.dst v) w := by
      by_cases hw : Region.wanted o (yielded l.toArray a.tmps) = true
      · rw [if_pos hw] at h
        obtain ⟨v, hv, hn⟩ := h
        refine ⟨v, .inl ⟨hw, fun w1 hw1 => ?_⟩, hn⟩
        have h1 := hv w1 hw1
        unfold Oper.quietAt at h1
        cases hx : (execOp a.eval o).run P w1 with
        | halt x w2 => rw [hx] at h1; exact h1.elim
        | ok r w2 =>
          obtain ⟨v2, rfl⟩ := yieldsOnly_spec hyo _ hx
          rw [hx] at h1
          obtain ⟨rfl, rfl⟩ := h1
          rfl
      · rw [if_neg hw] at h
        exact ⟨undef, .inr ⟨by simpa using hw, rfl⟩, h⟩
    obtain ⟨v, hy', hn⟩ := key
    refine anyHI_take ho' hs hf hc (fun c a' w' h' => hQ c a' _ _ w' h') hy' hS ?_
    exact anyHI_tree hs hQ s _ _ w hB hS hn
  | .one i s, listed, a, w, hB, hS, h => by
    simp only [treeB, Bool.and_eq_true, beq_iff_eq] at hB
    unfold wpTree at h
    cases ho : l[i]? with
    | none => rw [ho] at h; exact h.elim
    | some o =>
      rw [ho] at h
      refine anyHI_one hB.1 ?_
      exact opIn_of_list ho (fun a' w' h' => ⟨h'.1, anyHI_tree hs hQ s _ a' w' hB.2 h'.1 h'.2⟩) h
  | .two i j s t, listed, a, w, hB, hS, h => by
    simp only [treeB, Bool.and_eq_true, beq_iff_eq, decide_eq_true_eq] at hB
    obtain ⟨⟨⟨hr, hl⟩, hBi⟩, hBj⟩ := hB
    unfold wpTree at h
    obtain ⟨hi, hj⟩ := h
    cases ho : l[i]? with
    | none => rw [ho] at hi; exact hi.elim
    | some o =>
      cases ho' : l[j]? with
      | none => rw [ho'] at hj; exact hj.elim
      | some o' =>
        rw [ho] at hi
        rw [ho'] at hj
        refine anyHI_two (fuel := s.len) hr ?_ ?_
        · exact opIn_of_list ho (fun a' w' h' => ⟨h'.1, anyHI_tree hs hQ s _ a' w' hBi h'.1 h'.2⟩) hi
        · exact opIn_of_list ho' (fun a' w' h' => ⟨h'.1, by rw [hl]; exact anyHI_tree hs hQ t _ a' w' hBj h'.1 h'.2⟩) hj
theorem oper_wpIn_of_wp {o : Oper} {K : Act → World → Prop} {a : Act} {w : World} (h : o.wp P a w K Q) : o.wpIn Fence.wide n P a w K Q := by
  unfold Oper.wp at h
  unfold Oper.wpIn
  refine ⟨fun _ _ => trivial, ?_⟩
  rw [sem_wide]
  generalize (execOp a.eval o).run P w = r at *
  cases r with
  | ok x w' =>
    cases x <;> simp only [Oper.upon, Oper.uponIn] at h ⊢ <;>
      first
        | exact h
        | exact ⟨fun h => by simp [Fence.wide] at h, callsIn_wide.2 h⟩
        | exact ⟨fun h => by simp [Fence.wide] at h, fun c cs _ => let ⟨v, w', r, s⟩ := h c cs; ⟨v, w', r, stepsIn_wide.2 s⟩⟩
  | halt x w' => cases x <;> simp only [Oper.upon, Oper.uponIn] at h ⊢ <;> exact h
/-- A law of the plain walk, in the fence. -/
theorem wpListIn_law {ops : Array Oper} {o : Oper} {rest : List Oper} {a : Act} {w : World} (hg : o.guard = none) (h : ∀ K : Act → World → Prop, (∀ a w, wpListIn Fence.wide n P ops Q rest a w → K a w) → o.wp P a w K Q) : wpListIn Fence.wide n P ops Q (o :: rest) a w :=
  wpListIn_plain hg fun K hK => oper_wpIn_of_wp (h K hK)
def treeAllB (l : List Oper) (s : Tn) : Bool :=
  Region.noSelect l.toArray && treeB l (Array.replicate l.length false) s && decide (s.len = l.length)
/-- **A REGION THAT DRAWS ITS ORDER, BY A TREE**; behind each operation that is no read S is shown anew. -/
theorem region_tree {id : Nat} {a : Act} {w : World} (S : World → Prop) (s : Tn) (hm : P.follows .mixedOrders = true) (hB : treeAllB l s = true) (hQ : ∀ c (a : Act) d v w, Q (.panic c) (a.put d v) w → Q (.panic c) a w) (hS : S w.drew)
    (h : wpTree n P l S Q s a w.drew) : (Code.region id l.toArray true).wpIn Fence.wide n P Q a w := by
  simp only [treeAllB, Bool.and_eq_true, decide_eq_true_eq] at hB
  obtain ⟨⟨h1, h2⟩, h3⟩ := hB
  refine wpIn_region_any hm ?_
  have hsz : l.toArray.size = l.length := by simp
  rw [hsz]
  have := anyHI_tree (P := P) (n := n) (S := S) (Q := Q) h1 hQ s (Array.replicate l.length false) a w.drew h2 hS h
  rw [h3] at this
  exact anyHI_sound _ _ _ _ this
/-- The like at a plain walk. -/
theorem region_treeW {id : Nat} {a : Act} {w : World} (S : World → Prop) (s : Tn) (hm : P.follows .mixedOrders = true) (hB : treeAllB l s = true) (hQ : ∀ c (a : Act) d v w, Q (.panic c) (a.put d v) w → Q (.panic c) a w) (hS : S w.drew)
    (h : wpTree 9 P l S Q s a w.drew) : (Code.region id l.toArray true).wp P Q a w := wpIn_wide.1 (region_tree S s hm hB hQ hS h)
end
end Go.Proofs.Ytfipmpajdkgffaa
