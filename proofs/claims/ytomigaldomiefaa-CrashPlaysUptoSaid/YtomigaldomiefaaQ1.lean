/- What follows is laid together from several texts of mine, in their order. -/
import Derived.Test.YtomigaldomiefaaRows
import Derived.WalkKit
import Derived.WalkLawsBesides
import Derived.WalkSpells
import Derived.Lib.Hide
import Derived.Deep.QuietTactic
import Derived.BigQuiet
import Derived.Deep.RegionHeld3
import Derived.Deep.DeepCutAuto
import Derived.Deep.DeepFit
import Derived.ChangeKeysEq
import Derived.Maps.AppendAt
import Derived.Deep.AppendLies
import Derived.Deep.RegionLaw
import Derived.Laws.CopyOwn
import Derived.Laws.Tables

namespace Go.Proofs.Ytomigaldomiefaa
open Go.RowKit
set_option linter.unusedVariables false
set_option linter.unusedSimpArgs false

/-- A slice's elements: its cells hold these bytes. -/
def Cells8 (w : World) (a : Option Addr) (l : List Nat) : Prop :=
  ∀ i, i < l.length → ∃ b off, a = some ⟨b, off, none⟩ ∧ w.cell? ⟨b, off + i, none⟩ = some (.int .u8 (l.getD i 0 : Nat))

theorem Cells8.nil {w : World} {a : Option Addr} : Cells8 w a [] := fun i h => by simp at h
theorem Cells8.at0 {w : World} {b off : Nat} {l : List Nat} (h : Cells8 w (some ⟨b, off, none⟩) l) (i : Nat) (hi : i < l.length) :
    w.cell? ⟨b, off + i, none⟩ = some (.int .u8 (l.getD i 0 : Nat)) := by
  obtain ⟨b', off', e, h⟩ := h i hi
  simp at e
  obtain ⟨rfl, rfl⟩ := e
  exact h
theorem Cells8.addr {w : World} {a : Option Addr} {l : List Nat} (h : Cells8 w a l) (hl : l ≠ []) : ∃ b off, a = some ⟨b, off, none⟩ := by
  obtain ⟨b, off, e, _⟩ := h 0 (by cases l <;> simp_all)
  exact ⟨b, off, e⟩

theorem take_getD (l : List Nat) (k : Nat) (h : k < l.length) : l.take (k + 1) = l.take k ++ [l.getD k 0] := by
  rw [List.take_succ_eq_append_getElem h]; simp [List.getD, h]
theorem getD_mem (l : List Nat) (k : Nat) (h : k < l.length) : l.getD k 0 ∈ l := by
  simp [List.getD, h]

/-- Block g is just these cells, of element type t, none frozen. -/
def Row (w : World) (g : Nat) (t : TypeId) (cs : Array Value) : Prop := w.heap[g]? = some (.cells cs t (0, 0))
theorem Row.lt {w : World} {g : Nat} {t : TypeId} {cs : Array Value} (h : Row w g t cs) : g < w.heap.size := by
  unfold Row at h
  exact (Array.getElem?_eq_some_iff.1 h).1
theorem Row.cell {w : World} {g : Nat} {t : TypeId} {cs : Array Value} (h : Row w g t cs) (i : Nat) : w.cell? ⟨g, i, none⟩ = cs[i]? := cell_of_row w g i cs t (0, 0) h
theorem Row.frozen {w : World} {g : Nat} {t : TypeId} {cs : Array Value} (h : Row w g t cs) (i : Nat) : w.frozen? ⟨g, i, none⟩ = false := by
  unfold Row at h; simp [World.frozen?, h]
theorem Row.fresh (w : World) (t : TypeId) (cs : Array Value) : Row (w.alloc (.cells cs t)) w.heap.size t cs := heap_alloc_new w _
theorem Row.drewN {w : World} {g : Nat} {t : TypeId} {cs : Array Value} (h : Row w g t cs) (n : Nat) : Row (w.drewN n) g t cs := h
theorem Row.alloc {w : World} {g : Nat} {t : TypeId} {cs : Array Value} (h : Row w g t cs) (o : Obj) : Row (w.alloc o) g t cs := (Below.heap_alloc w o g h.lt).trans h
theorem Row.put {w : World} {g : Nat} {t : TypeId} {cs : Array Value} (h : Row w g t cs) (i : Nat) (u : Value) : Row (w.setCell ⟨g, i, none⟩ u) g t (cs.setIfInBounds i u) := by
  unfold Row at h ⊢; simp [World.setCell, Array.getElem?_modify, h]
theorem Row.far {w : World} {g : Nat} {t : TypeId} {cs : Array Value} (h : Row w g t cs) {p : Addr} (hp : g ≠ p.block) (u : Value) : Row (w.setCell p u) g t cs := (Below.heap_setCell w p u g hp).trans h
theorem Row.below {w w' : World} {B g : Nat} {t : TypeId} {cs : Array Value} (h : Row w g t cs) (hb : Below B w w') (hg : g < B) : Row w' g t cs := (hb.block g hg).trans h

theorem quiet_add {P : Program} {f : FuncId} {args : Array Value} {w : World} {a n : Nat} {v : Value}
    (h : Calls P f args (w.drewN (a + n)) fun e w' => e = .returned v ∧ ∃ m, w' = (w.drewN (a + n)).drewN m) :
    Calls P f args (w.drewN (a + n)) fun e w'' => e = .returned v ∧ ∃ m, w'' = w.drewN (a + m) :=
  h.mono fun _ _ ⟨he, m, hm⟩ => ⟨he, n + m, by rw [hm, World.drewN_drewN, Nat.add_assoc]⟩
theorem quiet_same {P : Program} {f : FuncId} {args : Array Value} {w : World} {n : Nat} {v : Value}
    (h : Calls P f args (w.drewN n) fun e w' => e = .returned v ∧ w.drewN n = w') : Calls P f args (w.drewN n) fun e w'' => e = .returned v ∧ ∃ m, w'' = w.drewN m :=
  h.mono fun _ _ ⟨he, hm⟩ => ⟨he, n, hm.symm⟩
theorem below_drewN0 {B : Nat} {a w : World} (h : Below B a w) (n : Nat) : Below B a (w.drewN n) := ⟨h.os, h.tape, h.output, h.size, h.block⟩

/-! Arrays of integers, held against one another. -/
section
variable {P : Program} (w : World)
theorem run_eqItems_int (d : Nat) {e : TypeId} (k : IntKind) (xs ys : List Int) (he : P.underlying e = some (.int k)) (hp : P.plainKey e = true) : ∀ is : List Nat, (∀ j ∈ is, j < xs.length ∧ j < ys.length) →
    (Op.eqItems (d + 1) e 1 (xs.map (Value.int k)).toArray (ys.map (Value.int k)).toArray is).run P w = .ok (is.all fun j => xs.getD j 0 == ys.getD j 0) w
  | [], _ => by simp [Op.eqItems]
  | j :: is, h => by
    obtain ⟨h1, h2⟩ := h j (by simp)
    have a := run_part_plain (P := P) w hp (xs := (xs.map (Value.int k)).toArray) (off := j) (v := .int k (xs.getD j 0)) (by simp [List.getD, h1])
    have b := run_part_plain (P := P) w hp (xs := (ys.map (Value.int k)).toArray) (off := j) (v := .int k (ys.getD j 0)) (by simp [List.getD, h2])
    have c := run_equalIn_int (P := P) w d e k k (xs.getD j 0) (ys.getD j 0) he
    simp only [Op.eqItems, Sem.run_bind, Nat.mul_one, a, b, c, Result.andThen_ok, List.all_cons]
    cases xs.getD j 0 == ys.getD j 0
    · simp
    · simpa using run_eqItems_int d k xs ys he hp is (fun x hx => h x (by simp [hx]))

theorem run_eql_ints {t e : TypeId} {n : Nat} {i : TypeInfo} (k : IntKind) (hu : P.underlying t = some (.array n e)) (hi : P.info? e = some i) (he : P.underlying e = some (.int k)) (hp : P.plainKey e = true) (hc : P.cellsOf e = 1)
    (xs ys : List Int) (hx : xs.length = n) (hy : ys.length = n) :
    (binOp .eql t (.agg (xs.map (Value.int k)).toArray) (.agg (ys.map (Value.int k)).toArray)).run P w = .ok (.bool (xs == ys)) w := by
  have h : (Op.equalIn 10000 t (.agg (xs.map (Value.int k)).toArray) (.agg (ys.map (Value.int k)).toArray)).run P w = .ok (xs == ys) w := by
    rw [run_equalIn_array w 9999 _ _ hu hi, hc, run_eqItems_int w 9998 k xs ys he hp _ (fun j hj => by simp at hj; omega)]
    congr 1
    rw [Bool.eq_iff_iff, List.all_eq_true, beq_iff_eq]
    constructor
    · intro h
      apply List.ext_getElem (by omega)
      intro j h1 h2
      have := h j (by simp; omega)
      simpa [List.getD, h1, h2] using this
    · rintro rfl; simp
  simp only [binOp]
  simp [Op.equal, Op.maxDepth, h]
theorem run_neq_ints {t e : TypeId} {n : Nat} {i : TypeInfo} (k : IntKind) (hu : P.underlying t = some (.array n e)) (hi : P.info? e = some i) (he : P.underlying e = some (.int k)) (hp : P.plainKey e = true) (hc : P.cellsOf e = 1)
    (xs ys : List Int) (hx : xs.length = n) (hy : ys.length = n) :
    (binOp .neq t (.agg (xs.map (Value.int k)).toArray) (.agg (ys.map (Value.int k)).toArray)).run P w = .ok (.bool (xs != ys)) w := by
  have h : (Op.equalIn 10000 t (.agg (xs.map (Value.int k)).toArray) (.agg (ys.map (Value.int k)).toArray)).run P w = .ok (xs == ys) w := by
    rw [run_equalIn_array w 9999 _ _ hu hi, hc, run_eqItems_int w 9998 k xs ys he hp _ (fun j hj => by simp at hj; omega)]
    congr 1
    rw [Bool.eq_iff_iff, List.all_eq_true, beq_iff_eq]
    constructor
    · intro h
      apply List.ext_getElem (by omega)
      intro j h1 h2
      have := h j (by simp; omega)
      simpa [List.getD, h1, h2] using this
    · rintro rfl; simp
  simp only [binOp]
  simp [Op.equal, Op.maxDepth, h, bne]
end

theorem bcell {W w1 : World} (hb : Below W.heap.size W w1) : (∀ b o, b < W.heap.size → w1.cell? ⟨b, o, none⟩ = W.cell? ⟨b, o, none⟩) ∧ (∀ b o, b < W.heap.size → w1.frozen? ⟨b, o, none⟩ = W.frozen? ⟨b, o, none⟩) :=
  ⟨fun b o h => hb.cell (p := ⟨b, o, none⟩) h, fun b o h => hb.frozen (p := ⟨b, o, none⟩) h⟩
end Go.Proofs.Ytomigaldomiefaa

namespace Go.Proofs.Ytomigaldomiefaa
set_option linter.unusedVariables false
set_option linter.unusedSimpArgs false

/-- A write that may be: its place, its bytes. -/
abbrev Wr := Nat × List Nat
structure Cr where
  n : Nat
  sz : Nat
  has : Nat → Option (List Nat)
  loose : Nat → Bool
  groups : List (List Wr)
  fly : List Wr
def ofP (l : List Wr) (p : Nat) : List (List Nat) := l.filterMap fun x => if x.1 = p then some x.2 else none
def zs (n : Nat) : List Nat := List.replicate n 0
def Cr.base0 (S : Cr) (p : Nat) : List Nat := (S.has p).getD (zs S.sz)
def Cr.ahead (S : Cr) (k p : Nat) : List (List Nat) := (S.groups.take k).flatMap fun g => ofP g p
def Cr.base (S : Cr) (k p : Nat) : List Nat := (S.ahead k p).getLast?.getD (S.base0 p)
def Cr.level (S : Cr) (k p : Nat) : List (List Nat) := S.base k p :: ((if S.loose p && (S.ahead k p).isEmpty then [zs S.sz] else []) ++ (ofP S.fly p ++ ofP (S.groups.getD k []) p))
def Cr.at (S : Cr) (k p : Nat) (b : List Nat) : Bool := (S.level k p).contains b || b.isEmpty
def inW (l : List Wr) (p : Nat) : Bool := l.any fun x => x.1 == p
def Cr.mov (S : Cr) (p : Nat) : Bool := S.groups.any (fun g => inW g p) || inW S.fly p || S.loose p
def Cr.may (S : Cr) (rd : Nat → List Nat) : Bool :=
  ((List.range S.n).all fun p => S.mov p || S.at 0 p (rd p)) && ((List.range (S.groups.length + 1)).any fun k => (List.range S.n).all fun p => !S.mov p || S.at k p (rd p))
theorem ofP_none {l : List Wr} {p : Nat} (h : inW l p = false) : ofP l p = [] := by
  unfold inW at h
  unfold ofP
  rw [List.filterMap_eq_nil_iff]
  intro x hx
  rw [List.any_eq_false] at h
  have := h x hx
  rw [if_neg (by simpa using this)]
theorem mem_ofP {l : List Wr} {p : Nat} {b : List Nat} : b ∈ ofP l p ↔ (p, b) ∈ l := by
  unfold ofP
  rw [List.mem_filterMap]
  constructor
  · rintro ⟨⟨q, d⟩, hx, he⟩
    by_cases h : q = p
    · rw [if_pos h] at he; injection he with he; subst h; subst he; exact hx
    · rw [if_neg h] at he; cases he
  · intro h; exact ⟨(p, b), h, by simp⟩
theorem still_level {S : Cr} {p : Nat} (h : S.mov p = false) (k : Nat) : S.level k p = [S.base0 p] := by
  unfold Cr.mov at h
  simp only [Bool.or_eq_false_iff] at h
  obtain ⟨⟨hg, hf⟩, hl⟩ := h
  rw [List.any_eq_false] at hg
  have ha : S.ahead k p = [] := by
    unfold Cr.ahead
    rw [List.flatMap_eq_nil_iff]
    intro g hgm
    exact ofP_none (by simpa using hg g (List.mem_of_mem_take hgm))
  have hk : ofP (S.groups.getD k []) p = [] := by
    rw [List.getD_eq_getElem?_getD]
    cases hx : S.groups[k]? with
    | none => rfl
    | some g => exact ofP_none (by simpa using hg g (List.mem_of_getElem? hx))
  unfold Cr.level Cr.base
  rw [ha, hl, ofP_none hf, hk]
  rfl
theorem Cr.may_iff (S : Cr) (rd : Nat → List Nat) : S.may rd = true ↔ ∃ k, k ≤ S.groups.length ∧ ∀ p, p < S.n → S.at k p (rd p) = true := by
  unfold Cr.may
  rw [Bool.and_eq_true, List.all_eq_true, List.any_eq_true]
  simp only [List.mem_range, List.all_eq_true]
  constructor
  · rintro ⟨h1, k, hk, h2⟩
    refine ⟨k, by omega, fun p hp => ?_⟩
    cases hm : S.mov p with
    | true => have := h2 p hp; rw [hm] at this; simpa using this
    | false =>
      have := h1 p hp
      rw [hm] at this
      unfold Cr.at at this ⊢
      rw [still_level hm] at this ⊢
      simpa using this
  · rintro ⟨k, hk, h⟩
    refine ⟨fun p hp => ?_, k, by omega, fun p hp => by rw [h p hp]; simp⟩
    cases hm : S.mov p with
    | true => simp
    | false =>
      have := h p hp
      unfold Cr.at at this ⊢
      rw [still_level hm] at this ⊢
      simpa using this
/-- The state at the start. -/
def cr0 (n sz : Nat) : Cr := ⟨n, sz, fun _ => none, fun _ => false, [], []⟩
/-- CrashStrict, in plain Lean. -/
theorem strict_plain (n : Nat) (one two : Nat) (h1 : one < n) (h2 : two < n) (hne : one ≠ two) (first then' : List Nat) (hf : first.length = 2) (ht : then'.length = 2) (f0 : first.getD 0 0 ≠ 0) (t0 : then'.getD 0 0 ≠ 0) (last : List Wr) (hl : ∀ x ∈ last, x.1 ≠ one ∧ x.1 ≠ two) (rd : Nat → List Nat) (r1 : rd one = [0, 0]) (r2 : rd two = then') :
    ({ cr0 n 2 with groups := [[(one, first)], (two, then') :: last] } : Cr).may rd = false := by
  rw [Bool.eq_false_iff]
  intro h
  rw [Cr.may_iff] at h
  obtain ⟨k, hk, h⟩ := h
  have ho : ∀ p, p = one ∨ p = two → ofP last p = [] := fun p hp => ofP_none (by
    unfold inW
    rw [List.any_eq_false]
    intro x hx
    obtain ⟨a, b⟩ := hl x hx
    rcases hp with rfl | rfl <;> simpa using by assumption)
  have hfz : first ≠ [0, 0] := fun e => f0 (by rw [e]; rfl)
  have htz : then' ≠ [0, 0] := fun e => t0 (by rw [e]; rfl)
  have htn : then' ≠ [] := fun e => by rw [e] at ht; cases ht
  have e1 : ofP ((two, then') :: last) one = [] := by
    have := ho one (.inl rfl)
    unfold ofP at this ⊢
    rw [List.filterMap_cons_none (by simp [Ne.symm hne])]; exact this
  have e2 : ofP [(one, first)] two = [] := by simp [ofP, hne]
  have e3 : ofP [(one, first)] one = [first] := by simp [ofP]
  match k, hk with
  | 0, _ =>
    have h := h two h2
    rw [r2] at h
    simp [Cr.at, Cr.level, Cr.base, Cr.ahead, Cr.base0, cr0, e2, ofP, zs, htz, htn, hne, List.replicate] at h
  | 1, _ =>
    have h := h one h1
    rw [r1] at h
    simp [Cr.at, Cr.level, Cr.base, Cr.ahead, Cr.base0, cr0, e1, e3, show ofP [] one = [] from rfl, Ne.symm hfz] at h
  | 2, _ =>
    have h := h one h1
    rw [r1] at h
    simp [Cr.at, Cr.level, Cr.base, Cr.ahead, Cr.base0, cr0, e1, e3, show ofP [] one = [] from rfl, Ne.symm hfz] at h
  | k + 3, hk => simp at hk
end Go.Proofs.Ytomigaldomiefaa

namespace Go.Proofs.Ytomigaldomiefaa
open Go.RowKit
set_option linter.unusedVariables false
set_option linter.unusedSimpArgs false

theorem addr_add (b off j : Nat) : (⟨b, off, none⟩ : Addr).add j = ⟨b, off + j, none⟩ := by
  unfold Addr.add; split
  · simp_all
  · rfl
theorem addr_add0 (b j : Nat) : (⟨b, 0, none⟩ : Addr).add j = ⟨b, j, none⟩ := by rw [addr_add, Nat.zero_add]
/-- What is appended: m elements of some cells each; where there are any, they lie at an address. -/
structure Src (w : World) (size : Nat) (A : Option Addr) (m : Nat) (news : List Value) : Prop where
  len : news.length = m * size
  lies : 0 < m → ∃ ad, A = some ad ∧ ∀ j u, news[j]? = some u → w.cell? (ad.add j) = some u
theorem Src.of_at {w : World} {size : Nat} {ad : Addr} {m : Nat} {news : List Value} (hl : news.length = m * size) (h : ∀ j u, news[j]? = some u → w.cell? (ad.add j) = some u) : Src w size (some ad) m news :=
  ⟨hl, fun _ => ⟨ad, rfl, h⟩⟩
theorem Src.of_own {w : World} {base : Nat} {e : TypeId} {size n : Nat} {A : Option Addr} {c : Nat} {xs : List Value} (h : w.ownsRow base e size (.slice A n c) n xs) : Src w size A n xs := by
  refine ⟨h.1, fun hn => ?_⟩
  rcases h.2 with ⟨h1, h2⟩ | ⟨g, cap, cur, hv, _, _, _⟩
  · omega
  · injection hv with hv _ _
    subst hv
    exact ⟨_, rfl, h.cells (g := g) rfl⟩
theorem Src.bytes {w : World} {A : Option Addr} {l : List Nat} (h : Cells8 w A l) : Src w 1 A l.length (l.map fun (x : Nat) => Value.int .u8 (x : Int)) := by
  refine ⟨by simp, fun hn => ?_⟩
  obtain ⟨b, off, rfl⟩ := h.addr (by intro e; simp [e] at hn)
  refine ⟨_, rfl, fun j u hu => ?_⟩
  have hj : j < l.length := by
    rcases Nat.lt_or_ge j l.length with h1 | h1
    · exact h1
    · rw [List.getElem?_eq_none (by simpa using h1)] at hu; cases hu
  have := h.at0 j hj
  simp only [List.getElem?_map, List.getElem?_eq_getElem hj, Option.map_some, Option.some.injEq] at hu
  subst hu
  rw [addr_add]
  rw [this]; simp [List.getD, hj]
theorem Src.keep {w w' : World} {size : Nat} {A : Option Addr} {m : Nat} {news : List Value} (h : Src w size A m news) (hk : ∀ a v, w.cell? a = some v → w'.cell? a = some v) : Src w' size A m news :=
  ⟨h.len, fun hm => by obtain ⟨ad, e, hc⟩ := h.lies hm; exact ⟨ad, e, fun j u hu => hk _ _ (hc j u hu)⟩⟩

section
variable {P : Program} (w : World)
theorem run_append_src (base : Nat) (t ty e : TypeId) (i : TypeInfo) (z : Value) (size bytes : Nat) (ht : P.underlying t = some (.slice e)) (hi : P.info? e = some i) (hz : i.zero = some z)
    (hsize : i.size = size) (hby : i.bytes = bytes) (hzs : z.cells.size = size) (hsz : 0 < size)
    (v : Value) (n : Nat) (xs : List Value) (hown : w.ownsRow base e size v n xs)
    (A : Option Addr) (m c : Nat) (news : List Value) (hs : Src w size A m news) (h1 : ∀ u ∈ news, u.oneCell' = true)
    (h63 : n + m ≤ maxLen) (hbytes : (n + m) * bytes ≤ 140737488355328) (hbase : base ≤ w.heap.size) :
    ∃ v' w', (Builtin.append_ #[t, t] ty #[v, .slice A m c]).run P w = .ok v' w' ∧ w'.ownsRow base e size v' (n + m) (xs ++ news) ∧ w.grownBy w' v.ownBlock ∧
      (v'.ownBlock = v.ownBlock ∨ v'.ownBlock = some w.heap.size) := by
  cases A with
  | none =>
    have hm : m = 0 := by
      rcases Nat.eq_zero_or_pos m with h | h
      · exact h
      · obtain ⟨_, e, _⟩ := hs.lies h; cases e
    subst hm
    have hnil : news = [] := List.eq_nil_of_length_eq_zero (by simpa using hs.len)
    subst hnil
    refine ⟨v, w, ?_, by simpa using hown, ⟨rfl, rfl, rfl, Nat.le_refl _, fun _ _ _ => rfl⟩, .inl rfl⟩
    rcases hown.2 with ⟨rfl, rfl⟩ | ⟨g, cap, cur, rfl, _, _, hnc, _⟩
    · simp [Builtin.append_, run_underlying ht, sizeOf, typeInfo, hi, Builtin.lenOf, Builtin.firstCells]
    · simp [Builtin.append_, run_underlying ht, sizeOf, typeInfo, hi, Builtin.lenOf, Builtin.firstCells, hnc, storeCells]
  | some ad =>
    have hcells : ∀ j u, news[j]? = some u → w.cell? (ad.add j) = some u := by
      intro j u hu
      rcases Nat.eq_zero_or_pos m with h | h
      · subst h
        have hnil : news = [] := List.eq_nil_of_length_eq_zero (by simpa using hs.len)
        subst hnil; simp at hu
      · obtain ⟨ad', e, hc⟩ := hs.lies h
        injection e with e; subst e; exact hc j u hu
    obtain ⟨v', w', hr, h2, h3, _, h5⟩ := run_append_own_at (P := P) w base t ty e i z size bytes ht hi hz hsize hby hzs hsz v n xs hown ad m c news hs.len hcells h1 h63 hbytes hbase
    exact ⟨v', w', hr, h2, h3, h5⟩

theorem wp_append_src {o : Oper} {a : Act} {K : Act → World → Prop} {Q : Exit → Act → World → Prop} (s x : Operand) (t : TypeId)
    (ho : o.op = .call { callee := .builtin .append, args := #[s, x], argTypes := #[t, t] })
    (base : Nat) (e : TypeId) (i : TypeInfo) (z : Value) (size bytes : Nat) (ht : P.underlying t = some (.slice e)) (hi : P.info? e = some i) (hz : i.zero = some z)
    (hsize : i.size = size) (hby : i.bytes = bytes) (hzs : z.cells.size = size) (hsz : 0 < size)
    (v : Value) (n : Nat) (xs : List Value) (hv : a.eval s = v) (hown : w.ownsRow base e size v n xs)
    (A : Option Addr) (m c : Nat) (news : List Value) (hx : a.eval x = .slice A m c) (hs : Src w size A m news) (h1 : ∀ u ∈ news, u.oneCell' = true)
    (h63 : n + m ≤ maxLen) (hbytes : (n + m) * bytes ≤ 140737488355328) (hbase : base ≤ w.heap.size)
    (h : ∀ v' w', w'.ownsRow base e size v' (n + m) (xs ++ news) → w.grownBy w' v.ownBlock → (v'.ownBlock = v.ownBlock ∨ v'.ownBlock = some w.heap.size) → K (a.put o.dst v') w') : o.wp P a w K Q := by
  obtain ⟨v', w', hr, h2, h3, h4⟩ := run_append_src (P := P) w base t o.type e i z size bytes ht hi hz hsize hby hzs hsz v n xs hown A m c news hs h1 h63 hbytes hbase
  unfold Oper.wp execOp
  simp only [ho, resolve, invoke, builtin, Sem.run_bind, Sem.run_pure, Result.andThen_ok, List.map_toArray, List.map_cons, List.map_nil, hv, hx, hr]
  exact h v' w' h2 h3 h4

theorem wpList_append_src {ops : Array Oper} {rest : List Oper} {o : Oper} {a : Act} {Q : Exit → Act → World → Prop} (hgd : o.guard = none) (s x : Operand) (t : TypeId)
    (ho : o.op = .call { callee := .builtin .append, args := #[s, x], argTypes := #[t, t] })
    (base : Nat) (e : TypeId) (i : TypeInfo) (z : Value) (size bytes : Nat) (ht : P.underlying t = some (.slice e)) (hi : P.info? e = some i) (hz : i.zero = some z)
    (hsize : i.size = size) (hby : i.bytes = bytes) (hzs : z.cells.size = size) (hsz : 0 < size)
    (v : Value) (n : Nat) (xs : List Value) (hv : a.eval s = v) (hown : w.ownsRow base e size v n xs)
    (A : Option Addr) (m c : Nat) (news : List Value) (hx : a.eval x = .slice A m c) (hs : Src w size A m news) (h1 : ∀ u ∈ news, u.oneCell' = true)
    (h63 : n + m ≤ maxLen) (hbytes : (n + m) * bytes ≤ 140737488355328) (hbase : base ≤ w.heap.size)
    (h : ∀ v' w', w'.ownsRow base e size v' (n + m) (xs ++ news) → w.grownBy w' v.ownBlock → (v'.ownBlock = v.ownBlock ∨ v'.ownBlock = some w.heap.size) → wpList P ops Q rest (a.put o.dst v') w') : wpList P ops Q (o :: rest) a w :=
  wpList_plain hgd fun _ hK => wp_append_src w s x t ho base e i z size bytes ht hi hz hsize hby hzs hsz v n xs hv hown A m c news hx hs h1 h63 hbytes hbase fun v' w' h2 h3 h4 => hK _ _ (h v' w' h2 h3 h4)

theorem step_append_src {ops : Array Oper} {o : Oper} {a : Act} {K : Act → World → Prop} {Q : Exit → Act → World → Prop} {E : Prop} (hgd : o.guard = none) (s x : Operand) (t : TypeId)
    (ho : o.op = .call { callee := .builtin .append, args := #[s, x], argTypes := #[t, t] })
    (base : Nat) (e : TypeId) (i : TypeInfo) (z : Value) (size bytes : Nat) (ht : P.underlying t = some (.slice e)) (hi : P.info? e = some i) (hz : i.zero = some z)
    (hsize : i.size = size) (hby : i.bytes = bytes) (hzs : z.cells.size = size) (hsz : 0 < size)
    (v : Value) (n : Nat) (xs : List Value) (hv : a.eval s = v) (hown : w.ownsRow base e size v n xs)
    (A : Option Addr) (m c : Nat) (news : List Value) (hx : a.eval x = .slice A m c) (hs : Src w size A m news) (h1 : ∀ u ∈ news, u.oneCell' = true)
    (h63 : n + m ≤ maxLen) (hbytes : (n + m) * bytes ≤ 140737488355328) (hbase : base ≤ w.heap.size)
    (h : ∀ v' w', w'.ownsRow base e size v' (n + m) (xs ++ news) → w.grownBy w' v.ownBlock → (v'.ownBlock = v.ownBlock ∨ v'.ownBlock = some w.heap.size) → K (a.put o.dst v') w') :
    if Region.wanted o (yielded ops a.tmps) = true then Oper.wp P o a w K Q else E := by
  rw [if_pos (by simp [Region.wanted, hgd])]
  exact wp_append_src w s x t ho base e i z size bytes ht hi hz hsize hby hzs hsz v n xs hv hown A m c news hx hs h1 h63 hbytes hbase h
end

theorem wpList_copy_src {P : Program} {w : World} {ops : Array Oper} {rest : List Oper} {o : Oper} {a : Act} {Q : Exit → Act → World → Prop} (hgd : o.guard = none) (d s : Operand) (dT sT : TypeId)
    (ho : o.op = .call { callee := .builtin .copy, args := #[d, s], argTypes := #[dT, sT] }) (elem : TypeId) (hu : P.underlying dT = some (.slice elem)) (hsz : (P.info? elem).map (·.size) = some 1)
    (A : Option Addr) (dLen dCap m mc : Nat) (g off : Nat) (hd : a.eval d = .slice (some ⟨g, off, none⟩) dLen dCap) (hx : a.eval s = .slice A m mc)
    (cur : List Value) (t : TypeId) (hg : Row w g t cur.toArray) (news : List Value) (hs : Src w 1 A m news) (h1 : ∀ u ∈ news, u.oneCell' = true)
    (hfit : off + min m dLen ≤ cur.length) (B : Nat) (w0 : World) (hb : Below B w0 w) (hBg : B ≤ g)
    (h : ∀ w', Hid (Row w' g t (splice cur off (news.take dLen)).toArray) → Below B w0 w' → wpList P ops Q rest (a.put o.dst (goInt ((min m dLen : Nat) : Int))) w') :
    wpList P ops Q (o :: rest) a w := by
  have hl : news.length = m := by simpa using hs.len
  have hcl : (news.take dLen).length = min m dLen := by rw [List.length_take, hl, Nat.min_comm]
  refine wpList_copy_splice hgd d s dT sT ho elem hu hsz (some ⟨g, off, none⟩) A dLen dCap m mc hd hx g off cur t hg (news.take dLen) (by rw [hcl]) ?_ (by rw [hcl]; exact hfit) (fun v hv => h1 v (List.mem_of_mem_take hv)) B w0 hb hBg ?_
  · intro hp
    obtain ⟨ad, e, hc⟩ := hs.lies (by omega)
    refine ⟨rfl, ad, e, fun j v hv => hc j v ?_⟩
    rw [List.getElem?_take] at hv
    split at hv
    · exact hv
    · cases hv
  · intro w' h1 h2
    have := h w' h1 h2
    rw [hcl]; exact this

/-- A whole array loaded from a block that is known whole. -/
theorem wpList_load_whole {P : Program} {w : World} {ops : Array Oper} {rest : List Oper} {o : Oper} {a : Act} {Q : Exit → Act → World → Prop} (hgd : o.guard = none) (ty : TypeId) (x : Operand) (ho : o.op = .load ty x)
    (g : Nat) (hx : a.eval x = .pointer (some ⟨g, 0, none⟩)) (t : TypeId) (cs : Array Value) (hg : Row w g t cs) (n : Nat) (e : TypeId)
    (hu : P.underlying ty = some (.array n e)) (hi : (P.info? ty).map (·.size) = some cs.size)
    (h : wpList P ops Q rest (a.put o.dst (.agg cs)) w) : wpList P ops Q (o :: rest) a w :=
  wpList_load_row hgd ty x ho g hx t cs (0, 0) _ hg hu rfl hi h
/-- A whole array stored over a block that is known whole. -/
theorem wpList_store_whole {P : Program} {w : World} {ops : Array Oper} {rest : List Oper} {o : Oper} {a : Act} {Q : Exit → Act → World → Prop} (hgd : o.guard = none) (ty : TypeId) (x y : Operand) (ho : o.op = .store ty x y)
    (g : Nat) (cells : Array Value) (hx : a.eval x = .pointer (some ⟨g, 0, none⟩)) (hy : a.eval y = .agg cells)
    (t : TypeId) (old : Array Value) (hg : Row w g t old) (hi : (P.info? ty).map (·.size) = some cells.size)
    (hold : old.size = cells.size) (h1 : cells.all (·.oneCell') = true)
    (h : ∀ w', Hid (Row w' g t cells) → w.grownBy w' (some g) → wpList P ops Q rest (a.put o.dst undef) w') : wpList P ops Q (o :: rest) a w :=
  wpList_store_row hgd ty x y ho g cells hx hy t old hg hi hold h1
    (h _ (setRow_heap w g old cells t _ hg) ⟨rfl, rfl, rfl, by simp, fun k _ hk => setRow_other w g k _ (fun e => hk (by rw [e]))⟩)
theorem grown_row {w w' : World} {g g' : Nat} {t : TypeId} {cs : Array Value} (h : Row w g t cs) (hg : w.grownBy w' (some g')) (hne : g ≠ g') : Row w' g t cs := (hg.block g h.lt (by simpa using hne)).trans h
theorem below_grown {B : Nat} {a w w' : World} {g : Nat} (h : Below B a w) (hg : w.grownBy w' (some g)) (hB : B ≤ w.heap.size) (hr : B ≤ g) : Below B a w' := h.grown hg hB (fun k hk => by injection hk with hk; omega)

/-- The cells that an owned row of bytes shows. -/
theorem Cells8.of_own {w : World} {base : Nat} {e : TypeId} {A : Option Addr} {n c : Nat} {l : List Nat} (h : w.ownsRow base e 1 (.slice A n c) n (l.map fun (x : Nat) => Value.int .u8 (x : Int))) : n = l.length ∧ Cells8 w A l := by
  have hn : n = l.length := by have := h.1; simpa using this.symm
  refine ⟨hn, fun i hi => ?_⟩
  rcases h.2 with ⟨h1, h2⟩ | ⟨g, cap, cur, hv, _, _, _⟩
  · omega
  · injection hv with hv _ _
    subst hv
    refine ⟨g, 0, rfl, ?_⟩
    have := h.cells (g := g) rfl i (.int .u8 (l.getD i 0 : Nat)) (by simp [List.getD, hi])
    rw [addr_add] at this
    exact this
theorem own_at {w : World} {base : Nat} {e : TypeId} {size : Nat} {v : Value} {n : Nat} {xs : List Value} (h : w.ownsRow base e size v n xs) (hn : 0 < n) : ∃ g c, v = .slice (some ⟨g, 0, none⟩) n c ∧ base ≤ g ∧ g < w.heap.size ∧ n ≤ c ∧ c ≤ maxLen := by
  have hlt := h.lt
  rcases h.2 with ⟨rfl, rfl⟩ | ⟨g, cap, cur, rfl, h0, _, h1, h2, _⟩
  · omega
  · exact ⟨g, cap, rfl, h0, (hlt g rfl).2, h1, h2⟩
theorem own_shape {w : World} {base : Nat} {e : TypeId} {size : Nat} {v : Value} {n : Nat} {xs : List Value} (h : w.ownsRow base e size v n xs) : ∃ A c, v = .slice A n c ∧ n ≤ c ∧ c ≤ maxLen := by
  rcases h.2 with ⟨rfl, rfl⟩ | ⟨g, cap, cur, rfl, _, _, h1, h2, _⟩
  · exact ⟨none, 0, rfl, Nat.le_refl _, by simp [maxLen]⟩
  · exact ⟨_, _, rfl, h1, h2⟩
theorem Cells8.below {w w' : World} {b off : Nat} {l : List Nat} {B : Nat} (h : Cells8 w (some ⟨b, off, none⟩) l) (hb : Below B w w') (hlt : b < B) : Cells8 w' (some ⟨b, off, none⟩) l := by
  intro i hi
  refine ⟨b, off, rfl, ?_⟩
  rw [hb.cell (p := ⟨b, off + i, none⟩) hlt]
  exact h.at0 i hi
theorem Cells8.keep {w w' : World} {a : Option Addr} {l : List Nat} (h : Cells8 w a l) (hk : ∀ p v, w.cell? p = some v → w'.cell? p = some v) : Cells8 w' a l := by
  intro i hi
  obtain ⟨b, off, e, hc⟩ := h i hi
  exact ⟨b, off, e, hk _ _ hc⟩
/-- Old cells stay, as one fact: below a heap's size nothing turns. -/
theorem keep_below {w w' : World} (hb : Below w.heap.size w w') : ∀ p v, w.cell? p = some v → w'.cell? p = some v := fun p v h => by
  rw [hb.cell (World.block_lt_of_cell? w p h)]; exact h
theorem keep_grown {w w' : World} (hg : w.grownBy w' none) : ∀ p v, w.cell? p = some v → w'.cell? p = some v := fun p v h => hg.cell h (by simp)
theorem grown_below {w w' : World} (h : Below w.heap.size w w') (row : Option Nat) : w.grownBy w' row := ⟨h.os, h.tape, h.output, h.size, fun i hi _ => h.block i hi⟩
theorem own_below {w w' : World} {base : Nat} {e : TypeId} {size : Nat} {v : Value} {n : Nat} {xs : List Value} (h : w.ownsRow base e size v n xs) (hb : Below w.heap.size w w') : w'.ownsRow base e size v n xs :=
  h.kept (grown_below hb none) (by cases hv : v.ownBlock <;> simp)
theorem own_drewN {w : World} {base : Nat} {e : TypeId} {size : Nat} {v : Value} {n : Nat} {xs : List Value} (h : w.ownsRow base e size v n xs) (k : Nat) : (w.drewN k).ownsRow base e size v n xs := h
theorem own_mono {w : World} {base base' : Nat} {e : TypeId} {size : Nat} {v : Value} {n : Nat} {xs : List Value} (h : w.ownsRow base e size v n xs) (hb : base' ≤ base) : w.ownsRow base' e size v n xs := by
  refine ⟨h.1, ?_⟩
  rcases h.2 with h1 | ⟨g, cap, cur, h1, h2, h3⟩
  · exact .inl h1
  · exact .inr ⟨g, cap, cur, h1, Nat.le_trans hb h2, h3⟩
end Go.Proofs.Ytomigaldomiefaa
