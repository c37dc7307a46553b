/- What follows is laid together from several texts of mine, in their order. -/
import Derived.Test.YthjomnaejhehoaaGreatDoorQ3
import Derived.ProofKit
import Derived.OpenShut
import Derived.ShutString
import Derived.ChangeOld
import Derived.Lib.SmallJoins
import Derived.Test.YthjomnaejhehoaaGreatDoorQ25

namespace Go.Proofs.YthjomnaejhehoaaGreatDoor
open Go.ChangeShapes Go.WideShapes Go.ChangeAt Go.RowKit Go.Joins
set_option linter.unusedVariables false
set_option linter.unusedSimpArgs false

set_option maxRecDepth 10000 in
theorem bytes_view {H : Type} {enc : TypeId × Value → H} (W : World) {base : Nat} {v : Value} {d : DataW H} {p : List MemPlace}
    (o : Value.okWide Tryz.prog W .any base 22 v) (h : DataW.Trod enc Tryz.prog W 0 (fun _ => true) true 22 v d p) :
    ∃ (a : Option Addr) (l : List Nat) (cap : Nat), v = .slice a l.length cap ∧ l.length ≤ cap ∧ cap ≤ maxLen ∧ (∀ x ∈ l, x < 256) ∧ Cells8 W a l := by
  obtain ⟨a, len, cap, rfl⟩ := okWide_slice Tryz.underlying22 o
  obtain ⟨fuel, hf⟩ := h
  rcases open_ints Tryz.underlying22 Tryz.underlying5 (by kernel_rfl) hf with ⟨hcs, _⟩ | ⟨x, len', c, zs, hcs, _, hl, hm, hz, _, hcell, hwz⟩
  · simp [Value.cells] at hcs
    obtain ⟨rfl, rfl, rfl⟩ := hcs
    exact ⟨none, [], 0, rfl, Nat.le_refl _, by simp [maxLen], by simp, Cells8.nil⟩
  · simp [Value.cells] at hcs
    obtain ⟨rfl, rfl, rfl⟩ := hcs
    have hzl : zs.length = cap := by simpa using hz
    have hlen : ((zs.take len).map Int.toNat).length = len := by simp; omega
    have hw : ∀ z ∈ zs, 0 ≤ z ∧ z ≤ 255 := by
      intro z hzm
      have := hwz z hzm
      simpa [Lit.wf, IntKind.min, IntKind.max, IntKind.signed, IntKind.bits] using this
    refine ⟨some x, (zs.take len).map Int.toNat, cap, by rw [hlen], by omega, hm, ?_, ?_⟩
    · intro y hy
      rw [List.mem_map] at hy
      obtain ⟨z, hz1, rfl⟩ := hy
      have := hw z (List.mem_of_mem_take hz1)
      omega
    · intro i hi
      rw [hlen] at hi
      obtain ⟨b, off, spot⟩ := x
      have hc := hcell i (by omega)
      have hspot : spot = none := by
        have h0 := hcell 0 (by omega)
        simpa [Addr.add] using World.cell?_spot h0
      subst hspot
      refine ⟨b, off, rfl, ?_⟩
      rw [addr_add] at hc
      rw [hc]
      have h0 : 0 ≤ zs.getD i 0 := by
        have : zs.getD i 0 ∈ zs := by simp [List.getD, show i < zs.length by omega]
        exact (hw _ this).1
      have : ((zs.take len).map Int.toNat).getD i 0 = (zs.getD i 0).toNat := by
        simp [List.getD, List.getElem?_take, hi]
        rw [List.getElem?_eq_getElem (show i < zs.length by omega)]
        simp
      rw [this, Int.toNat_of_nonneg h0]
end Go.Proofs.YthjomnaejhehoaaGreatDoor

namespace Go.Proofs.YthjomnaejhehoaaGreatDoor
open Go.ChangeShapes Go.WideShapes Go.ChangeAt Go.RowKit Go.Joins Go.Deep
set_option linter.unusedVariables false
set_option linter.unusedSimpArgs false

/-- A slice of structs of m ints each: what its cells hold. -/
structure Acts (w : World) (a : Option Addr) (n m : Nat) (f : Nat → Nat → Int) : Prop where
  at0 : ∀ i, i < n → ∃ b off, a = some ⟨b, off, none⟩ ∧ ∀ j, j < m → w.cell? ⟨b, off + (i * m + j), none⟩ = some (.int .i64 (f i j))
  wf : ∀ i j, -9223372036854775808 ≤ f i j ∧ f i j ≤ 9223372036854775807
theorem Acts.cells {w : World} {b off n m : Nat} {f : Nat → Nat → Int} (h : Acts w (some ⟨b, off, none⟩) n m f) (i j : Nat) (hi : i < n) (hj : j < m) : w.cell? ⟨b, off + (i * m + j), none⟩ = some (.int .i64 (f i j)) := by
  obtain ⟨b', off', e, h⟩ := h.at0 i hi
  simp at e
  obtain ⟨rfl, rfl⟩ := e
  exact h j hj
theorem Acts.addr {w : World} {a : Option Addr} {n m : Nat} {f : Nat → Nat → Int} (h : Acts w a n m f) (hn : 0 < n) : ∃ b off, a = some ⟨b, off, none⟩ := by
  obtain ⟨b, off, e, _⟩ := h.at0 0 hn
  exact ⟨b, off, e⟩
theorem Acts.keep {w w' : World} {a : Option Addr} {n m : Nat} {f : Nat → Nat → Int} (h : Acts w a n m f) (hk : ∀ p v, w.cell? p = some v → w'.cell? p = some v) : Acts w' a n m f :=
  ⟨fun i hi => by obtain ⟨b, off, e, hc⟩ := h.at0 i hi; exact ⟨b, off, e, fun j hj => hk _ _ (hc j hj)⟩, h.wf⟩
theorem Acts.lt {w : World} {b off n m : Nat} {f : Nat → Nat → Int} (h : Acts w (some ⟨b, off, none⟩) n m f) (hn : 0 < n) (hm : 0 < m) : b < w.heap.size :=
  World.block_lt_of_cell? w ⟨b, off + (0 * m + 0), none⟩ (h.cells 0 0 hn hm)
theorem acts_view {H : Type} {enc : TypeId × Value → H} {P : Program} (W : World) {base : Nat} {t e : TypeId} {fs : Array Field} {v : Value} {d : DataW H} {p : List MemPlace}
    (ht : P.underlying t = some (.slice e)) (he : P.underlying e = some (.struct fs)) (hone : oneCellFields P fs = true) (hC : P.cellsOf e = fs.size) (tI : TypeId) (hI : P.underlying tI = some (.int .i64)) (hint : fs.all (fun f => f.type == tI) = true) (hp : 0 < fs.size)
    (o : Value.okWide P W .any base t v) (h : DataW.Trod enc P W 0 (fun _ => true) true t v d p) :
    ∃ (a : Option Addr) (n cap : Nat) (f : Nat → Nat → Int), v = .slice a n cap ∧ n ≤ cap ∧ cap ≤ maxLen ∧ Acts W a n fs.size f := by
  obtain ⟨a, len, cap, rfl⟩ := okWide_slice ht o
  obtain ⟨fuel, hf⟩ := h
  rcases open_slice ht hf with ⟨hcs, _⟩ | ⟨x, len', c, m, n, D, Pl, hcs, _, hl, hm, hmm, _, hi⟩
  · simp [Value.cells] at hcs
    obtain ⟨rfl, rfl, rfl⟩ := hcs
    exact ⟨none, 0, 0, fun _ _ => 0, rfl, Nat.le_refl _, by simp [maxLen], fun i hi => by omega, fun _ _ => by omega⟩
  · simp [Value.cells] at hcs
    obtain ⟨rfl, rfl, rfl⟩ := hcs
    simp only [if_true] at hmm
    subst hmm
    have key : ∀ i j, ∃ z : Int, (-9223372036854775808 ≤ z ∧ z ≤ 9223372036854775807) ∧ (i < len → j < fs.size → W.cell? (x.add (i * fs.size + j)) = some (.int .i64 z)) := by
      intro i j
      by_cases h : i < len ∧ j < fs.size
      · obtain ⟨row, hrow, htr⟩ := hi i (by omega)
        rw [hC] at hrow
        obtain ⟨_, hlen, hat⟩ := World.cells?_some hrow
        obtain ⟨xs, k, _, _, _, hxs, hfld⟩ := DataW.trod_struct he htr
        have hfj := Array.getElem?_eq_getElem h.2
        obtain ⟨e1, e2⟩ := hone_of hone j _ hfj
        have hz := hfld j _ hfj
        rw [e1, e2, List.getElem?_eq_getElem (show j < xs.length by omega)] at hz
        have hone1 : (row.drop j).take 1 = [row[j]'(by omega)] := by rw [List.drop_eq_getElem_cons (by omega)]; rfl
        rw [hone1] at hz
        obtain ⟨z, hz1, _, hw⟩ := DataW.trod_int (by have := Array.all_eq_true.1 hint j h.2; simp only [beq_iff_eq] at this; rw [this]; exact hI) hz
        simp at hz1
        refine ⟨z, by simpa [Lit.wf, IntKind.min, IntKind.max, IntKind.signed, IntKind.bits] using hw, fun _ _ => ?_⟩
        rw [← Go.Deep.add_add, hat j h.2, List.getElem?_eq_getElem (by omega), hz1]
      · exact ⟨0, by omega, fun h1 h2 => absurd ⟨h1, h2⟩ h⟩
    obtain ⟨f, hfw, hfc⟩ : ∃ f : Nat → Nat → Int, (∀ i j, -9223372036854775808 ≤ f i j ∧ f i j ≤ 9223372036854775807) ∧ ∀ i j, i < len → j < fs.size → W.cell? (x.add (i * fs.size + j)) = some (.int .i64 (f i j)) :=
      ⟨fun i j => (key i j).choose, fun i j => (key i j).choose_spec.1, fun i j => (key i j).choose_spec.2⟩
    refine ⟨some x, len, m, f, rfl, hl, hm, fun i hin => ?_, hfw⟩
    obtain ⟨b, off, spot⟩ := x
    have hspot : spot = none := by
      have h0 := hfc 0 0 (by omega) hp
      simpa [Addr.add] using World.cell?_spot h0
    subst hspot
    refine ⟨b, off, rfl, fun j hj => ?_⟩
    have := hfc i j hin hj
    rw [addr_add] at this
    exact this
end Go.Proofs.YthjomnaejhehoaaGreatDoor

namespace Go.Proofs.YthjomnaejhehoaaGreatDoor
open Go.ChangeShapes Go.WideShapes Go.ChangeAt Go.RowKit Go.Joins Go.Deep
set_option linter.unusedVariables false
set_option linter.unusedSimpArgs false

/-- An act. -/
structure Ac where
  op : Int
  Ak : Option Addr
  ck : Nat
  ks : List Int
  Av : Option Addr
  cv : Nat
  vss : List (List Nat)
  n : Int
abbrev Ac.vs (a : Ac) : List Value := [.int .i64 a.op, .slice a.Ak a.ks.length a.ck, .slice a.Av a.vss.length a.cv, .int .i64 a.n]
def vsN (vss : List (List Nat)) : Nat := (vss.map List.length).sum
def Ac.cnt (a : Ac) : Nat := a.ks.length + a.vss.length + vsN a.vss
def acsN (acs : List Ac) : Nat := (acs.map Ac.cnt).sum
theorem SvIs.keep {w w' : World} {A : Option Addr} {vss : List (List Nat)} (h : SvIs w A vss) (hk : ∀ p v, w.cell? p = some v → w'.cell? p = some v) : SvIs w' A vss := fun i hi => by
  obtain ⟨b, off, Ai, c, h1, h2, h3⟩ := h i hi
  exact ⟨b, off, Ai, c, h1, hk _ _ h2, fun t ht => by
    obtain ⟨b', off', e, hc⟩ := h3 t ht
    exact ⟨b', off', e, hk _ _ hc⟩⟩
def R64 (n : Int) : Prop := -9223372036854775808 ≤ n ∧ n ≤ 9223372036854775807
/-- An act's data, where it lies. -/
structure AcAt (w : World) (a : Ac) : Prop where
  ks : CellsI w a.Ak a.ks
  vs : SvIs w a.Av a.vss
  small : ∀ x ∈ a.vss, ∀ u ∈ x, u < 256
  ck : a.ks.length ≤ a.ck ∧ a.ck ≤ maxLen
  cv : a.vss.length ≤ a.cv ∧ a.cv ≤ maxLen
  n : R64 a.n
theorem AcAt.keep {w w' : World} {a : Ac} (h : AcAt w a) (hk : ∀ p v, w.cell? p = some v → w'.cell? p = some v) : AcAt w' a := ⟨h.ks.keep hk, h.vs.keep hk, h.small, h.ck, h.cv, h.n⟩
theorem CellsI.lt {w : World} {A : Option Addr} {vs : List Int} (h : CellsI w A vs) (h0 : 0 < vs.length) : ∀ g o, A = some ⟨g, o, none⟩ → g < w.heap.size := fun g o e => by
  obtain ⟨b, off, e2, hc⟩ := h 0 h0
  rw [e2] at e; injection e with e; injection e with e _ _; subst e
  exact World.block_lt_of_cell? w _ hc
theorem SvIs.lt {w : World} {A : Option Addr} {vss : List (List Nat)} (h : SvIs w A vss) (h0 : 0 < vss.length) : ∀ g o, A = some ⟨g, o, none⟩ → g < w.heap.size := fun g o e => by
  obtain ⟨b, off, Ai, c, e2, hc, _⟩ := h 0 h0
  rw [e2] at e; injection e with e; injection e with e _ _; subst e
  exact World.block_lt_of_cell? w _ hc
/-- Acts in a row. -/
def SlActs (w : World) (A : Option Addr) (acs : List Ac) : Prop := ∀ (i : Nat) (a : Ac), acs[i]? = some a → (∃ b off, A = some ⟨b, off, none⟩ ∧ ∀ j u, a.vs[j]? = some u → w.cell? ⟨b, off + (i * 4 + j), none⟩ = some u) ∧ AcAt w a
theorem SlActs.keep {w w' : World} {A : Option Addr} {acs : List Ac} (h : SlActs w A acs) (hk : ∀ p v, w.cell? p = some v → w'.cell? p = some v) : SlActs w' A acs := fun i a ha => by
  obtain ⟨⟨b, off, e, hc⟩, h2⟩ := h i a ha
  exact ⟨⟨b, off, e, fun j u hu => hk _ _ (hc j u hu)⟩, h2.keep hk⟩
theorem rows_of {α : Type} {Q : Nat → α → Prop} (n : Nat) (h : ∀ i, i < n → ∃ x, Q i x) : ∃ xs : List α, xs.length = n ∧ ∀ i x, xs[i]? = some x → Q i x := by
  induction n with
  | zero => exact ⟨[], rfl, by simp⟩
  | succ n ih =>
    obtain ⟨xs, hl, hq⟩ := ih (fun i hi => h i (by omega))
    obtain ⟨x, hx⟩ := h n (by omega)
    refine ⟨xs ++ [x], by simp [hl], fun i y hy => ?_⟩
    rcases Nat.lt_or_ge i xs.length with hi | hi
    · rw [List.getElem?_append_left hi] at hy; exact hq i y hy
    · rw [List.getElem?_append_right hi] at hy
      have : i = n := by
        have := (List.getElem?_eq_some_iff.1 hy).1
        simp at this; omega
      subst this
      rw [hl, Nat.sub_self] at hy
      simp at hy; subst hy; exact hx
theorem sum_bulk {H α : Type} (f : α → Nat) : ∀ (gs : List α) (l : List (DataW H)), gs.length ≤ l.length → (∀ (i : Nat) g d, gs[i]? = some g → l[i]? = some d → f g ≤ Rows.uptoBulk d) → (gs.map f).sum ≤ Rows.uptoBulkAll l
  | [], l, _, _ => by simp
  | g :: gs, [], h, _ => by simp at h
  | g :: gs, d :: l, h, hf => by
    have h1 := hf 0 g d rfl rfl
    have h2 := sum_bulk f gs l (by simpa using h) (fun i g' d' hg hd => hf (i + 1) g' d' (by simpa using hg) (by simpa using hd))
    simp only [List.map_cons, List.sum_cons, Rows.uptoBulkAll]
    omega
section
variable {H : Type} {enc : TypeId × Value → H} {W : World}
set_option maxRecDepth 100000 in
theorem ints_trod {fuel : Nat} {cs : List Value} {x : DataW H × List MemPlace} (h : DataW.trod enc Tryz.prog W 0 (fun _ => true) true fuel 26 cs = some x) :
    ∃ (a : Option Addr) (l : List Int) (cap : Nat), cs = [.slice a l.length cap] ∧ l.length ≤ cap ∧ cap ≤ maxLen ∧ CellsI W a l ∧ l.length ≤ Rows.uptoBulk x.1 := by
  rcases open_ints Tryz.underlying26 Tryz.underlying3 (by kernel_rfl) h with ⟨rfl, rfl⟩ | ⟨ad, len, cap, zs, rfl, _, hl, hm, hz, rfl, hcell, hwz⟩
  · exact ⟨none, [], 0, rfl, Nat.le_refl _, by simp [maxLen], fun i h => absurd h (by simp), by simp⟩
  · have hzl : zs.length = cap := by simpa using hz
    have hlen : (zs.take len).length = len := by simp; omega
    refine ⟨some ad, zs.take len, cap, by rw [hlen], by omega, hm, fun i hi => ?_, ?_⟩
    · rw [hlen] at hi
      obtain ⟨b, off, spot⟩ := ad
      have hc := hcell i (by omega)
      have hspot : spot = none := by
        have h0 := hcell 0 (by omega)
        simpa [Addr.add] using World.cell?_spot h0
      subst hspot
      refine ⟨b, off, rfl, ?_⟩
      rw [addr_add] at hc
      rw [hc]
      congr 2
      rw [List.getD_eq_getElem?_getD, List.getD_eq_getElem?_getD, List.getElem?_take, if_pos hi]
    · rw [hlen]
      have := bulk_slice (lits .i64 (zs.take len) : List (DataW H)) (lits .i64 (zs.drop len))
      have e1 : (lits .i64 (zs.take len) : List (DataW H)).length = len := by simp [lits]; omega
      rw [e1] at this
      simp only at this ⊢
      omega
set_option maxRecDepth 100000 in
theorem bytes_trod {fuel : Nat} {cs : List Value} {x : DataW H × List MemPlace} (h : DataW.trod enc Tryz.prog W 0 (fun _ => true) true fuel 22 cs = some x) :
    ∃ (a : Option Addr) (l : List Nat) (cap : Nat), cs = [.slice a l.length cap] ∧ l.length ≤ cap ∧ cap ≤ maxLen ∧ (∀ x ∈ l, x < 256) ∧ Cells8 W a l ∧ l.length ≤ Rows.uptoBulk x.1 := by
  rcases open_ints Tryz.underlying22 Tryz.underlying5 (by kernel_rfl) h with ⟨rfl, rfl⟩ | ⟨ad, len, cap, zs, rfl, _, hl, hm, hz, rfl, hcell, hwz⟩
  · exact ⟨none, [], 0, rfl, Nat.le_refl _, by simp [maxLen], by simp, Cells8.nil, by simp⟩
  · have hzl : zs.length = cap := by simpa using hz
    have hlen : ((zs.take len).map Int.toNat).length = len := by simp; omega
    have hw : ∀ z ∈ zs, 0 ≤ z ∧ z ≤ 255 := by
      intro z hzm
      have := hwz z hzm
      simpa [Lit.wf, IntKind.min, IntKind.max, IntKind.signed, IntKind.bits] using this
    refine ⟨some ad, (zs.take len).map Int.toNat, cap, by rw [hlen], by omega, hm, ?_, ?_, ?_⟩
    · intro y hy
      rw [List.mem_map] at hy
      obtain ⟨z, hz1, rfl⟩ := hy
      have := hw z (List.mem_of_mem_take hz1)
      omega
    · intro i hi
      rw [hlen] at hi
      obtain ⟨b, off, spot⟩ := ad
      have hc := hcell i (by omega)
      have hspot : spot = none := by
        have h0 := hcell 0 (by omega)
        simpa [Addr.add] using World.cell?_spot h0
      subst hspot
      refine ⟨b, off, rfl, ?_⟩
      rw [addr_add] at hc
      rw [hc]
      have h0 : 0 ≤ zs.getD i 0 := by
        have : zs.getD i 0 ∈ zs := by simp [List.getD, show i < zs.length by omega]
        exact (hw _ this).1
      have : ((zs.take len).map Int.toNat).getD i 0 = (zs.getD i 0).toNat := by
        simp [List.getD, List.getElem?_take, hi]
        rw [List.getElem?_eq_getElem (show i < zs.length by omega)]
        simp
      rw [this, Int.toNat_of_nonneg h0]
    · rw [hlen]
      have := bulk_slice (lits .u8 (zs.take len) : List (DataW H)) (lits .u8 (zs.drop len))
      have e1 : (lits .u8 (zs.take len) : List (DataW H)).length = len := by simp [lits]; omega
      rw [e1] at this
      simp only at this ⊢
      omega
set_option maxRecDepth 100000 in
theorem reads_trod {fuel : Nat} {cs : List Value} {x : DataW H × List MemPlace} (hf : DataW.trod enc Tryz.prog W 0 (fun _ => true) true fuel 30 cs = some x) :
    ∃ (a : Option Addr) (cap : Nat) (ds : List (List Nat)), cs = [.slice a ds.length cap] ∧ ds.length ≤ cap ∧ cap ≤ maxLen ∧ SvIs W a ds ∧ (∀ d ∈ ds, ∀ u ∈ d, u < 256) ∧ ds.length ≤ Rows.uptoBulk x.1 ∧ vsN ds ≤ Rows.uptoBulk x.1 := by
  rcases open_slice Tryz.underlying30 hf with ⟨rfl, e⟩ | ⟨x, len', c, m, n, D, Pl, rfl, _, hl, hm, hmm, e, hi⟩
  · exact ⟨none, 0, [], rfl, Nat.le_refl _, by simp [maxLen], fun i hi => absurd hi (by simp), by simp, by simp, by simp [vsN]⟩
  · simp only [if_true] at hmm
    subst hmm
    subst e
    have hc1 : Tryz.prog.cellsOf 22 = 1 := by kernel_rfl
    rw [hc1] at hi
    obtain ⟨ds, hlen, hds⟩ := rows_of (Q := fun i (l : List Nat) => ((∃ g off A1 c1, some x = some ⟨g, off, none⟩ ∧ W.cell? ⟨g, off + i, none⟩ = some (.slice A1 l.length c1) ∧ Cells8 W A1 l) ∧ ∀ u ∈ l, u < 256) ∧ l.length ≤ Rows.uptoBulk (D i)) len' (fun i hin => by
      obtain ⟨row, hrow, htr⟩ := hi i (by omega)
      obtain ⟨_, hlen, hat⟩ := World.cells?_some hrow
      obtain ⟨A, l, cap, rfl, _, _, h256, hlies, hbk⟩ := bytes_trod htr
      refine ⟨l, ⟨?_, h256⟩, hbk⟩
      obtain ⟨b, off, spot⟩ := x
      have hspot : spot = none := by
        obtain ⟨row0, hrow0, htr0⟩ := hi 0 (by omega)
        obtain ⟨_, hlen0, hat0⟩ := World.cells?_some hrow0
        have := World.cell?_spot ((hat0 0 (by omega)).trans (List.getElem?_eq_getElem (by omega)))
        simpa [Addr.add] using this
      subst hspot
      refine ⟨b, off, A, cap, rfl, ?_, hlies⟩
      have := hat 0 (by omega)
      rw [addr_add, addr_add] at this
      simpa using this)
    refine ⟨some x, _, ds, by rw [hlen], by omega, hm, fun i hi2 => ?_, fun d hd u hu => ?_, ?_, ?_⟩
    · have h1 := (hds i (ds.getD i []) (by rw [List.getD_eq_getElem?_getD, List.getElem?_eq_getElem hi2]; rfl)).1.1
      obtain ⟨g, off, A1, c1, e1, e2, e3⟩ := h1
      exact ⟨g, off, A1, c1, e1, e2, e3⟩
    · obtain ⟨i, hi2⟩ := List.mem_iff_getElem?.1 hd
      exact (hds i d hi2).1.2 u hu
    · have := bulk_slice ((List.range len').map D) ((List.range (m - len')).map fun j => D (len' + j))
      rw [List.length_map, List.length_range] at this
      show ds.length ≤ Rows.uptoBulk (.slice _ _)
      omega
    · have h1 := sum_bulk List.length ds ((List.range len').map D) (by simp [hlen]) (fun i g d hg hd => by
        rw [List.getElem?_map] at hd
        cases hr : (List.range len')[i]? with
        | none => rw [hr] at hd; cases hd
        | some j =>
          rw [hr] at hd
          injection hd with hd
          obtain ⟨hi2, e⟩ := List.getElem?_eq_some_iff.1 hr
          rw [List.getElem_range] at e
          subst e; subst hd
          exact (hds i g hg).2)
      have h2 := bulk_elems ((List.range len').map D) ((List.range (m - len')).map fun j => D (len' + j))
      show vsN ds ≤ Rows.uptoBulk (.slice _ _)
      unfold vsN
      omega
set_option maxRecDepth 100000 in
theorem act_trod {fuel : Nat} {cs : List Value} {x : DataW H × List MemPlace} (h : DataW.trod enc Tryz.prog W 0 (fun _ => true) true fuel 56 cs = some x) :
    ∃ a : Ac, cs = a.vs ∧ AcAt W a ∧ a.cnt ≤ 2 * Rows.uptoBulk x.1 := by
  obtain ⟨xs, n, rfl, rfl, hcl, hxl, hf⟩ := DataW.trod_struct Tryz.underlying56 h
  have hc4 : Tryz.prog.cellsOf 56 = 4 := by kernel_rfl
  have hci : Tryz.prog.cellsOf 3 = 1 := by kernel_rfl
  have hcw : Tryz.prog.cellsOf 26 = 1 := by kernel_rfl
  have hcb : Tryz.prog.cellsOf 30 = 1 := by kernel_rfl
  rw [hc4] at hcl
  obtain ⟨c0, c1, c2, c3, rfl⟩ : ∃ c0 c1 c2 c3, cs = [c0, c1, c2, c3] := by
    match cs, hcl with | [a, b, c, d], _ => exact ⟨a, b, c, d, rfl⟩
  obtain ⟨x0, x1, x2, x3, rfl⟩ : ∃ x0 x1 x2 x3, xs = [x0, x1, x2, x3] := by
    have : xs.length = 4 := by simpa using hxl
    match xs, this with | [a, b, c, d], _ => exact ⟨a, b, c, d, rfl⟩
  have f0 := hf 0 _ rfl
  have f1 := hf 1 _ rfl
  have f2 := hf 2 _ rfl
  have f3 := hf 3 _ rfl
  simp [hci, hcw, hcb] at f0 f1 f2 f3
  obtain ⟨op, e0, e0', _⟩ := DataW.trod_int Tryz.underlying3 f0
  obtain ⟨A1, ks, k1, e1, q1, q1', hK, b1⟩ := ints_trod f1
  obtain ⟨A2, k2, ds, e2, q2, q2', hD, hd, b2, b3⟩ := reads_trod f2
  obtain ⟨n, e3, e3', wn⟩ := DataW.trod_int Tryz.underlying3 f3
  simp at e0 e1 e2 e3
  subst e0 e1 e2 e3
  refine ⟨⟨op, A1, k1, ks, A2, k2, ds, n⟩, rfl, ⟨hK, hD, hd, ⟨q1, q1'⟩, ⟨q2, q2'⟩, ?_⟩, ?_⟩
  · show R64 n
    unfold R64
    simpa [Lit.wf, IntKind.min, IntKind.max, IntKind.signed, IntKind.bits] using wn
  · have h2 := bulk_agg [x0.1, x1.1, x2.1, x3.1]
    simp only [Rows.uptoBulkAll, List.map_cons, List.map_nil] at *
    unfold Ac.cnt
    simp only
    omega
theorem sum_bulk2 {H α : Type} (f : α → Nat) : ∀ (gs : List α) (l : List (DataW H)), gs.length ≤ l.length → (∀ (i : Nat) g d, gs[i]? = some g → l[i]? = some d → f g ≤ 2 * Rows.uptoBulk d) → (gs.map f).sum ≤ 2 * Rows.uptoBulkAll l
  | [], l, _, _ => by simp
  | g :: gs, [], h, _ => by simp at h
  | g :: gs, d :: l, h, hf => by
    have h1 := hf 0 g d rfl rfl
    have h2 := sum_bulk2 f gs l (by simpa using h) (fun i g' d' hg hd => hf (i + 1) g' d' (by simpa using hg) (by simpa using hd))
    simp only [List.map_cons, List.sum_cons, Rows.uptoBulkAll]
    omega
set_option maxRecDepth 100000 in
theorem slacts_view {base : Nat} {v : Value} {d : DataW H} {p : List MemPlace}
    (o : Value.okWide Tryz.prog W .any base 52 v) (h : DataW.Trod enc Tryz.prog W 0 (fun _ => true) true 52 v d p) :
    ∃ (a : Option Addr) (cap : Nat) (acs : List Ac), v = .slice a acs.length cap ∧ SlActs W a acs ∧ acsN acs ≤ 2 * Rows.uptoBulk d ∧ acs.length ≤ Rows.uptoBulk d := by
  obtain ⟨a, len, cap, rfl⟩ := okWide_slice Tryz.underlying52 o
  obtain ⟨fuel, hf⟩ := h
  rcases open_slice Tryz.underlying52 hf with ⟨hcs, e⟩ | ⟨x, len', c, m, n, D, Pl, hcs, _, hl, hm, hmm, e, hi⟩
  · simp [Value.cells] at hcs
    obtain ⟨rfl, rfl, rfl⟩ := hcs
    exact ⟨none, 0, [], rfl, fun i a ha => by simp at ha, by simp [acsN], by simp⟩
  · simp [Value.cells] at hcs
    obtain ⟨rfl, rfl, rfl⟩ := hcs
    simp only [if_true] at hmm
    subst hmm
    simp only [Prod.mk.injEq] at e
    obtain ⟨rfl, _⟩ := e
    have hc4 : Tryz.prog.cellsOf 56 = 4 := by kernel_rfl
    rw [hc4] at hi
    obtain ⟨acs, hlen, hac⟩ := rows_of (Q := fun i (y : Ac) => ((∃ b off, some x = some ⟨b, off, none⟩ ∧ ∀ j u, y.vs[j]? = some u → W.cell? ⟨b, off + (i * 4 + j), none⟩ = some u) ∧ AcAt W y) ∧ y.cnt ≤ 2 * Rows.uptoBulk (D i)) len (fun i hin => by
      obtain ⟨row, hrow, htr⟩ := hi i (by omega)
      obtain ⟨_, hlen, hat⟩ := World.cells?_some hrow
      obtain ⟨y, rfl, hA, hb⟩ := act_trod htr
      refine ⟨y, ⟨?_, hA⟩, hb⟩
      obtain ⟨b, off, spot⟩ := x
      have hspot : spot = none := by
        obtain ⟨row0, hrow0, htr0⟩ := hi 0 (by omega)
        obtain ⟨_, hlen0, hat0⟩ := World.cells?_some hrow0
        have := World.cell?_spot ((hat0 0 (by omega)).trans (List.getElem?_eq_getElem (by omega)))
        simpa [Addr.add] using this
      subst hspot
      refine ⟨b, off, rfl, fun j u hu => ?_⟩
      have hj : j < y.vs.length := by
        rcases Nat.lt_or_ge j y.vs.length with h1 | h1
        · exact h1
        · rw [List.getElem?_eq_none h1] at hu; cases hu
      have := hat j (by simpa using hj)
      rw [addr_add, addr_add, hu, Nat.add_assoc] at this
      exact this)
    refine ⟨some x, _, acs, by rw [hlen], fun i y hy => (hac i y hy).1, ?_, ?_⟩
    · have h1 := sum_bulk2 Ac.cnt acs ((List.range len).map D) (by simp [hlen]) (fun i g d hg hd => by
        rw [List.getElem?_map] at hd
        cases hr : (List.range len)[i]? with
        | none => rw [hr] at hd; cases hd
        | some j =>
          rw [hr] at hd
          injection hd with hd
          obtain ⟨hi2, e⟩ := List.getElem?_eq_some_iff.1 hr
          rw [List.getElem_range] at e
          subst e; subst hd
          exact (hac i g hg).2)
      have h2 := bulk_elems ((List.range len).map D) ((List.range (m - len)).map fun j => D (len + j))
      show acsN acs ≤ 2 * Rows.uptoBulk (.slice _ _)
      unfold acsN
      omega
    · have := bulk_slice ((List.range len).map D) ((List.range (m - len)).map fun j => D (len + j))
      rw [List.length_map, List.length_range] at this
      show acs.length ≤ Rows.uptoBulk (.slice _ _)
      omega
set_option maxRecDepth 100000 in
theorem ints_seen {base : Nat} {v : Value} {d : DataW H} {p : List MemPlace}
    (o : Value.okWide Tryz.prog W .any base 26 v) (h : DataW.Trod enc Tryz.prog W 0 (fun _ => true) true 26 v d p) :
    ∃ (a : Option Addr) (cap : Nat) (l : List Int), v = .slice a l.length cap ∧ l.length ≤ cap ∧ cap ≤ maxLen ∧ CellsI W a l ∧ l.length ≤ Rows.uptoBulk d := by
  obtain ⟨a, len, cap, rfl⟩ := okWide_slice Tryz.underlying26 o
  obtain ⟨fuel, hf⟩ := h
  obtain ⟨a', l, cap', e, r⟩ := ints_trod hf
  simp [Value.cells] at e
  obtain ⟨rfl, rfl, rfl⟩ := e
  exact ⟨_, _, _, rfl, r⟩
set_option maxRecDepth 100000 in
theorem reads_seen {base : Nat} {v : Value} {d : DataW H} {p : List MemPlace}
    (o : Value.okWide Tryz.prog W .any base 30 v) (h : DataW.Trod enc Tryz.prog W 0 (fun _ => true) true 30 v d p) :
    ∃ (a : Option Addr) (cap : Nat) (ds : List (List Nat)), v = .slice a ds.length cap ∧ ds.length ≤ cap ∧ cap ≤ maxLen ∧ SvIs W a ds ∧ (∀ d ∈ ds, ∀ u ∈ d, u < 256) ∧ ds.length ≤ Rows.uptoBulk d ∧ vsN ds ≤ Rows.uptoBulk d := by
  obtain ⟨a, len, cap, rfl⟩ := okWide_slice Tryz.underlying30 o
  obtain ⟨fuel, hf⟩ := h
  obtain ⟨a', cap', ds, e, r⟩ := reads_trod hf
  simp [Value.cells] at e
  obtain ⟨rfl, rfl, rfl⟩ := e
  exact ⟨_, _, _, rfl, r⟩
end
end Go.Proofs.YthjomnaejhehoaaGreatDoor

namespace Go.Proofs.YthjomnaejhehoaaGreatDoor
open Go.RowKit Go.MapKept Go.ChangeMaps
set_option linter.unusedVariables false
set_option linter.unusedSimpArgs false

/-- What a step of the law leaves. -/
def StepL (w0 : World) (A : Ad) (x : X9) (lo : Prop) (e : Ending) (w' : World) : Prop :=
  e = .returned (.bool true) ∧ ∃ A' x', W9 w0 w' A' x' ∧ x'.U = x'.V ∧ x'.q ≤ x.q + 1 ∧ x'.op = false ∧ x'.S.off = false ∧ x'.S.nb = x.S.nb ∧ A'.vs = A.vs ∧ A'.W = A.W ∧ A'.F = A.F ∧ A'.M = A.M ∧ A'.A = A.A ∧ (A'.cl, A'.X) = (A.cl, A.X) ∧ (lo → x.S.armed = 0 → A'.St = A.St ∧ x'.S.armed = 0 ∧ x'.fail = x.fail)
theorem PutL.step {w0 : World} {A : Ad} {x : X9} {lo : Prop} {e : Ending} {w' : World} (h : PutL w0 A x e w') : StepL w0 A x lo e w' := by
  obtain ⟨h1, A', x', a1, a2, a3, a4, a5, a6, a7, a8, a9, a10, a11, a12, a13, a14⟩ := h
  exact ⟨h1, A', x', a1, a2, a3, a4, a6, a7, a8, a9, a10, a11, a12, a13, fun _ h => ⟨(a14 h).1, (a14 h).2, a5⟩⟩
theorem BackPost.step {w0 : World} {A : Ad} {x : X9} {lo : Prop} (hlo : ¬ lo) {e : Ending} {w' : World} (h : BackPost w0 A x e w') : StepL w0 A x lo e w' := by
  obtain ⟨h1, A', x', a1, a2, a3, a4, a5, a6, a7, a8, a9, a10, a11, a12, a13, a14⟩ := h
  exact ⟨h1, A', x', a1, a2, by omega, a5, a7, a8, a9, a10, a11, a12, a13, a14, fun h => absurd h hlo⟩
theorem StepL.none {w0 w' : World} {A : Ad} {x : X9} {lo : Prop} (h : W9 w0 w' A x) (hU : x.U = x.V) (hop : x.op = false) (hoff : x.S.off = false) : StepL w0 A x lo (.returned (.bool true)) w' :=
  ⟨rfl, A, x, h, hU, Nat.le_succ _, hop, hoff, rfl, rfl, rfl, rfl, rfl, rfl, rfl, fun _ h => ⟨rfl, h, rfl⟩⟩
def Fl.fails (S : Fl) (k : Nat) : Fl := S.setB k { S.b k with failed := true }
theorem fails_b (S : Fl) (k i : Nat) : ((S.fails k).b i).next = (S.b i).next ∧ ((S.fails k).b i).half = (S.b i).half ∧ ((S.fails k).b i).pg = (S.b i).pg ∧ ((S.fails k).b i).failed = (i == k || (S.b i).failed) := by
  unfold Fl.fails
  by_cases e : i = k
  · subst e
    rw [Fl.setB_self]
    simp
  · rw [Fl.setB_ne _ _ e]
    simp [e]
theorem newest_fails (S : Fl) (n k i : Nat) : (S.fails k).newest n i = S.newest n i := by
  obtain ⟨h1, h2, h3, _⟩ := fails_b S k i
  unfold Fl.newest
  rw [h2, h1, newP_congr (S := S) (S' := S.fails k) (n := n) (k := i) (S.b i).next (fun p _ => rd_congr (by rw [h3]) rfl)]
theorem Sl.fails {S : Fl} {n : Nat} {bad : Nat → Bool} {l : List Nat} {a q : Nat} {V : Vals} {G : Nat → Option (Nat × Vals)} (h : Sl S n bad l a q V G) (k : Nat) : Sl (S.fails k) n bad l a q V G :=
  ⟨h.mem, h.lt, fun i hi => (h.new i hi).congr (newest_fails S n k i), h.at', h.less, fun i hi => by rw [(fails_b S k i).2.2.2, h.bad i hi]; simp, by rw [(fails_b S k a).2.1]; exact h.half⟩
theorem filter_one (p : Nat → Bool) (k : Nat) (hp : p k = false) : ∀ l : List Nat, l.Nodup → (l.filter fun i => i == k || p i).length = (l.filter p).length + (if k ∈ l then 1 else 0)
  | [], _ => by simp
  | x :: l, hn => by
    have h1 := List.nodup_cons.1 hn
    have ih := filter_one p k hp l h1.2
    by_cases e : x = k
    · subst e
      rw [if_neg h1.1] at ih
      simp [hp]
      simpa using ih
    · have e1 : (x == k) = false := by simpa using e
      have e2 : (k ∈ x :: l) ↔ k ∈ l := by simp [Ne.symm e]
      cases hx : p x <;> simp only [List.filter_cons, e1, hx, Bool.false_or, e2] <;> simp only [Bool.false_eq_true, if_false, if_true, List.length_cons, ih] <;> omega
theorem nfail_fails {S : Fl} {vs : List Int} (h0 : ∀ y ∈ vs, 0 ≤ y) (hn : vs.Nodup) {k : Nat} (hk : k ∈ natsI vs) (hf : (S.b k).failed = false) : nfail (S.fails k) vs = nfail S vs + 1 := by
  unfold nfail
  have e : (fun i => ((S.fails k).b i).failed) = fun i => i == k || (S.b i).failed := by funext i; exact (fails_b S k i).2.2.2
  rw [e, filter_one _ k hf _ ((natsI_lt h0 hn).imp fun h => Nat.ne_of_lt h), if_pos hk]
theorem W9.fail {w0 w w' : World} {A : Ad} {x : X9} (h : W9 w0 w A x) {k : Nat} (hk : k ∈ natsI A.vs) (hnf : (x.S.b k).failed = false) (hroom : x.fail + 3 ≤ A.vs.length) (hfl : FlIs w' w0.heap.size A.F A.L A.P (x.S.fails k)) (ht : Turns w w' [A.L]) :
    W9 w0 (w'.setCell ⟨A.W, 7, none⟩ (.int .i64 (x.fail + 1 : Nat))) A { x with S := x.S.fails k, fail := x.fail + 1 } := by
  have hT : ∀ g ∈ [A.L], g ∈ medT A.M A.Q A.F A.L A.P x.S.nb := fun g hg => by rw [List.mem_singleton.1 hg]; exact mem_medT.2 (.inr (.inr (.inr (.inl rfl))))
  have hmed : MedIs w' w0.heap.size A.M A.Q A.F A.L A.P (x.S.fails k) 192 x.bad x.md := h.med.flash hfl ht (by simp [flS]) rfl rfl
  have hst := h.st.behind h.med h.hVQ ht hT
  have hhas := h.aside_has ht (fun g hg => .inr (hT g hg)) h.has h.hH.1
  have hrow := ht.row h.row (fun hm => h.med.no_row h.row (by decide) (by decide) (by decide) (by decide) (hT _ hm))
  have hge : ∀ g ∈ [A.L], w0.heap.size ≤ g := fun g hg => h.med.at_least g (hT g hg)
  have hbel : Below w0.heap.size w0 w' := ht.below h.bel h.bel.size hge
  have hls : CellsI w' A.A A.vs ∧ ∀ g o, A.A = some ⟨g, o, none⟩ → g < w0.heap.size ∨ ∃ cs, Row w' g 3 cs := by
    have hAT : ∀ g o, A.A = some ⟨g, o, none⟩ → g ∉ [A.L] := fun g o e hg => by
      rcases h.hA g o e with h1 | ⟨cs, hr⟩
      · have := hge g hg; omega
      · exact h.med.no_row hr (by decide) (by decide) (by decide) (by decide) (hT g hg)
    refine ⟨fun i hi => ?_, fun g o e => ?_⟩
    · obtain ⟨b, off, e, hc⟩ := h.ls i hi
      exact ⟨b, off, e, ht.cell hc (hAT b off e)⟩
    · rcases h.hA g o e with h1 | ⟨cs, hr⟩
      · exact .inl h1
      · exact .inr ⟨cs, ht.row hr (hAT g o e)⟩
  have ht2 : Turns w' (w'.setCell ⟨A.W, 7, none⟩ (.int .i64 (x.fail + 1 : Nat))) [A.W] := (Turns.refl _ _).setCell (by simp) _
  have hw : ∀ g ∈ [A.W], g ∉ medT A.M A.Q A.F A.L A.P (x.S.fails k).nb := fun g hg => by rw [List.mem_singleton.1 hg]; exact hmed.no_row hrow (by decide) (by decide) (by decide) (by decide)
  have hu : NoU8 w' [A.W] := fun g cs hr hg => by
    rw [List.mem_singleton.1 hg] at hr
    exact Row.ne_type hr hrow (by decide) rfl
  obtain ⟨cur, hbr, _⟩ := hst.bl_row
  have hne : ∀ {g : Nat} {t : TypeId} {cs : Array Value}, Row w' g t cs → t ≠ 36 → g ∉ [A.W] := fun hr hn hg => by
    rw [List.mem_singleton.1 hg] at hr; exact Row.ne_type hr hrow hn rfl
  have h0 : 0 ∉ [A.W] := fun hm => by have := List.mem_singleton.1 hm; have := h.hW; have := h.med.hB; omega
  have hAT : ∀ g o, A.A = some ⟨g, o, none⟩ → g ∉ [A.W] := fun g o e hg => by
    rcases hls.2 g o e with h1 | ⟨cs, hr⟩
    · have := List.mem_singleton.1 hg; have := h.hW; omega
    · exact hne hr (by decide) hg
  refine ⟨hmed.aside ht2 hw hu h0, hst.turns ht2 (hne hst.row (by decide)) (hne hbr (by decide)) (fun hm => by rw [List.mem_singleton.1 hm] at hst; exact hst.vals.not_row _ _ hrow) hu, h.hVQ, h.sl.fails k, hhas.turns ht2 (fun hm => by rw [List.mem_singleton.1 hm] at hhas; exact hhas.not_row _ _ hrow), h.hH, h.okU, ?_, h.hW, fun i hi => ?_, fun g o e => ?_, h.ok, h.few, ⟨?_, ?_⟩, fun i hi => ?_, ht2.below hbel hbel.size (fun g hg => by rw [List.mem_singleton.1 hg]; exact h.hW), fun g cs e => by
    have hx := ht.row (h.ext g cs e) (fun hm => h.med.no_row (h.ext g cs e) (by decide) (by decide) (by decide) (by decide) (hT g hm))
    exact ht2.row hx (hne hx (by decide))⟩
  · have := hrow.put 7 (.int .i64 (x.fail + 1 : Nat)); unfold w9cells at this ⊢; simpa using this
  · obtain ⟨b, off, e, hc⟩ := hls.1 i hi
    exact ⟨b, off, e, ht2.cell hc (hAT b off e)⟩
  · rcases hls.2 g o e with h1 | ⟨cs, hr⟩
    · exact .inl h1
    · exact .inr ⟨cs, ht2.row hr (hAT g o e)⟩
  · show nfail (x.S.fails k) A.vs = x.fail + 1
    rw [nfail_fails (fun y hy => (h.ok.2.2 y hy).1) h.ok.2.1 hk hnf, h.nf.1]
  · show x.fail + 1 + 2 ≤ A.vs.length
    omega
  · obtain ⟨a1, a2, _⟩ := fails_b x.S k i
    show ((x.S.fails k).b i).next = 0 ∧ ((x.S.fails k).b i).half = false
    rw [a1, a2]
    exact h.out i hi
end Go.Proofs.YthjomnaejhehoaaGreatDoor
