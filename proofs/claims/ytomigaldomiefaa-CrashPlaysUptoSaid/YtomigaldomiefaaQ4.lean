/- What follows is laid together from several texts of mine, in their order. -/
import Derived.Test.YtomigaldomiefaaQ1
import Derived.ProofKit
import Derived.OpenShut
import Derived.ShutString
import Derived.ChangeOld
import Derived.Lib.SmallJoins
import Derived.Test.YtomigaldomiefaaRows

namespace Go.Proofs.Ytomigaldomiefaa
open Go.ChangeShapes Go.WideShapes Go.ChangeAt Go.RowKit Go.Joins
set_option linter.unusedVariables false
set_option linter.unusedSimpArgs false

set_option maxRecDepth 10000 in
theorem bytes_view {H : Type} {enc : TypeId × Value → H} (W : World) {base : Nat} {v : Value} {d : DataW H} {p : List MemPlace}
    (o : Value.okWide Try.prog W .any base 22 v) (h : DataW.Trod enc Try.prog W 0 (fun _ => true) true 22 v d p) :
    ∃ (a : Option Addr) (l : List Nat) (cap : Nat), v = .slice a l.length cap ∧ l.length ≤ cap ∧ cap ≤ maxLen ∧ (∀ x ∈ l, x < 256) ∧ Cells8 W a l := by
  obtain ⟨a, len, cap, rfl⟩ := okWide_slice Try.underlying22 o
  obtain ⟨fuel, hf⟩ := h
  rcases open_ints Try.underlying22 Try.underlying5 (by kernel_rfl) hf with ⟨hcs, _⟩ | ⟨x, len', c, zs, hcs, _, hl, hm, hz, _, hcell, hwz⟩
  · simp [Value.cells] at hcs
    obtain ⟨rfl, rfl, rfl⟩ := hcs
    exact ⟨none, [], 0, rfl, Nat.le_refl _, by simp [maxLen], by simp, Cells8.nil⟩
  · simp [Value.cells] at hcs
    obtain ⟨rfl, rfl, rfl⟩ := hcs
    have hzl : zs.length = cap := by simpa using hz
    have hlen : ((zs.take len).map Int.toNat).length = len := by simp; omega
    have hw : ∀ z ∈ zs, 0 ≤ z ∧ z ≤ 255 := by
      intro z hzm
      have := hwz z hzm
      simpa [Lit.wf, IntKind.min, IntKind.max, IntKind.signed, IntKind.bits] using this
    refine ⟨some x, (zs.take len).map Int.toNat, cap, by rw [hlen], by omega, hm, ?_, ?_⟩
    · intro y hy
      rw [List.mem_map] at hy
      obtain ⟨z, hz1, rfl⟩ := hy
      have := hw z (List.mem_of_mem_take hz1)
      omega
    · intro i hi
      rw [hlen] at hi
      obtain ⟨b, off, spot⟩ := x
      have hc := hcell i (by omega)
      have hspot : spot = none := by
        have h0 := hcell 0 (by omega)
        simpa [Addr.add] using World.cell?_spot h0
      subst hspot
      refine ⟨b, off, rfl, ?_⟩
      rw [addr_add] at hc
      rw [hc]
      have h0 : 0 ≤ zs.getD i 0 := by
        have : zs.getD i 0 ∈ zs := by simp [List.getD, show i < zs.length by omega]
        exact (hw _ this).1
      have : ((zs.take len).map Int.toNat).getD i 0 = (zs.getD i 0).toNat := by
        simp [List.getD, List.getElem?_take, hi]
        rw [List.getElem?_eq_getElem (show i < zs.length by omega)]
        simp
      rw [this, Int.toNat_of_nonneg h0]
end Go.Proofs.Ytomigaldomiefaa

namespace Go.Proofs.Ytomigaldomiefaa
open Go.ChangeShapes Go.WideShapes Go.ChangeAt Go.RowKit Go.Joins Go.Deep
set_option linter.unusedVariables false
set_option linter.unusedSimpArgs false

/-- A slice of structs of m ints each: what its cells hold. -/
structure Acts (w : World) (a : Option Addr) (n m : Nat) (f : Nat → Nat → Int) : Prop where
  at0 : ∀ i, i < n → ∃ b off, a = some ⟨b, off, none⟩ ∧ ∀ j, j < m → w.cell? ⟨b, off + (i * m + j), none⟩ = some (.int .i64 (f i j))
  wf : ∀ i j, -9223372036854775808 ≤ f i j ∧ f i j ≤ 9223372036854775807
theorem Acts.cells {w : World} {b off n m : Nat} {f : Nat → Nat → Int} (h : Acts w (some ⟨b, off, none⟩) n m f) (i j : Nat) (hi : i < n) (hj : j < m) : w.cell? ⟨b, off + (i * m + j), none⟩ = some (.int .i64 (f i j)) := by
  obtain ⟨b', off', e, h⟩ := h.at0 i hi
  simp at e
  obtain ⟨rfl, rfl⟩ := e
  exact h j hj
theorem Acts.addr {w : World} {a : Option Addr} {n m : Nat} {f : Nat → Nat → Int} (h : Acts w a n m f) (hn : 0 < n) : ∃ b off, a = some ⟨b, off, none⟩ := by
  obtain ⟨b, off, e, _⟩ := h.at0 0 hn
  exact ⟨b, off, e⟩
theorem Acts.keep {w w' : World} {a : Option Addr} {n m : Nat} {f : Nat → Nat → Int} (h : Acts w a n m f) (hk : ∀ p v, w.cell? p = some v → w'.cell? p = some v) : Acts w' a n m f :=
  ⟨fun i hi => by obtain ⟨b, off, e, hc⟩ := h.at0 i hi; exact ⟨b, off, e, fun j hj => hk _ _ (hc j hj)⟩, h.wf⟩
theorem Acts.lt {w : World} {b off n m : Nat} {f : Nat → Nat → Int} (h : Acts w (some ⟨b, off, none⟩) n m f) (hn : 0 < n) (hm : 0 < m) : b < w.heap.size :=
  World.block_lt_of_cell? w ⟨b, off + (0 * m + 0), none⟩ (h.cells 0 0 hn hm)
theorem acts_view {H : Type} {enc : TypeId × Value → H} {P : Program} (W : World) {base : Nat} {t e : TypeId} {fs : Array Field} {v : Value} {d : DataW H} {p : List MemPlace}
    (ht : P.underlying t = some (.slice e)) (he : P.underlying e = some (.struct fs)) (hone : oneCellFields P fs = true) (hC : P.cellsOf e = fs.size) (tI : TypeId) (hI : P.underlying tI = some (.int .i64)) (hint : fs.all (fun f => f.type == tI) = true) (hp : 0 < fs.size)
    (o : Value.okWide P W .any base t v) (h : DataW.Trod enc P W 0 (fun _ => true) true t v d p) :
    ∃ (a : Option Addr) (n cap : Nat) (f : Nat → Nat → Int), v = .slice a n cap ∧ n ≤ cap ∧ cap ≤ maxLen ∧ Acts W a n fs.size f := by
  obtain ⟨a, len, cap, rfl⟩ := okWide_slice ht o
  obtain ⟨fuel, hf⟩ := h
  rcases open_slice ht hf with ⟨hcs, _⟩ | ⟨x, len', c, m, n, D, Pl, hcs, _, hl, hm, hmm, _, hi⟩
  · simp [Value.cells] at hcs
    obtain ⟨rfl, rfl, rfl⟩ := hcs
    exact ⟨none, 0, 0, fun _ _ => 0, rfl, Nat.le_refl _, by simp [maxLen], fun i hi => by omega, fun _ _ => by omega⟩
  · simp [Value.cells] at hcs
    obtain ⟨rfl, rfl, rfl⟩ := hcs
    simp only [if_true] at hmm
    subst hmm
    have key : ∀ i j, ∃ z : Int, (-9223372036854775808 ≤ z ∧ z ≤ 9223372036854775807) ∧ (i < len → j < fs.size → W.cell? (x.add (i * fs.size + j)) = some (.int .i64 z)) := by
      intro i j
      by_cases h : i < len ∧ j < fs.size
      · obtain ⟨row, hrow, htr⟩ := hi i (by omega)
        rw [hC] at hrow
        obtain ⟨_, hlen, hat⟩ := World.cells?_some hrow
        obtain ⟨xs, k, _, _, _, hxs, hfld⟩ := DataW.trod_struct he htr
        have hfj := Array.getElem?_eq_getElem h.2
        obtain ⟨e1, e2⟩ := hone_of hone j _ hfj
        have hz := hfld j _ hfj
        rw [e1, e2, List.getElem?_eq_getElem (show j < xs.length by omega)] at hz
        have hone1 : (row.drop j).take 1 = [row[j]'(by omega)] := by rw [List.drop_eq_getElem_cons (by omega)]; rfl
        rw [hone1] at hz
        obtain ⟨z, hz1, _, hw⟩ := DataW.trod_int (by have := Array.all_eq_true.1 hint j h.2; simp only [beq_iff_eq] at this; rw [this]; exact hI) hz
        simp at hz1
        refine ⟨z, by simpa [Lit.wf, IntKind.min, IntKind.max, IntKind.signed, IntKind.bits] using hw, fun _ _ => ?_⟩
        rw [← Go.Deep.add_add, hat j h.2, List.getElem?_eq_getElem (by omega), hz1]
      · exact ⟨0, by omega, fun h1 h2 => absurd ⟨h1, h2⟩ h⟩
    obtain ⟨f, hfw, hfc⟩ : ∃ f : Nat → Nat → Int, (∀ i j, -9223372036854775808 ≤ f i j ∧ f i j ≤ 9223372036854775807) ∧ ∀ i j, i < len → j < fs.size → W.cell? (x.add (i * fs.size + j)) = some (.int .i64 (f i j)) :=
      ⟨fun i j => (key i j).choose, fun i j => (key i j).choose_spec.1, fun i j => (key i j).choose_spec.2⟩
    refine ⟨some x, len, m, f, rfl, hl, hm, fun i hin => ?_, hfw⟩
    obtain ⟨b, off, spot⟩ := x
    have hspot : spot = none := by
      have h0 := hfc 0 0 (by omega) hp
      simpa [Addr.add] using World.cell?_spot h0
    subst hspot
    refine ⟨b, off, rfl, fun j hj => ?_⟩
    have := hfc i j hin hj
    rw [addr_add] at this
    exact this
end Go.Proofs.Ytomigaldomiefaa

namespace Go.Proofs.Ytomigaldomiefaa
set_option linter.unusedVariables false
set_option linter.unusedSimpArgs false
theorem bulk_one {H : Type} (d : DataW H) : 1 ≤ Rows.uptoBulk d := by
  cases d with
  | lit l => cases l <;> simp [Rows.uptoBulk]
  | _ => simp [Rows.uptoBulk]
theorem bulk_part {H : Type} {d : DataW H} {l : List (DataW H)} (h : d ∈ l) : Rows.uptoBulk d ≤ Rows.uptoBulkAll l := by
  induction l with
  | nil => cases h
  | cons x r ih =>
    simp only [Rows.uptoBulkAll]
    rcases List.mem_cons.1 h with rfl | h
    · omega
    · have := ih h; omega
theorem bulk_append {H : Type} (l r : List (DataW H)) : Rows.uptoBulkAll (l ++ r) = Rows.uptoBulkAll l + Rows.uptoBulkAll r := by
  induction l with
  | nil => simp [Rows.uptoBulkAll]
  | cons x l ih => simp only [List.cons_append, Rows.uptoBulkAll, ih]; omega
theorem bulk_length {H : Type} (l : List (DataW H)) : l.length ≤ Rows.uptoBulkAll l := by
  induction l with
  | nil => simp [Rows.uptoBulkAll]
  | cons x r ih => have := bulk_one x; simp only [Rows.uptoBulkAll, List.length_cons]; omega
theorem bulk_slice {H : Type} (elems spare : List (DataW H)) : elems.length + spare.length + 1 ≤ Rows.uptoBulk (.slice elems spare) := by
  have h1 := bulk_length elems
  have h2 := bulk_length spare
  simp only [Rows.uptoBulk]
  omega
theorem bulk_elems {H : Type} (elems spare : List (DataW H)) : Rows.uptoBulkAll elems + 1 ≤ Rows.uptoBulk (.slice elems spare) := by
  simp only [Rows.uptoBulk]; omega
theorem bulk_agg {H : Type} (parts : List (DataW H)) : Rows.uptoBulkAll parts + 1 ≤ Rows.uptoBulk (.agg parts) := by
  simp only [Rows.uptoBulk]; omega
theorem bulk_bound {H : Type} {l : List (DataW H)} (hk : Rows.uptoSmall H l = true) : Rows.uptoBulkAll l ≤ 1048576 := by
  have h := of_decide_eq_true hk
  exact h
end Go.Proofs.Ytomigaldomiefaa
