/- A slice of structs of one-cell fields among a law's arguments. -/
import Derived.Test.YtomigaldomiefaaOpenBytes
namespace Go.Proofs.Ytomigaldomiefaa
open Go.ChangeShapes Go.WideShapes Go.ChangeAt Go.RowKit Go.Joins Go.Deep
set_option linter.unusedVariables false
set_option linter.unusedSimpArgs false

/-- A slice of structs of m ints each: what its cells hold. -/
structure Acts (w : World) (a : Option Addr) (n m : Nat) (f : Nat → Nat → Int) : Prop where
  at0 : ∀ i, i < n → ∃ b off, a = some ⟨b, off, none⟩ ∧ ∀ j, j < m → w.cell? ⟨b, off + (i * m + j), none⟩ = some (.int .i64 (f i j))
  wf : ∀ i j, -9223372036854775808 ≤ f i j ∧ f i j ≤ 9223372036854775807
theorem Acts.cells {w : World} {b off n m : Nat} {f : Nat → Nat → Int} (h : Acts w (some ⟨b, off, none⟩) n m f) (i j : Nat) (hi : i < n) (hj : j < m) : w.cell? ⟨b, off + (i * m + j), none⟩ = some (.int .i64 (f i j)) := by
  obtain ⟨b', off', e, h⟩ := h.at0 i hi
  simp at e
  obtain ⟨rfl, rfl⟩ := e
  exact h j hj
theorem Acts.addr {w : World} {a : Option Addr} {n m : Nat} {f : Nat → Nat → Int} (h : Acts w a n m f) (hn : 0 < n) : ∃ b off, a = some ⟨b, off, none⟩ := by
  obtain ⟨b, off, e, _⟩ := h.at0 0 hn
  exact ⟨b, off, e⟩
theorem Acts.keep {w w' : World} {a : Option Addr} {n m : Nat} {f : Nat → Nat → Int} (h : Acts w a n m f) (hk : ∀ p v, w.cell? p = some v → w'.cell? p = some v) : Acts w' a n m f :=
  ⟨fun i hi => by obtain ⟨b, off, e, hc⟩ := h.at0 i hi; exact ⟨b, off, e, fun j hj => hk _ _ (hc j hj)⟩, h.wf⟩
theorem Acts.lt {w : World} {b off n m : Nat} {f : Nat → Nat → Int} (h : Acts w (some ⟨b, off, none⟩) n m f) (hn : 0 < n) (hm : 0 < m) : b < w.heap.size :=
  World.block_lt_of_cell? w ⟨b, off + (0 * m + 0), none⟩ (h.cells 0 0 hn hm)
theorem acts_view {H : Type} {enc : TypeId × Value → H} {P : Program} (W : World) {base : Nat} {t e : TypeId} {fs : Array Field} {v : Value} {d : DataW H} {p : List MemPlace}
    (ht : P.underlying t = some (.slice e)) (he : P.underlying e = some (.struct fs)) (hone : oneCellFields P fs = true) (hC : P.cellsOf e = fs.size) (tI : TypeId) (hI : P.underlying tI = some (.int .i64)) (hint : fs.all (fun f => f.type == tI) = true) (hp : 0 < fs.size)
    (o : Value.okWide P W .any base t v) (h : DataW.Trod enc P W 0 (fun _ => true) true t v d p) :
    ∃ (a : Option Addr) (n cap : Nat) (f : Nat → Nat → Int), v = .slice a n cap ∧ n ≤ cap ∧ cap ≤ maxLen ∧ Acts W a n fs.size f := by
  obtain ⟨a, len, cap, rfl⟩ := okWide_slice ht o
  obtain ⟨fuel, hf⟩ := h
  rcases open_slice ht hf with ⟨hcs, _⟩ | ⟨x, len', c, m, n, D, Pl, hcs, _, hl, hm, hmm, _, hi⟩
  · simp [Value.cells] at hcs
    obtain ⟨rfl, rfl, rfl⟩ := hcs
    exact ⟨none, 0, 0, fun _ _ => 0, rfl, Nat.le_refl _, by simp [maxLen], fun i hi => by omega, fun _ _ => by omega⟩
  · simp [Value.cells] at hcs
    obtain ⟨rfl, rfl, rfl⟩ := hcs
    simp only [if_true] at hmm
    subst hmm
    have key : ∀ i j, ∃ z : Int, (-9223372036854775808 ≤ z ∧ z ≤ 9223372036854775807) ∧ (i < len → j < fs.size → W.cell? (x.add (i * fs.size + j)) = some (.int .i64 z)) := by
      intro i j
      by_cases h : i < len ∧ j < fs.size
      · obtain ⟨row, hrow, htr⟩ := hi i (by omega)
        rw [hC] at hrow
        obtain ⟨_, hlen, hat⟩ := World.cells?_some hrow
        obtain ⟨xs, k, _, _, _, hxs, hfld⟩ := DataW.trod_struct he htr
        have hfj := Array.getElem?_eq_getElem h.2
        obtain ⟨e1, e2⟩ := hone_of hone j _ hfj
        have hz := hfld j _ hfj
        rw [e1, e2, List.getElem?_eq_getElem (show j < xs.length by omega)] at hz
        have hone1 : (row.drop j).take 1 = [row[j]'(by omega)] := by rw [List.drop_eq_getElem_cons (by omega)]; rfl
        rw [hone1] at hz
        obtain ⟨z, hz1, _, hw⟩ := DataW.trod_int (by have := Array.all_eq_true.1 hint j h.2; simp only [beq_iff_eq] at this; rw [this]; exact hI) hz
        simp at hz1
        refine ⟨z, by simpa [Lit.wf, IntKind.min, IntKind.max, IntKind.signed, IntKind.bits] using hw, fun _ _ => ?_⟩
        rw [← Go.Deep.add_add, hat j h.2, List.getElem?_eq_getElem (by omega), hz1]
      · exact ⟨0, by omega, fun h1 h2 => absurd ⟨h1, h2⟩ h⟩
    obtain ⟨f, hfw, hfc⟩ : ∃ f : Nat → Nat → Int, (∀ i j, -9223372036854775808 ≤ f i j ∧ f i j ≤ 9223372036854775807) ∧ ∀ i j, i < len → j < fs.size → W.cell? (x.add (i * fs.size + j)) = some (.int .i64 (f i j)) :=
      ⟨fun i j => (key i j).choose, fun i j => (key i j).choose_spec.1, fun i j => (key i j).choose_spec.2⟩
    refine ⟨some x, len, m, f, rfl, hl, hm, fun i hin => ?_, hfw⟩
    obtain ⟨b, off, spot⟩ := x
    have hspot : spot = none := by
      have h0 := hfc 0 0 (by omega) hp
      simpa [Addr.add] using World.cell?_spot h0
    subst hspot
    refine ⟨b, off, rfl, fun j hj => ?_⟩
    have := hfc i j hin hj
    rw [addr_add] at this
    exact this
end Go.Proofs.Ytomigaldomiefaa
