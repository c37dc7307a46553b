/- Acts among a law's arguments; few. -/
import Derived.Test.YtmppegknkeggcaaCacheS
namespace Go.Proofs.Ytmppegknkeggcaa
open Go.ChangeShapes Go.WideShapes Go.ChangeAt Go.RowKit Go.Joins Go.Deep
set_option linter.unusedVariables false
set_option linter.unusedSimpArgs false

/-- An act's cells: its number (as the write's group), and the write. -/
abbrev It.act (x : It) : List Value := [.int .i64 x.g, .int .i64 x.a, .int .i64 x.s, .slice x.A x.l.length x.c]
/-- Acts in a row, that came in. -/
structure ActsW (w : World) (a : Option Addr) (its : List It) : Prop where
  at0 : ∀ i x, its[i]? = some x → (∃ b off, a = some ⟨b, off, none⟩ ∧ ∀ j u, x.act[j]? = some u → w.cell? ⟨b, off + (i * 4 + j), none⟩ = some u) ∧ ArgW w x
theorem ActsW.keep {w w' : World} {a : Option Addr} {its : List It} (h : ActsW w a its) (hk : ∀ p v, w.cell? p = some v → w'.cell? p = some v) : ActsW w' a its :=
  ⟨fun i x hx => by obtain ⟨⟨b, off, e, hc⟩, hA⟩ := h.at0 i x hx; exact ⟨⟨b, off, e, fun j u hu => hk _ _ (hc j u hu)⟩, hA.keep hk⟩⟩
theorem add_zero_spot4 (a : Addr) (w : World) (v : Value) (h : w.cell? ((a.add (0 * 4)).add 0) = some v) : a.spot = none := by
  have := World.cell?_spot h
  simpa [Addr.add] using this
def sumL (its : List It) : Nat := (its.map fun x => x.l.length).sum
theorem sumL_take (its : List It) (k : Nat) (x : It) (hx : its[k]? = some x) : sumL (its.take (k + 1)) = sumL (its.take k) + x.l.length := by
  rw [List.take_add_one, hx]; simp [sumL]
theorem sumL_le (its : List It) (k : Nat) : sumL (its.take k) ≤ sumL its := by
  conv => rhs; rw [← List.take_append_drop k its]
  simp only [sumL, List.map_append, List.sum_append]; omega
theorem sumL_mem {x : It} : ∀ {its : List It}, x ∈ its → x.l.length ≤ sumL its
  | y :: r, h => by
    simp only [sumL, List.map_cons, List.sum_cons]
    rcases List.mem_cons.1 h with rfl | h
    · omega
    · have := sumL_mem h
      unfold sumL at this; omega
section
variable {H : Type} {enc : TypeId × Value → H} {W : World}
theorem act_trod {fuel : Nat} {cs : List Value} {x : DataW H × List MemPlace} (h : DataW.trod enc Try.prog W 0 (fun _ => true) true fuel 34 cs = some x) :
    ∃ y : It, cs = y.act ∧ ArgW W y ∧ y.l.length + 1 ≤ Rows.uptoBulk x.1 := by
  obtain ⟨xs, n, rfl, rfl, hcl, hxl, hf⟩ := DataW.trod_struct Try.underlying34 h
  have hc4 : Try.prog.cellsOf 34 = 4 := by kernel_rfl
  have hc3 : Try.prog.cellsOf 32 = 3 := by kernel_rfl
  have hci : Try.prog.cellsOf 3 = 1 := by kernel_rfl
  rw [hc4] at hcl
  obtain ⟨c0, c1, c2, c3, rfl⟩ : ∃ c0 c1 c2 c3, cs = [c0, c1, c2, c3] := by
    match cs, hcl with | [a, b, c, d], _ => exact ⟨a, b, c, d, rfl⟩
  obtain ⟨x0, x1, rfl⟩ : ∃ x0 x1, xs = [x0, x1] := by
    have : xs.length = 2 := by simpa using hxl
    match xs, this with | [a, b], _ => exact ⟨a, b, rfl⟩
  have f0 := hf 0 _ rfl
  have f1 := hf 1 _ rfl
  simp [hci, hc3] at f0 f1
  obtain ⟨g, e0, e0', wg⟩ := DataW.trod_int Try.underlying3 f0
  obtain ⟨y, hy, hA, _, hb⟩ := write_trod f1
  simp at e0
  subst e0
  simp only [It.wr, List.cons.injEq] at hy
  obtain ⟨rfl, rfl, rfl, _⟩ := hy
  refine ⟨⟨y.a, y.s, y.A, y.c, y.l, g⟩, rfl, ⟨hA.wa, hA.ws, hA.small, hA.lies, hA.cap⟩, ?_⟩
  have h1 := bulk_part (H := H) (d := x1.1) (l := [x0.1, x1.1]) (by simp)
  have h2 := bulk_agg [x0.1, x1.1]
  simp only [List.map_cons, List.map_nil] at *
  omega
theorem sum_bulk (D : Nat → DataW H) (its : List It) (h : ∀ i x, its[i]? = some x → x.l.length + 1 ≤ Rows.uptoBulk (D i)) : ∀ k, k ≤ its.length → sumL (its.take k) + k ≤ Rows.uptoBulkAll ((List.range k).map D)
  | 0, _ => by simp [sumL]
  | k + 1, hk => by
    have h1 := sum_bulk D its h k (by omega)
    obtain ⟨x, hx⟩ : ∃ x, its[k]? = some x := ⟨_, List.getElem?_eq_getElem (by omega)⟩
    have h2 := h k x hx
    rw [sumL_take its k x hx, List.range_succ, List.map_append, bulk_append]
    simp only [List.map_cons, List.map_nil, Rows.uptoBulkAll]
    omega
theorem acts_w_view {base : Nat} {v : Value} {d : DataW H} {p : List MemPlace}
    (o : Value.okWide Try.prog W .any base 22 v) (h : DataW.Trod enc Try.prog W 0 (fun _ => true) true 22 v d p) :
    ∃ (a : Option Addr) (cap : Nat) (its : List It), v = .slice a its.length cap ∧ its.length ≤ cap ∧ ActsW W a its ∧ sumL its + its.length ≤ Rows.uptoBulk d := by
  obtain ⟨a, len, cap, rfl⟩ := okWide_slice Try.underlying22 o
  obtain ⟨fuel, hf⟩ := h
  rcases open_slice Try.underlying22 hf with ⟨hcs, e⟩ | ⟨x, len', c, m, n, D, Pl, hcs, _, hl, hm, hmm, e, hi⟩
  · simp [Value.cells] at hcs
    obtain ⟨rfl, rfl, rfl⟩ := hcs
    exact ⟨none, 0, [], rfl, Nat.le_refl _, ⟨by simp⟩, by simp [sumL]⟩
  · simp [Value.cells] at hcs
    obtain ⟨rfl, rfl, rfl⟩ := hcs
    simp only [if_true] at hmm
    subst hmm
    have hc4 : Try.prog.cellsOf 34 = 4 := by kernel_rfl
    rw [hc4] at hi
    simp only [Prod.mk.injEq] at e
    obtain ⟨rfl, _⟩ := e
    obtain ⟨its, hlen, hits⟩ := rows_of (Q := fun i y => ((∃ b off, some x = some ⟨b, off, none⟩ ∧ ∀ j u, y.act[j]? = some u → W.cell? ⟨b, off + (i * 4 + j), none⟩ = some u) ∧ ArgW W y) ∧ y.l.length + 1 ≤ Rows.uptoBulk (D i)) len (fun i hin => by
      obtain ⟨row, hrow, htr⟩ := hi i (by omega)
      obtain ⟨_, hlen, hat⟩ := World.cells?_some hrow
      obtain ⟨y, rfl, hA, hw⟩ := act_trod htr
      refine ⟨y, ⟨?_, hA⟩, hw⟩
      obtain ⟨b, off, spot⟩ := x
      have hspot : spot = none := by
        obtain ⟨row0, hrow0, htr0⟩ := hi 0 (by omega)
        obtain ⟨_, hlen0, hat0⟩ := World.cells?_some hrow0
        exact add_zero_spot4 ⟨b, off, spot⟩ W _ ((hat0 0 (by omega)).trans (List.getElem?_eq_getElem (by omega)))
      subst hspot
      refine ⟨b, off, rfl, fun j u hu => ?_⟩
      have hj : j < y.act.length := by
        rcases Nat.lt_or_ge j y.act.length with h1 | h1
        · exact h1
        · rw [List.getElem?_eq_none h1] at hu; cases hu
      have := hat j (by simpa using hj)
      rw [addr_add, addr_add, hu, Nat.add_assoc] at this
      exact this)
    refine ⟨some x, m, its, by rw [hlen], by omega, ⟨fun i y hy => (hits i y hy).1⟩, ?_⟩
    have h1 := sum_bulk D its (fun i x hx => (hits i x hx).2) its.length (Nat.le_refl _)
    rw [List.take_length, hlen] at h1
    have h2 := bulk_elems ((List.range len).map D) ((List.range (m - len)).map fun j => D (len + j))
    rw [hlen]
    show sumL its + len ≤ Rows.uptoBulk (DataW.slice ((List.range len).map D) ((List.range (m - len)).map fun j => D (len + j)))
    omega
end
end Go.Proofs.Ytmppegknkeggcaa
