/- crash: groups of writes, lists of bytes among arguments. -/
import Derived.Test.YtomigaldomiefaaCrCached
import Derived.Test.YtomigaldomiefaaCrReader
namespace Go.Proofs.Ytomigaldomiefaa
open Go.ChangeShapes Go.WideShapes Go.ChangeAt Go.RowKit Go.Joins Go.Deep
set_option linter.unusedVariables false
set_option linter.unusedSimpArgs false

theorem rows_ofT {α : Type} {Q : Nat → α → Prop} (n : Nat) (h : ∀ i, i < n → ∃ x, Q i x) : ∃ its : List α, its.length = n ∧ ∀ i x, its[i]? = some x → Q i x := by
  induction n with
  | zero => exact ⟨[], rfl, by simp⟩
  | succ n ih =>
    obtain ⟨its, hl, hq⟩ := ih (fun i hi => h i (by omega))
    obtain ⟨x, hx⟩ := h n (by omega)
    refine ⟨its ++ [x], by simp [hl], fun i y hy => ?_⟩
    rcases Nat.lt_or_ge i its.length with hi | hi
    · rw [List.getElem?_append_left hi] at hy; exact hq i y hy
    · rw [List.getElem?_append_right hi] at hy
      have : i = n := by
        have := (List.getElem?_eq_some_iff.1 hy).1
        simp at this; omega
      subst this
      rw [hl, Nat.sub_self] at hy
      simp at hy; subst hy; exact hx
section
variable {H : Type} {enc : TypeId × Value → H} {W : World}
set_option maxRecDepth 100000 in
theorem writes_trod {fuel : Nat} {cs : List Value} {x : DataW H × List MemPlace} (hf : DataW.trod enc Try.prog W 0 (fun _ => true) true fuel 23 cs = some x) :
    ∃ (a : Option Addr) (cap : Nat) (its : List Ws), cs = [.slice a its.length cap] ∧ its.length ≤ cap ∧ cap ≤ maxLen ∧ Writes W a its ∧ (∀ N, (∀ q ∈ x.1.weights Try.prog 23, q ≤ N) → its.length * 40 ≤ N) := by
  rcases open_slice Try.underlying23 hf with ⟨rfl, e⟩ | ⟨x, len', c, m, n, D, Pl, rfl, _, hl, hm, hmm, e, hi⟩
  · exact ⟨none, 0, [], rfl, Nat.le_refl _, by simp [maxLen], ⟨by simp⟩, by simp⟩
  · simp only [if_true] at hmm
    subst hmm
    subst e
    have hc3 : Try.prog.cellsOf 30 = 3 := by kernel_rfl
    rw [hc3] at hi
    obtain ⟨its, hlen, hits⟩ := rows_ofT (Q := fun i (y : Ws) => (∃ b off, some x = some ⟨b, off, none⟩ ∧ ∀ j u, y.wr[j]? = some u → W.cell? ⟨b, off + (i * 3 + j), none⟩ = some u) ∧ ArgW W y) len' (fun i hin => by
      obtain ⟨row, hrow, htr⟩ := hi i (by omega)
      obtain ⟨_, hlen, hat⟩ := World.cells?_some hrow
      obtain ⟨y, rfl, hA, hw, _⟩ := write_trod htr
      refine ⟨y, ?_, hA⟩
      obtain ⟨b, off, spot⟩ := x
      have hspot : spot = none := by
        obtain ⟨row0, hrow0, htr0⟩ := hi 0 (by omega)
        obtain ⟨_, hlen0, hat0⟩ := World.cells?_some hrow0
        exact add_zero_spot ⟨b, off, spot⟩ W _ ((hat0 0 (by omega)).trans (List.getElem?_eq_getElem (by omega)))
      subst hspot
      refine ⟨b, off, rfl, fun j u hu => ?_⟩
      have hj : j < y.wr.length := by
        rcases Nat.lt_or_ge j y.wr.length with h1 | h1
        · exact h1
        · rw [List.getElem?_eq_none h1] at hu; cases hu
      have := hat j (by simpa using hj)
      rw [addr_add, addr_add, hu, Nat.add_assoc] at this
      exact this)
    refine ⟨some x, _, its, by rw [hlen], by omega, hm, ⟨fun i y hy => hits i y hy⟩, fun N hN => ?_⟩
    have hb : Try.prog.bytesOf 30 = 40 := by kernel_rfl
    have h1 := hN _ (by simp only [DataW.weights, Try.underlying23, List.mem_cons]; exact .inl rfl)
    rw [hb, List.length_map, List.length_range] at h1
    rw [hlen]
    exact Nat.le_trans (Nat.mul_le_mul_right _ (Nat.le_add_right _ _)) h1
set_option maxRecDepth 100000 in
theorem groups_view {base : Nat} {v : Value} {d : DataW H} {p : List MemPlace}
    (o : Value.okWide Try.prog W .any base 35 v) (h : DataW.Trod enc Try.prog W 0 (fun _ => true) true 35 v d p) :
    ∃ (a : Option Addr) (cap : Nat) (gss : List Gs), v = .slice a gss.length cap ∧ gss.length ≤ cap ∧ ArgG W a gss ∧ (∀ N, (∀ q ∈ d.weights Try.prog 35, q ≤ N) → ∀ g ∈ gss, g.its.length * 40 ≤ N) := by
  obtain ⟨a, len, cap, rfl⟩ := okWide_slice Try.underlying35 o
  obtain ⟨fuel, hf⟩ := h
  rcases open_slice Try.underlying35 hf with ⟨hcs, e⟩ | ⟨x, len', c, m, n, D, Pl, hcs, _, hl, hm, hmm, e, hi⟩
  · simp [Value.cells] at hcs
    obtain ⟨rfl, rfl, rfl⟩ := hcs
    exact ⟨none, 0, [], rfl, Nat.le_refl _, ⟨by simp⟩, by simp⟩
  · simp [Value.cells] at hcs
    obtain ⟨rfl, rfl, rfl⟩ := hcs
    simp only [if_true] at hmm
    subst hmm
    simp only [Prod.mk.injEq] at e
    obtain ⟨rfl, _⟩ := e
    have hc1 : Try.prog.cellsOf 23 = 1 := by kernel_rfl
    rw [hc1] at hi
    obtain ⟨gss, hlen, hgs⟩ := rows_ofT (Q := fun i (g : Gs) => ((∃ b off, some x = some ⟨b, off, none⟩ ∧ W.cell? ⟨b, off + i, none⟩ = some (.slice g.A g.its.length g.c)) ∧ Writes W g.A g.its) ∧ (∀ N, (∀ q ∈ (D i).weights Try.prog 23, q ≤ N) → g.its.length * 40 ≤ N)) len (fun i hin => by
      obtain ⟨row, hrow, htr⟩ := hi i (by omega)
      obtain ⟨_, hlen, hat⟩ := World.cells?_some hrow
      obtain ⟨A, cap, its, rfl, _, _, hW, hN⟩ := writes_trod htr
      refine ⟨⟨A, cap, its⟩, ⟨?_, hW⟩, hN⟩
      obtain ⟨b, off, spot⟩ := x
      have hspot : spot = none := by
        obtain ⟨row0, hrow0, htr0⟩ := hi 0 (by omega)
        obtain ⟨_, hlen0, hat0⟩ := World.cells?_some hrow0
        have := World.cell?_spot ((hat0 0 (by omega)).trans (List.getElem?_eq_getElem (by omega)))
        simpa [Addr.add] using this
      subst hspot
      refine ⟨b, off, rfl, ?_⟩
      have := hat 0 (by omega)
      rw [addr_add, addr_add] at this
      simpa using this)
    refine ⟨some x, _, gss, by rw [hlen], by omega, ⟨fun i y hy => (hgs i y hy).1⟩, fun N hN g hg => ?_⟩
    obtain ⟨i, hi2⟩ := List.mem_iff_getElem?.1 hg
    refine (hgs i g hi2).2 N (fun q hq => hN q ?_)
    have hin : i < len := by rw [← hlen]; exact (List.getElem?_eq_some_iff.1 hi2).1
    simp only [DataW.weights, Try.underlying35, List.mem_cons, List.mem_append]
    refine .inr (.inl ?_)
    exact weightsAll_mem (List.mem_map.2 ⟨i, List.mem_range.2 hin, rfl⟩) q hq
set_option maxRecDepth 100000 in
theorem reads_view {base : Nat} {v : Value} {d : DataW H} {p : List MemPlace}
    (o : Value.okWide Try.prog W .any base 37 v) (h : DataW.Trod enc Try.prog W 0 (fun _ => true) true 37 v d p) :
    ∃ (a : Option Addr) (cap : Nat) (ds : List (List Nat)), v = .slice a ds.length cap ∧ ds.length ≤ cap ∧ RdsAt W a ds ∧ ∀ d ∈ ds, ∀ u ∈ d, u < 256 := by
  obtain ⟨a, len, cap, rfl⟩ := okWide_slice Try.underlying37 o
  obtain ⟨fuel, hf⟩ := h
  rcases open_slice Try.underlying37 hf with ⟨hcs, e⟩ | ⟨x, len', c, m, n, D, Pl, hcs, _, hl, hm, hmm, e, hi⟩
  · simp [Value.cells] at hcs
    obtain ⟨rfl, rfl, rfl⟩ := hcs
    exact ⟨none, 0, [], rfl, Nat.le_refl _, fun i d hd => by simp at hd, by simp⟩
  · simp [Value.cells] at hcs
    obtain ⟨rfl, rfl, rfl⟩ := hcs
    simp only [if_true] at hmm
    subst hmm
    have hc1 : Try.prog.cellsOf 22 = 1 := by kernel_rfl
    rw [hc1] at hi
    obtain ⟨ds, hlen, hds⟩ := rows_ofT (Q := fun i (l : List Nat) => (∃ g off A1 c1, some x = some ⟨g, off, none⟩ ∧ W.cell? ⟨g, off + i, none⟩ = some (.slice A1 l.length c1) ∧ Cells8 W A1 l) ∧ ∀ u ∈ l, u < 256) len (fun i hin => by
      obtain ⟨row, hrow, htr⟩ := hi i (by omega)
      obtain ⟨_, hlen, hat⟩ := World.cells?_some hrow
      obtain ⟨A, l, cap, rfl, _, _, h256, hlies, _, _⟩ := bytes_trod htr
      refine ⟨l, ?_, h256⟩
      obtain ⟨b, off, spot⟩ := x
      have hspot : spot = none := by
        obtain ⟨row0, hrow0, htr0⟩ := hi 0 (by omega)
        obtain ⟨_, hlen0, hat0⟩ := World.cells?_some hrow0
        have := World.cell?_spot ((hat0 0 (by omega)).trans (List.getElem?_eq_getElem (by omega)))
        simpa [Addr.add] using this
      subst hspot
      refine ⟨b, off, A, cap, rfl, ?_, hlies⟩
      have := hat 0 (by omega)
      rw [addr_add, addr_add] at this
      simpa using this)
    exact ⟨some x, _, ds, by rw [hlen], by omega, fun i d hd => (hds i d hd).1, fun d hd u hu => by
      obtain ⟨i, hi2⟩ := List.mem_iff_getElem?.1 hd
      exact (hds i d hi2).2 u hu⟩
end
end Go.Proofs.Ytomigaldomiefaa
