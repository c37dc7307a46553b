/- What follows is laid together from several texts of mine, in their order. -/
import Derived.Test.YtomigaldomiefaaQ13
import Derived.Test.YtomigaldomiefaaQ6

namespace Go.Proofs.Ytomigaldomiefaa
open Go.RowKit Go.Shelf Go.MapKept Go.ChangeMaps
attribute [local go_sem] Oper.semAt_some
attribute [local simp, local go_sem] wide_fn
set_option linter.unusedVariables false
set_option linter.unusedSimpArgs false

/-- Lists of bytes, one behind another. -/
def RdsAt (W : World) (A : Option Addr) (ds : List (List Nat)) : Prop := ∀ (i : Nat) (d : List Nat), ds[i]? = some d → ∃ g off A1 c1, A = some ⟨g, off, none⟩ ∧ W.cell? ⟨g, off + i, none⟩ = some (.slice A1 d.length c1) ∧ Cells8 W A1 d
theorem RdsAt.keep {W W' : World} {A : Option Addr} {ds : List (List Nat)} (h : RdsAt W A ds) (hk : ∀ a v, W.cell? a = some v → W'.cell? a = some v) : RdsAt W' A ds := fun i d hd => by
  obtain ⟨g, off, A1, c1, h1, h2, h3⟩ := h i d hd
  exact ⟨g, off, A1, c1, h1, hk _ _ h2, h3.keep hk⟩
abbrev rdOf (ds : List (List Nat)) : Nat → List Nat := fun p => ds.getD p []
theorem cells8_nil (w : World) : Cells8 w none [] := fun i hi => by cases hi
set_option maxHeartbeats 1000000 in
theorem reader1_any (Z p c : Nat) (A : Option Addr) (ds : List (List Nat)) (hlen : ds.length ≤ 1048576) (hp : p < 4294967296) (w : World) (hz : w.cell? ⟨Z, 0, none⟩ = some (.slice A ds.length c)) (hr : RdsAt w A ds) :
    Calls Try.prog 40 #[.int .i64 p, .pointer (some ⟨Z, 0, none⟩)] w fun e w' => ∃ A' c', e = .returned (.slice A' (rdOf ds p).length c') ∧ Cells8 w' A' (rdOf ds p) ∧ Below w.heap.size w w' := by
  have h0 : ¬ (p : Int) < 0 := by omega
  obtain ⟨m, hm⟩ : ∃ m, m = ds.length := ⟨_, rfl⟩
  rw [← hm] at hz hlen
  have HM := Lib.hid hm
  by_cases hpm : p < m
  · obtain ⟨d, hd⟩ : ∃ d, ds[p]? = some d := ⟨_, List.getElem?_eq_getElem (by rw [← hm]; exact hpm)⟩
    have HE : Hid (rdOf ds p = d) := by unfold Hid rdOf; rw [List.getD_eq_getElem?_getD, hd]; rfl
    obtain ⟨g, off, A1, c1, rfl, hcell, hcs⟩ := hr p d hd
    have HCs := Lib.hid hcs
    have h1 : ¬ (p : Int) ≥ m := by omega
    rw [HE.out]
    clear hr hm hd hcs
    generalize d.length = dl at *
    go_enter Try.func40, Try.ntmps40
    go_wp2
    go_ret
    exact ⟨A1, ⟨c1, rfl⟩, HCs.out, by (repeat (first | (with_reducible refine Below.drew ?_) | (with_reducible refine below_drewN0 ?_ _) | ((with_reducible refine Below.setCell ?_ ?_ _); rotate_left; focus (first | omega | (simp; done) | (simp; omega) | (simp at *; omega))) | ((with_reducible refine Below.alloc ?_ ?_ _); rotate_left; focus (first | omega | (simp; done) | (simp; omega) | (simp at *; omega))) | (with_reducible exact Below.refl _ _)))⟩
  · have HE : Hid (rdOf ds p = []) := by unfold Hid rdOf; rw [List.getD_eq_getElem?_getD, List.getElem?_eq_none (by rw [← hm]; omega)]; rfl
    have h1 : (p : Int) ≥ m := by omega
    rw [HE.out]
    clear hr hm
    go_enter Try.func40, Try.ntmps40
    go_wp2
    go_ret
    exact ⟨none, ⟨0, rfl⟩, cells8_nil _, by (repeat (first | (with_reducible refine Below.drew ?_) | (with_reducible refine below_drewN0 ?_ _) | ((with_reducible refine Below.setCell ?_ ?_ _); rotate_left; focus (first | omega | (simp; done) | (simp; omega) | (simp at *; omega))) | ((with_reducible refine Below.alloc ?_ ?_ _); rotate_left; focus (first | omega | (simp; done) | (simp; omega) | (simp at *; omega))) | (with_reducible exact Below.refl _ _)))⟩
theorem reader_any (A : Option Addr) (m c : Nat) (W : World) : Calls Try.prog 16 #[.slice A m c] W fun e w' => e = .returned (.func (.func 40) #[] #[.pointer (some ⟨W.heap.size, 0, none⟩)]) ∧ w' = W.alloc (.cells #[.slice A m c] 37) := by
  go_enter Try.func16, Try.ntmps16
  go_wp2
  go_ret
  exact ⟨rfl, rfl⟩
theorem reader_ok (Z c n : Nat) (hn : n ≤ 4294967296) (A : Option Addr) (ds : List (List Nat)) (hlen : ds.length ≤ 1048576) (hb : ∀ d ∈ ds, ∀ u ∈ d, u < 256) (T : List Nat) (w : World) (h : ∀ V, Turns w V T → V.cell? ⟨Z, 0, none⟩ = some (.slice A ds.length c) ∧ RdsAt V A ds) :
    RdOk w T n 40 #[.pointer (some ⟨Z, 0, none⟩)] (rdOf ds) :=
  ⟨enters_of Try.func40 (by kernel_rfl) rfl, fun p hp V hV => reader1_any Z p c A ds hlen (by omega) V (h V hV).1 (h V hV).2, fun p u hu => by
    unfold rdOf at hu
    rw [List.getD_eq_getElem?_getD] at hu
    cases hd : ds[p]? with
    | none => rw [hd] at hu; cases hu
    | some d => rw [hd] at hu; exact hb d (List.mem_of_getElem? hd) u hu⟩
end Go.Proofs.Ytomigaldomiefaa

namespace Go.Proofs.Ytomigaldomiefaa
open Go.ChangeShapes Go.WideShapes Go.ChangeAt Go.RowKit Go.Joins Go.Deep
set_option linter.unusedVariables false
set_option linter.unusedSimpArgs false

theorem rows_ofT {α : Type} {Q : Nat → α → Prop} (n : Nat) (h : ∀ i, i < n → ∃ x, Q i x) : ∃ its : List α, its.length = n ∧ ∀ i x, its[i]? = some x → Q i x := by
  induction n with
  | zero => exact ⟨[], rfl, by simp⟩
  | succ n ih =>
    obtain ⟨its, hl, hq⟩ := ih (fun i hi => h i (by omega))
    obtain ⟨x, hx⟩ := h n (by omega)
    refine ⟨its ++ [x], by simp [hl], fun i y hy => ?_⟩
    rcases Nat.lt_or_ge i its.length with hi | hi
    · rw [List.getElem?_append_left hi] at hy; exact hq i y hy
    · rw [List.getElem?_append_right hi] at hy
      have : i = n := by
        have := (List.getElem?_eq_some_iff.1 hy).1
        simp at this; omega
      subst this
      rw [hl, Nat.sub_self] at hy
      simp at hy; subst hy; exact hx
section
variable {H : Type} {enc : TypeId × Value → H} {W : World}
set_option maxRecDepth 100000 in
theorem writes_trod {fuel : Nat} {cs : List Value} {x : DataW H × List MemPlace} (hf : DataW.trod enc Try.prog W 0 (fun _ => true) true fuel 23 cs = some x) :
    ∃ (a : Option Addr) (cap : Nat) (its : List Ws), cs = [.slice a its.length cap] ∧ its.length ≤ cap ∧ cap ≤ maxLen ∧ Writes W a its ∧ (∀ N, (∀ q ∈ x.1.weights Try.prog 23, q ≤ N) → its.length * 40 ≤ N) := by
  rcases open_slice Try.underlying23 hf with ⟨rfl, e⟩ | ⟨x, len', c, m, n, D, Pl, rfl, _, hl, hm, hmm, e, hi⟩
  · exact ⟨none, 0, [], rfl, Nat.le_refl _, by simp [maxLen], ⟨by simp⟩, by simp⟩
  · simp only [if_true] at hmm
    subst hmm
    subst e
    have hc3 : Try.prog.cellsOf 30 = 3 := by kernel_rfl
    rw [hc3] at hi
    obtain ⟨its, hlen, hits⟩ := rows_ofT (Q := fun i (y : Ws) => (∃ b off, some x = some ⟨b, off, none⟩ ∧ ∀ j u, y.wr[j]? = some u → W.cell? ⟨b, off + (i * 3 + j), none⟩ = some u) ∧ ArgW W y) len' (fun i hin => by
      obtain ⟨row, hrow, htr⟩ := hi i (by omega)
      obtain ⟨_, hlen, hat⟩ := World.cells?_some hrow
      obtain ⟨y, rfl, hA, hw, _⟩ := write_trod htr
      refine ⟨y, ?_, hA⟩
      obtain ⟨b, off, spot⟩ := x
      have hspot : spot = none := by
        obtain ⟨row0, hrow0, htr0⟩ := hi 0 (by omega)
        obtain ⟨_, hlen0, hat0⟩ := World.cells?_some hrow0
        exact add_zero_spot ⟨b, off, spot⟩ W _ ((hat0 0 (by omega)).trans (List.getElem?_eq_getElem (by omega)))
      subst hspot
      refine ⟨b, off, rfl, fun j u hu => ?_⟩
      have hj : j < y.wr.length := by
        rcases Nat.lt_or_ge j y.wr.length with h1 | h1
        · exact h1
        · rw [List.getElem?_eq_none h1] at hu; cases hu
      have := hat j (by simpa using hj)
      rw [addr_add, addr_add, hu, Nat.add_assoc] at this
      exact this)
    refine ⟨some x, _, its, by rw [hlen], by omega, hm, ⟨fun i y hy => hits i y hy⟩, fun N hN => ?_⟩
    have hb : Try.prog.bytesOf 30 = 40 := by kernel_rfl
    have h1 := hN _ (by simp only [DataW.weights, Try.underlying23, List.mem_cons]; exact .inl rfl)
    rw [hb, List.length_map, List.length_range] at h1
    rw [hlen]
    exact Nat.le_trans (Nat.mul_le_mul_right _ (Nat.le_add_right _ _)) h1
set_option maxRecDepth 100000 in
theorem groups_view {base : Nat} {v : Value} {d : DataW H} {p : List MemPlace}
    (o : Value.okWide Try.prog W .any base 35 v) (h : DataW.Trod enc Try.prog W 0 (fun _ => true) true 35 v d p) :
    ∃ (a : Option Addr) (cap : Nat) (gss : List Gs), v = .slice a gss.length cap ∧ gss.length ≤ cap ∧ ArgG W a gss ∧ (∀ N, (∀ q ∈ d.weights Try.prog 35, q ≤ N) → ∀ g ∈ gss, g.its.length * 40 ≤ N) := by
  obtain ⟨a, len, cap, rfl⟩ := okWide_slice Try.underlying35 o
  obtain ⟨fuel, hf⟩ := h
  rcases open_slice Try.underlying35 hf with ⟨hcs, e⟩ | ⟨x, len', c, m, n, D, Pl, hcs, _, hl, hm, hmm, e, hi⟩
  · simp [Value.cells] at hcs
    obtain ⟨rfl, rfl, rfl⟩ := hcs
    exact ⟨none, 0, [], rfl, Nat.le_refl _, ⟨by simp⟩, by simp⟩
  · simp [Value.cells] at hcs
    obtain ⟨rfl, rfl, rfl⟩ := hcs
    simp only [if_true] at hmm
    subst hmm
    simp only [Prod.mk.injEq] at e
    obtain ⟨rfl, _⟩ := e
    have hc1 : Try.prog.cellsOf 23 = 1 := by kernel_rfl
    rw [hc1] at hi
    obtain ⟨gss, hlen, hgs⟩ := rows_ofT (Q := fun i (g : Gs) => ((∃ b off, some x = some ⟨b, off, none⟩ ∧ W.cell? ⟨b, off + i, none⟩ = some (.slice g.A g.its.length g.c)) ∧ Writes W g.A g.its) ∧ (∀ N, (∀ q ∈ (D i).weights Try.prog 23, q ≤ N) → g.its.length * 40 ≤ N)) len (fun i hin => by
      obtain ⟨row, hrow, htr⟩ := hi i (by omega)
      obtain ⟨_, hlen, hat⟩ := World.cells?_some hrow
      obtain ⟨A, cap, its, rfl, _, _, hW, hN⟩ := writes_trod htr
      refine ⟨⟨A, cap, its⟩, ⟨?_, hW⟩, hN⟩
      obtain ⟨b, off, spot⟩ := x
      have hspot : spot = none := by
        obtain ⟨row0, hrow0, htr0⟩ := hi 0 (by omega)
        obtain ⟨_, hlen0, hat0⟩ := World.cells?_some hrow0
        have := World.cell?_spot ((hat0 0 (by omega)).trans (List.getElem?_eq_getElem (by omega)))
        simpa [Addr.add] using this
      subst hspot
      refine ⟨b, off, rfl, ?_⟩
      have := hat 0 (by omega)
      rw [addr_add, addr_add] at this
      simpa using this)
    refine ⟨some x, _, gss, by rw [hlen], by omega, ⟨fun i y hy => (hgs i y hy).1⟩, fun N hN g hg => ?_⟩
    obtain ⟨i, hi2⟩ := List.mem_iff_getElem?.1 hg
    refine (hgs i g hi2).2 N (fun q hq => hN q ?_)
    have hin : i < len := by rw [← hlen]; exact (List.getElem?_eq_some_iff.1 hi2).1
    simp only [DataW.weights, Try.underlying35, List.mem_cons, List.mem_append]
    refine .inr (.inl ?_)
    exact weightsAll_mem (List.mem_map.2 ⟨i, List.mem_range.2 hin, rfl⟩) q hq
set_option maxRecDepth 100000 in
theorem reads_view {base : Nat} {v : Value} {d : DataW H} {p : List MemPlace}
    (o : Value.okWide Try.prog W .any base 37 v) (h : DataW.Trod enc Try.prog W 0 (fun _ => true) true 37 v d p) :
    ∃ (a : Option Addr) (cap : Nat) (ds : List (List Nat)), v = .slice a ds.length cap ∧ ds.length ≤ cap ∧ RdsAt W a ds ∧ ∀ d ∈ ds, ∀ u ∈ d, u < 256 := by
  obtain ⟨a, len, cap, rfl⟩ := okWide_slice Try.underlying37 o
  obtain ⟨fuel, hf⟩ := h
  rcases open_slice Try.underlying37 hf with ⟨hcs, e⟩ | ⟨x, len', c, m, n, D, Pl, hcs, _, hl, hm, hmm, e, hi⟩
  · simp [Value.cells] at hcs
    obtain ⟨rfl, rfl, rfl⟩ := hcs
    exact ⟨none, 0, [], rfl, Nat.le_refl _, fun i d hd => by simp at hd, by simp⟩
  · simp [Value.cells] at hcs
    obtain ⟨rfl, rfl, rfl⟩ := hcs
    simp only [if_true] at hmm
    subst hmm
    have hc1 : Try.prog.cellsOf 22 = 1 := by kernel_rfl
    rw [hc1] at hi
    obtain ⟨ds, hlen, hds⟩ := rows_ofT (Q := fun i (l : List Nat) => (∃ g off A1 c1, some x = some ⟨g, off, none⟩ ∧ W.cell? ⟨g, off + i, none⟩ = some (.slice A1 l.length c1) ∧ Cells8 W A1 l) ∧ ∀ u ∈ l, u < 256) len (fun i hin => by
      obtain ⟨row, hrow, htr⟩ := hi i (by omega)
      obtain ⟨_, hlen, hat⟩ := World.cells?_some hrow
      obtain ⟨A, l, cap, rfl, _, _, h256, hlies, _, _⟩ := bytes_trod htr
      refine ⟨l, ?_, h256⟩
      obtain ⟨b, off, spot⟩ := x
      have hspot : spot = none := by
        obtain ⟨row0, hrow0, htr0⟩ := hi 0 (by omega)
        obtain ⟨_, hlen0, hat0⟩ := World.cells?_some hrow0
        have := World.cell?_spot ((hat0 0 (by omega)).trans (List.getElem?_eq_getElem (by omega)))
        simpa [Addr.add] using this
      subst hspot
      refine ⟨b, off, A, cap, rfl, ?_, hlies⟩
      have := hat 0 (by omega)
      rw [addr_add, addr_add] at this
      simpa using this)
    exact ⟨some x, _, ds, by rw [hlen], by omega, fun i d hd => (hds i d hd).1, fun d hd u hu => by
      obtain ⟨i, hi2⟩ := List.mem_iff_getElem?.1 hd
      exact (hds i d hi2).2 u hu⟩
end
end Go.Proofs.Ytomigaldomiefaa

namespace Go.Proofs.Ytomigaldomiefaa
open Go.ChangeShapes Go.WideShapes Go.ChangeAt Go.RowKit Go.Joins Go.Deep
set_option linter.unusedVariables false
set_option linter.unusedSimpArgs false

/-- An act. -/
structure Ac where
  op : Int
  A1 : Option Addr
  c1 : Nat
  its : List Ws
  A2 : Option Addr
  c2 : Nat
  gss : List Gs
  pl : Int
  A3 : Option Addr
  c3 : Nat
  ds : List (List Nat)
abbrev Ac.vs (a : Ac) : List Value := [.int .i64 a.op, .slice a.A1 a.its.length a.c1, .slice a.A2 a.gss.length a.c2, .int .i64 a.pl, .slice a.A3 a.ds.length a.c3]
def gsN (gss : List Gs) : Nat := (gss.map fun g => g.its.length + 1).sum
def Ac.cnt (a : Ac) : Nat := a.its.length + a.ds.length + gsN a.gss
def acsN (acs : List Ac) : Nat := (acs.map Ac.cnt).sum
/-- An act's data, where it lies. -/
structure AcAt (w : World) (a : Ac) : Prop where
  wr : Writes w a.A1 a.its
  gr : ArgG w a.A2 a.gss
  rd : RdsAt w a.A3 a.ds
  small : ∀ d ∈ a.ds, ∀ u ∈ d, u < 256
  r64 : R64 a.pl
theorem AcAt.keep {w w' : World} {a : Ac} (h : AcAt w a) (hk : ∀ p v, w.cell? p = some v → w'.cell? p = some v) : AcAt w' a := ⟨h.wr.keep hk, h.gr.keep hk, h.rd.keep hk, h.small, h.r64⟩
/-- PlActs in a row. -/
def PlActs (w : World) (A : Option Addr) (acs : List Ac) : Prop := ∀ (i : Nat) (a : Ac), acs[i]? = some a → (∃ b off, A = some ⟨b, off, none⟩ ∧ ∀ j u, a.vs[j]? = some u → w.cell? ⟨b, off + (i * 5 + j), none⟩ = some u) ∧ AcAt w a
theorem PlActs.keep {w w' : World} {A : Option Addr} {acs : List Ac} (h : PlActs w A acs) (hk : ∀ p v, w.cell? p = some v → w'.cell? p = some v) : PlActs w' A acs := fun i a ha => by
  obtain ⟨⟨b, off, e, hc⟩, h2⟩ := h i a ha
  exact ⟨⟨b, off, e, fun j u hu => hk _ _ (hc j u hu)⟩, h2.keep hk⟩
theorem sum_bulk {H α : Type} (f : α → Nat) : ∀ (gs : List α) (l : List (DataW H)), gs.length ≤ l.length → (∀ (i : Nat) g d, gs[i]? = some g → l[i]? = some d → f g ≤ Rows.uptoBulk d) → (gs.map f).sum ≤ Rows.uptoBulkAll l
  | [], l, _, _ => by simp
  | g :: gs, [], h, _ => by simp at h
  | g :: gs, d :: l, h, hf => by
    have h1 := hf 0 g d rfl rfl
    have h2 := sum_bulk f gs l (by simpa using h) (fun i g' d' hg hd => hf (i + 1) g' d' (by simpa using hg) (by simpa using hd))
    simp only [List.map_cons, List.sum_cons, Rows.uptoBulkAll]
    omega
section
variable {H : Type} {enc : TypeId × Value → H} {W : World}
theorem trod_bulk {t e : TypeId} {fuel : Nat} {cs : List Value} {x : DataW H × List MemPlace} (ht : Try.prog.underlying t = some (.slice e)) (hf : DataW.trod enc Try.prog W 0 (fun _ => true) true fuel t cs = some x) : ∀ (a : Option Addr) (len cap : Nat), cs = [.slice a len cap] → len + 1 ≤ Rows.uptoBulk x.1 := by
  intro a len cap hcs
  rcases open_slice ht hf with ⟨rfl, e⟩ | ⟨x, len', c, m, n, D, Pl, rfl, _, hl, hm, hmm, e, hi⟩
  · simp at hcs
    have := bulk_one x.1
    omega
  · simp at hcs
    obtain ⟨_, rfl, _⟩ := hcs
    subst e
    have := bulk_slice ((List.range len').map D) ((List.range (m - len')).map fun j => D (len' + j))
    rw [List.length_map, List.length_range] at this
    show len' + 1 ≤ Rows.uptoBulk (.slice _ _)
    omega
set_option maxRecDepth 100000 in
theorem groups_trod {fuel : Nat} {cs : List Value} {x : DataW H × List MemPlace} (hf : DataW.trod enc Try.prog W 0 (fun _ => true) true fuel 35 cs = some x) :
    ∃ (a : Option Addr) (cap : Nat) (gss : List Gs), cs = [.slice a gss.length cap] ∧ ArgG W a gss ∧ gsN gss + 1 ≤ Rows.uptoBulk x.1 := by
  rcases open_slice Try.underlying35 hf with ⟨rfl, e⟩ | ⟨x, len', c, m, n, D, Pl, rfl, _, hl, hm, hmm, e, hi⟩
  · exact ⟨none, 0, [], rfl, ⟨by simp⟩, by have := bulk_one x.1; simpa [gsN] using this⟩
  · simp only [if_true] at hmm
    subst hmm
    subst e
    have hc1 : Try.prog.cellsOf 23 = 1 := by kernel_rfl
    rw [hc1] at hi
    obtain ⟨gss, hlen, hgs⟩ := rows_ofT (Q := fun i (g : Gs) => ((∃ b off, some x = some ⟨b, off, none⟩ ∧ W.cell? ⟨b, off + i, none⟩ = some (.slice g.A g.its.length g.c)) ∧ Writes W g.A g.its) ∧ g.its.length + 1 ≤ Rows.uptoBulk (D i)) len' (fun i hin => by
      obtain ⟨row, hrow, htr⟩ := hi i (by omega)
      obtain ⟨_, hlen, hat⟩ := World.cells?_some hrow
      have hbk := trod_bulk Try.underlying23 htr
      obtain ⟨A, cap, its, rfl, _, _, hW, _⟩ := writes_trod htr
      refine ⟨⟨A, cap, its⟩, ⟨?_, hW⟩, hbk A its.length cap rfl⟩
      obtain ⟨b, off, spot⟩ := x
      have hspot : spot = none := by
        obtain ⟨row0, hrow0, htr0⟩ := hi 0 (by omega)
        obtain ⟨_, hlen0, hat0⟩ := World.cells?_some hrow0
        have := World.cell?_spot ((hat0 0 (by omega)).trans (List.getElem?_eq_getElem (by omega)))
        simpa [Addr.add] using this
      subst hspot
      refine ⟨b, off, rfl, ?_⟩
      have := hat 0 (by omega)
      rw [addr_add, addr_add] at this
      simpa using this)
    refine ⟨some x, _, gss, by rw [hlen], ⟨fun i y hy => (hgs i y hy).1⟩, ?_⟩
    have h1 := sum_bulk (fun g : Gs => g.its.length + 1) gss ((List.range len').map D) (by simp [hlen]) (fun i g d hg hd => by
      rw [List.getElem?_map] at hd
      cases hr : (List.range len')[i]? with
      | none => rw [hr] at hd; cases hd
      | some j =>
        rw [hr] at hd
        injection hd with hd
        obtain ⟨hi2, e⟩ := List.getElem?_eq_some_iff.1 hr
        rw [List.getElem_range] at e
        subst e; subst hd
        exact (hgs i g hg).2)
    have h2 := bulk_elems ((List.range len').map D) ((List.range (m - len')).map fun j => D (len' + j))
    show gsN gss + 1 ≤ Rows.uptoBulk (.slice _ _)
    unfold gsN
    omega
set_option maxRecDepth 100000 in
theorem reads_trod {fuel : Nat} {cs : List Value} {x : DataW H × List MemPlace} (hf : DataW.trod enc Try.prog W 0 (fun _ => true) true fuel 37 cs = some x) :
    ∃ (a : Option Addr) (cap : Nat) (ds : List (List Nat)), cs = [.slice a ds.length cap] ∧ RdsAt W a ds ∧ ∀ d ∈ ds, ∀ u ∈ d, u < 256 := by
  rcases open_slice Try.underlying37 hf with ⟨rfl, e⟩ | ⟨x, len', c, m, n, D, Pl, rfl, _, hl, hm, hmm, e, hi⟩
  · exact ⟨none, 0, [], rfl, fun i d hd => by simp at hd, by simp⟩
  · simp only [if_true] at hmm
    subst hmm
    have hc1 : Try.prog.cellsOf 22 = 1 := by kernel_rfl
    rw [hc1] at hi
    obtain ⟨ds, hlen, hds⟩ := rows_ofT (Q := fun i (l : List Nat) => (∃ g off A1 c1, some x = some ⟨g, off, none⟩ ∧ W.cell? ⟨g, off + i, none⟩ = some (.slice A1 l.length c1) ∧ Cells8 W A1 l) ∧ ∀ u ∈ l, u < 256) len' (fun i hin => by
      obtain ⟨row, hrow, htr⟩ := hi i (by omega)
      obtain ⟨_, hlen, hat⟩ := World.cells?_some hrow
      obtain ⟨A, l, cap, rfl, _, _, h256, hlies, _, _⟩ := bytes_trod htr
      refine ⟨l, ?_, h256⟩
      obtain ⟨b, off, spot⟩ := x
      have hspot : spot = none := by
        obtain ⟨row0, hrow0, htr0⟩ := hi 0 (by omega)
        obtain ⟨_, hlen0, hat0⟩ := World.cells?_some hrow0
        have := World.cell?_spot ((hat0 0 (by omega)).trans (List.getElem?_eq_getElem (by omega)))
        simpa [Addr.add] using this
      subst hspot
      refine ⟨b, off, A, cap, rfl, ?_, hlies⟩
      have := hat 0 (by omega)
      rw [addr_add, addr_add] at this
      simpa using this)
    exact ⟨some x, _, ds, by rw [hlen], fun i d hd => (hds i d hd).1, fun d hd u hu => by
      obtain ⟨i, hi2⟩ := List.mem_iff_getElem?.1 hd
      exact (hds i d hi2).2 u hu⟩
set_option maxRecDepth 100000 in
theorem act_trod {fuel : Nat} {cs : List Value} {x : DataW H × List MemPlace} (h : DataW.trod enc Try.prog W 0 (fun _ => true) true fuel 56 cs = some x) :
    ∃ a : Ac, cs = a.vs ∧ AcAt W a ∧ a.cnt ≤ Rows.uptoBulk x.1 := by
  obtain ⟨xs, n, rfl, rfl, hcl, hxl, hf⟩ := DataW.trod_struct Try.underlying56 h
  have hc5 : Try.prog.cellsOf 56 = 5 := by kernel_rfl
  have hci : Try.prog.cellsOf 3 = 1 := by kernel_rfl
  have hcw : Try.prog.cellsOf 23 = 1 := by kernel_rfl
  have hcg : Try.prog.cellsOf 35 = 1 := by kernel_rfl
  have hcb : Try.prog.cellsOf 37 = 1 := by kernel_rfl
  rw [hc5] at hcl
  obtain ⟨c0, c1, c2, c3, c4, rfl⟩ : ∃ c0 c1 c2 c3 c4, cs = [c0, c1, c2, c3, c4] := by
    match cs, hcl with | [a, b, c, d, e], _ => exact ⟨a, b, c, d, e, rfl⟩
  obtain ⟨x0, x1, x2, x3, x4, rfl⟩ : ∃ x0 x1 x2 x3 x4, xs = [x0, x1, x2, x3, x4] := by
    have : xs.length = 5 := by simpa using hxl
    match xs, this with | [a, b, c, d, e], _ => exact ⟨a, b, c, d, e, rfl⟩
  have f0 := hf 0 _ rfl
  have f1 := hf 1 _ rfl
  have f2 := hf 2 _ rfl
  have f3 := hf 3 _ rfl
  have f4 := hf 4 _ rfl
  simp [hci, hcw, hcg, hcb] at f0 f1 f2 f3 f4
  obtain ⟨op, e0, e0', _⟩ := DataW.trod_int Try.underlying3 f0
  have b1 := trod_bulk Try.underlying23 f1
  have b4 := trod_bulk Try.underlying37 f4
  obtain ⟨A1, k1, its, e1, _, _, hW, _⟩ := writes_trod f1
  obtain ⟨A2, k2, gss, e2, hG, hg⟩ := groups_trod f2
  obtain ⟨pl, e3, e3', wp⟩ := DataW.trod_int Try.underlying3 f3
  obtain ⟨A3, k3, ds, e4, hD, hd⟩ := reads_trod f4
  have b1 := b1 _ _ _ e1
  have b4 := b4 _ _ _ e4
  simp at e0 e1 e2 e3 e4
  subst e0 e1 e2 e3 e4
  refine ⟨⟨op, A1, k1, its, A2, k2, gss, pl, A3, k3, ds⟩, rfl, ⟨hW, hG, hD, hd, R64.of_wf wp⟩, ?_⟩
  have h2 := bulk_agg [x0.1, x1.1, x2.1, x3.1, x4.1]
  simp only [Rows.uptoBulkAll, List.map_cons, List.map_nil] at *
  unfold Ac.cnt
  simp only
  omega
set_option maxRecDepth 100000 in
theorem placts_view {base : Nat} {v : Value} {d : DataW H} {p : List MemPlace}
    (o : Value.okWide Try.prog W .any base 50 v) (h : DataW.Trod enc Try.prog W 0 (fun _ => true) true 50 v d p) :
    ∃ (a : Option Addr) (cap : Nat) (acs : List Ac), v = .slice a acs.length cap ∧ PlActs W a acs ∧ acsN acs ≤ Rows.uptoBulk d ∧ acs.length ≤ Rows.uptoBulk d := by
  obtain ⟨a, len, cap, rfl⟩ := okWide_slice Try.underlying50 o
  obtain ⟨fuel, hf⟩ := h
  rcases open_slice Try.underlying50 hf with ⟨hcs, e⟩ | ⟨x, len', c, m, n, D, Pl, hcs, _, hl, hm, hmm, e, hi⟩
  · simp [Value.cells] at hcs
    obtain ⟨rfl, rfl, rfl⟩ := hcs
    exact ⟨none, 0, [], rfl, fun i a ha => by simp at ha, by simp [acsN], by simp⟩
  · simp [Value.cells] at hcs
    obtain ⟨rfl, rfl, rfl⟩ := hcs
    simp only [if_true] at hmm
    subst hmm
    simp only [Prod.mk.injEq] at e
    obtain ⟨rfl, _⟩ := e
    have hc5 : Try.prog.cellsOf 56 = 5 := by kernel_rfl
    rw [hc5] at hi
    obtain ⟨acs, hlen, hac⟩ := rows_ofT (Q := fun i (y : Ac) => ((∃ b off, some x = some ⟨b, off, none⟩ ∧ ∀ j u, y.vs[j]? = some u → W.cell? ⟨b, off + (i * 5 + j), none⟩ = some u) ∧ AcAt W y) ∧ y.cnt ≤ Rows.uptoBulk (D i)) len (fun i hin => by
      obtain ⟨row, hrow, htr⟩ := hi i (by omega)
      obtain ⟨_, hlen, hat⟩ := World.cells?_some hrow
      obtain ⟨y, rfl, hA, hb⟩ := act_trod htr
      refine ⟨y, ⟨?_, hA⟩, hb⟩
      obtain ⟨b, off, spot⟩ := x
      have hspot : spot = none := by
        obtain ⟨row0, hrow0, htr0⟩ := hi 0 (by omega)
        obtain ⟨_, hlen0, hat0⟩ := World.cells?_some hrow0
        have := World.cell?_spot ((hat0 0 (by omega)).trans (List.getElem?_eq_getElem (by omega)))
        simpa [Addr.add] using this
      subst hspot
      refine ⟨b, off, rfl, fun j u hu => ?_⟩
      have hj : j < y.vs.length := by
        rcases Nat.lt_or_ge j y.vs.length with h1 | h1
        · exact h1
        · rw [List.getElem?_eq_none h1] at hu; cases hu
      have := hat j (by simpa using hj)
      rw [addr_add, addr_add, hu, Nat.add_assoc] at this
      exact this)
    refine ⟨some x, _, acs, by rw [hlen], fun i y hy => (hac i y hy).1, ?_, ?_⟩
    · have h1 := sum_bulk Ac.cnt acs ((List.range len).map D) (by simp [hlen]) (fun i g d hg hd => by
        rw [List.getElem?_map] at hd
        cases hr : (List.range len)[i]? with
        | none => rw [hr] at hd; cases hd
        | some j =>
          rw [hr] at hd
          injection hd with hd
          obtain ⟨hi2, e⟩ := List.getElem?_eq_some_iff.1 hr
          rw [List.getElem_range] at e
          subst e; subst hd
          exact (hac i g hg).2)
      have h2 := bulk_elems ((List.range len).map D) ((List.range (m - len)).map fun j => D (len + j))
      show acsN acs ≤ Rows.uptoBulk (.slice _ _)
      unfold acsN
      omega
    · have := bulk_slice ((List.range len).map D) ((List.range (m - len)).map fun j => D (len + j))
      rw [List.length_map, List.length_range] at this
      show acs.length ≤ Rows.uptoBulk (.slice _ _)
      omega
end
end Go.Proofs.Ytomigaldomiefaa
