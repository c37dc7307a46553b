/- crash: writes among the arguments. -/
import Derived.Test.YtomigaldomiefaaCrBase
import Derived.Test.YtomigaldomiefaaOpenStructs
import Derived.Test.YtomigaldomiefaaCacheBulk
import Derived.SizedLaws
namespace Go.Proofs.Ytomigaldomiefaa
open Go.ChangeShapes Go.WideShapes Go.ChangeAt Go.RowKit Go.Joins Go.Deep
set_option linter.unusedVariables false
set_option linter.unusedSimpArgs false

/-- A write in memory. -/
structure Ws where
  a : Int
  s : Int
  A : Option Addr
  c : Nat
  l : List Nat
abbrev Ws.wr (x : Ws) : List Value := [.int .i64 x.a, .int .i64 x.s, .slice x.A x.l.length x.c]
def wrsV (l : List Ws) : List Value := l.flatMap Ws.wr
/-- A write that came in: its numbers are such, its bytes lie there. -/
structure ArgW (w : World) (x : Ws) : Prop where
  wa : R64 x.a
  ws : R64 x.s
  small : ∀ u ∈ x.l, u < 256
  lies : Cells8 w x.A x.l
  cap : x.l.length ≤ x.c
theorem ArgW.keep {w w' : World} {x : Ws} (h : ArgW w x) (hk : ∀ p v, w.cell? p = some v → w'.cell? p = some v) : ArgW w' x :=
  ⟨h.wa, h.ws, h.small, fun i hi => by obtain ⟨b, off, e, hc⟩ := h.lies i hi; exact ⟨b, off, e, hk _ _ hc⟩, h.cap⟩
theorem ArgW.src {w : World} {x : Ws} (h : ArgW w x) : Src w 1 x.A x.l.length (intsV .u8 x.l) := Src.bytes h.lies
/-- The block of its bytes is one of w's. -/
theorem ArgW.lt {w : World} {x : Ws} (h : ArgW w x) (h0 : 0 < x.l.length) : ∀ a, x.A = some a → a.block < w.heap.size := fun a e => by
  obtain ⟨b, off, e2, hc⟩ := h.lies 0 h0
  rw [e2] at e; injection e with e; subst e
  exact World.block_lt_of_cell? w _ hc

theorem add_zero_spot (a : Addr) (w : World) (v : Value) (h : w.cell? ((a.add (0 * 3)).add 0) = some v) : a.spot = none := by
  have := World.cell?_spot h
  simpa [Addr.add] using this
theorem weightsAll_mem {H : Type} {P : Program} {e : TypeId} {d : DataW H} : ∀ {l : List (DataW H)}, d ∈ l → ∀ q ∈ d.weights P e, q ∈ DataW.weightsAll P e l
  | x :: r, h, q, hq => by
    simp only [DataW.weightsAll, List.mem_append]
    rcases List.mem_cons.1 h with rfl | h
    · exact .inl hq
    · exact .inr (weightsAll_mem h q hq)
section
variable {H : Type} {enc : TypeId × Value → H} {W : World}
theorem bytes_trod {fuel : Nat} {cs : List Value} {x : DataW H × List MemPlace} (h : DataW.trod enc Try.prog W 0 (fun _ => true) true fuel 22 cs = some x) :
    ∃ (a : Option Addr) (l : List Nat) (cap : Nat), cs = [.slice a l.length cap] ∧ l.length ≤ cap ∧ cap ≤ maxLen ∧ (∀ x ∈ l, x < 256) ∧ Cells8 W a l ∧ (∀ N, (∀ q ∈ x.1.weights Try.prog 22, q ≤ N) → l.length ≤ N) ∧ l.length ≤ Rows.uptoBulk x.1 := by
  rcases open_ints Try.underlying22 Try.underlying5 (by kernel_rfl) h with ⟨rfl, rfl⟩ | ⟨ad, len, cap, zs, rfl, _, hl, hm, hz, rfl, hcell, hwz⟩
  · exact ⟨none, [], 0, rfl, Nat.le_refl _, by simp [maxLen], by simp, Cells8.nil, by simp, by simp⟩
  · have hzl : zs.length = cap := by simpa using hz
    have hlen : ((zs.take len).map Int.toNat).length = len := by simp; omega
    have hw : ∀ z ∈ zs, 0 ≤ z ∧ z ≤ 255 := by
      intro z hzm
      have := hwz z hzm
      simpa [Lit.wf, IntKind.min, IntKind.max, IntKind.signed, IntKind.bits] using this
    refine ⟨some ad, (zs.take len).map Int.toNat, cap, by rw [hlen], by omega, hm, ?_, ?_, ?_, ?_⟩
    · intro y hy
      rw [List.mem_map] at hy
      obtain ⟨z, hz1, rfl⟩ := hy
      have := hw z (List.mem_of_mem_take hz1)
      omega
    · intro i hi
      rw [hlen] at hi
      obtain ⟨b, off, spot⟩ := ad
      have hc := hcell i (by omega)
      have hspot : spot = none := by
        have h0 := hcell 0 (by omega)
        simpa [Addr.add] using World.cell?_spot h0
      subst hspot
      refine ⟨b, off, rfl, ?_⟩
      rw [addr_add] at hc
      rw [hc]
      have h0 : 0 ≤ zs.getD i 0 := by
        have : zs.getD i 0 ∈ zs := by simp [List.getD, show i < zs.length by omega]
        exact (hw _ this).1
      have : ((zs.take len).map Int.toNat).getD i 0 = (zs.getD i 0).toNat := by
        simp [List.getD, List.getElem?_take, hi]
        rw [List.getElem?_eq_getElem (show i < zs.length by omega)]
        simp
      rw [this, Int.toNat_of_nonneg h0]
    · intro N hN
      rw [hlen]
      have hb : Try.prog.bytesOf 5 = 1 := by kernel_rfl
      have := hN (((lits .u8 (zs.take len) : List (DataW H)).length + (lits .u8 (zs.drop len) : List (DataW H)).length) * Try.prog.bytesOf 5) (by
        simp [DataW.weights, Try.underlying22])
      have e1 : (lits .u8 (zs.take len) : List (DataW H)).length = len := by simp [lits]; omega
      rw [hb, e1, Nat.mul_one] at this
      omega
    · rw [hlen]
      have := bulk_slice (lits .u8 (zs.take len) : List (DataW H)) (lits .u8 (zs.drop len))
      have e1 : (lits .u8 (zs.take len) : List (DataW H)).length = len := by simp [lits]; omega
      rw [e1] at this
      simp only at this ⊢
      omega
theorem R64.of_wf {n : Int} (h : (Lit.int .i64 n).wf = true) : R64 n := by unfold R64; simpa [Lit.wf, IntKind.min, IntKind.max, IntKind.signed, IntKind.bits] using h
set_option maxRecDepth 100000 in
theorem write_trod {fuel : Nat} {cs : List Value} {x : DataW H × List MemPlace} (h : DataW.trod enc Try.prog W 0 (fun _ => true) true fuel 30 cs = some x) :
    ∃ y : Ws, cs = y.wr ∧ ArgW W y ∧ (∀ N, (∀ q ∈ x.1.weights Try.prog 30, q ≤ N) → y.l.length ≤ N) ∧ y.l.length + 1 ≤ Rows.uptoBulk x.1 := by
  obtain ⟨xs, n, rfl, rfl, hcl, hxl, hf⟩ := DataW.trod_struct Try.underlying30 h
  have hc3 : Try.prog.cellsOf 30 = 3 := by kernel_rfl
  have hci : Try.prog.cellsOf 3 = 1 := by kernel_rfl
  have hcb : Try.prog.cellsOf 22 = 1 := by kernel_rfl
  rw [hc3] at hcl
  obtain ⟨c0, c1, c2, rfl⟩ : ∃ c0 c1 c2, cs = [c0, c1, c2] := by
    match cs, hcl with | [a, b, c], _ => exact ⟨a, b, c, rfl⟩
  obtain ⟨x0, x1, x2, rfl⟩ : ∃ x0 x1 x2, xs = [x0, x1, x2] := by
    have : xs.length = 3 := by simpa using hxl
    match xs, this with | [a, b, c], _ => exact ⟨a, b, c, rfl⟩
  have f0 := hf 0 _ rfl
  have f1 := hf 1 _ rfl
  have f2 := hf 2 _ rfl
  simp [hci, hcb] at f0 f1 f2
  obtain ⟨a, e0, e0', wa⟩ := DataW.trod_int Try.underlying3 f0
  obtain ⟨s, e1, e1', ws⟩ := DataW.trod_int Try.underlying3 f1
  obtain ⟨A, l, cap, e2, hlc, hm, h256, hlies, hw, hb⟩ := bytes_trod f2
  simp at e0 e1 e2
  subst e0 e1 e2
  refine ⟨⟨a, s, A, cap, l⟩, rfl, ⟨R64.of_wf wa, R64.of_wf ws, h256, hlies, hlc⟩, fun N hN => hw N (fun q hq => hN q ?_), ?_⟩
  · simp [DataW.weights, Try.underlying30, DataW.weightsEach, hq]
  · have h1 := bulk_part (H := H) (d := x2.1) (l := [x0.1, x1.1, x2.1]) (by simp)
    have h2 := bulk_agg [x0.1, x1.1, x2.1]
    simp only [List.map_cons, List.map_nil] at *
    omega
/-- Writes in a row, that came in. -/
structure Writes (w : World) (a : Option Addr) (its : List Ws) : Prop where
  at0 : ∀ i x, its[i]? = some x → (∃ b off, a = some ⟨b, off, none⟩ ∧ ∀ j u, x.wr[j]? = some u → w.cell? ⟨b, off + (i * 3 + j), none⟩ = some u) ∧ ArgW w x
theorem Writes.keep {w w' : World} {a : Option Addr} {its : List Ws} (h : Writes w a its) (hk : ∀ p v, w.cell? p = some v → w'.cell? p = some v) : Writes w' a its :=
  ⟨fun i x hx => by obtain ⟨⟨b, off, e, hc⟩, hA⟩ := h.at0 i x hx; exact ⟨⟨b, off, e, fun j u hu => hk _ _ (hc j u hu)⟩, hA.keep hk⟩⟩
theorem rows_of {Q : Nat → Ws → Prop} (n : Nat) (h : ∀ i, i < n → ∃ x, Q i x) : ∃ its : List Ws, its.length = n ∧ ∀ i x, its[i]? = some x → Q i x := by
  induction n with
  | zero => exact ⟨[], rfl, by simp⟩
  | succ n ih =>
    obtain ⟨its, hl, hq⟩ := ih (fun i hi => h i (by omega))
    obtain ⟨x, hx⟩ := h n (by omega)
    refine ⟨its ++ [x], by simp [hl], fun i y hy => ?_⟩
    rcases Nat.lt_or_ge i its.length with hi | hi
    · rw [List.getElem?_append_left hi] at hy; exact hq i y hy
    · rw [List.getElem?_append_right hi] at hy
      have : i = n := by
        have := (List.getElem?_eq_some_iff.1 hy).1
        simp at this; omega
      subst this
      rw [hl, Nat.sub_self] at hy
      simp at hy; subst hy; exact hx
theorem spot_none {b off : Nat} {spot : Option Nat} {w : World} {v : Value} (h : w.cell? ⟨b, off, spot⟩ = some v) : spot = none := World.cell?_spot h
set_option maxRecDepth 100000 in
theorem writes_view {base : Nat} {v : Value} {d : DataW H} {p : List MemPlace}
    (o : Value.okWide Try.prog W .any base 23 v) (h : DataW.Trod enc Try.prog W 0 (fun _ => true) true 23 v d p) :
    ∃ (a : Option Addr) (cap : Nat) (its : List Ws), v = .slice a its.length cap ∧ its.length ≤ cap ∧ cap ≤ maxLen ∧ Writes W a its ∧ (∀ N, (∀ q ∈ d.weights Try.prog 23, q ≤ N) → ∀ x ∈ its, x.l.length ≤ N) := by
  obtain ⟨a, len, cap, rfl⟩ := okWide_slice Try.underlying23 o
  obtain ⟨fuel, hf⟩ := h
  rcases open_slice Try.underlying23 hf with ⟨hcs, e⟩ | ⟨x, len', c, m, n, D, Pl, hcs, _, hl, hm, hmm, e, hi⟩
  · simp [Value.cells] at hcs
    obtain ⟨rfl, rfl, rfl⟩ := hcs
    exact ⟨none, 0, [], rfl, Nat.le_refl _, by simp [maxLen], ⟨by simp⟩, by simp⟩
  · simp [Value.cells] at hcs
    obtain ⟨rfl, rfl, rfl⟩ := hcs
    simp only [if_true] at hmm
    subst hmm
    have hc3 : Try.prog.cellsOf 30 = 3 := by kernel_rfl
    rw [hc3] at hi
    simp only [Prod.mk.injEq] at e
    obtain ⟨rfl, _⟩ := e
    obtain ⟨its, hlen, hits⟩ := rows_of (Q := fun i y => ((∃ b off, some x = some ⟨b, off, none⟩ ∧ ∀ j u, y.wr[j]? = some u → W.cell? ⟨b, off + (i * 3 + j), none⟩ = some u) ∧ ArgW W y) ∧ (∀ N, (∀ q ∈ (D i).weights Try.prog 30, q ≤ N) → y.l.length ≤ N)) len (fun i hin => by
      obtain ⟨row, hrow, htr⟩ := hi i (by omega)
      obtain ⟨_, hlen, hat⟩ := World.cells?_some hrow
      obtain ⟨y, rfl, hA, hw, _⟩ := write_trod htr
      refine ⟨y, ⟨?_, hA⟩, hw⟩
      obtain ⟨b, off, spot⟩ := x
      have hspot : spot = none := by
        obtain ⟨row0, hrow0, htr0⟩ := hi 0 (by omega)
        obtain ⟨_, hlen0, hat0⟩ := World.cells?_some hrow0
        exact add_zero_spot ⟨b, off, spot⟩ W _ ((hat0 0 (by omega)).trans (List.getElem?_eq_getElem (by omega)))
      subst hspot
      refine ⟨b, off, rfl, fun j u hu => ?_⟩
      have hj : j < y.wr.length := by
        rcases Nat.lt_or_ge j y.wr.length with h1 | h1
        · exact h1
        · rw [List.getElem?_eq_none h1] at hu; cases hu
      have := hat j (by simpa using hj)
      rw [addr_add, addr_add, hu, Nat.add_assoc] at this
      exact this)
    refine ⟨some x, m, its, by rw [hlen], by omega, hm, ⟨fun i y hy => (hits i y hy).1⟩, fun N hN y hy => ?_⟩
    obtain ⟨i, hi2⟩ := List.mem_iff_getElem?.1 hy
    refine (hits i y hi2).2 N (fun q hq => hN q ?_)
    have hin : i < len := by rw [← hlen]; exact (List.getElem?_eq_some_iff.1 hi2).1
    simp only [DataW.weights, Try.underlying23, List.mem_cons, List.mem_append]
    refine .inr (.inl ?_)
    exact weightsAll_mem (List.mem_map.2 ⟨i, List.mem_range.2 hin, rfl⟩) q hq
end
end Go.Proofs.Ytomigaldomiefaa
