/- What follows is laid together from several texts of mine, in their order. -/
import Derived.Test.YtomigaldomiefaaQ3
import Derived.Test.YtomigaldomiefaaQ4
import Derived.SizedLaws

namespace Go.Proofs.Ytomigaldomiefaa
open Go.ChangeShapes Go.WideShapes Go.ChangeAt Go.RowKit Go.Joins Go.Deep
set_option linter.unusedVariables false
set_option linter.unusedSimpArgs false

/-- A write in memory. -/
structure Ws where
  a : Int
  s : Int
  A : Option Addr
  c : Nat
  l : List Nat
abbrev Ws.wr (x : Ws) : List Value := [.int .i64 x.a, .int .i64 x.s, .slice x.A x.l.length x.c]
def wrsV (l : List Ws) : List Value := l.flatMap Ws.wr
/-- A write that came in: its numbers are such, its bytes lie there. -/
structure ArgW (w : World) (x : Ws) : Prop where
  wa : R64 x.a
  ws : R64 x.s
  small : ∀ u ∈ x.l, u < 256
  lies : Cells8 w x.A x.l
  cap : x.l.length ≤ x.c
theorem ArgW.keep {w w' : World} {x : Ws} (h : ArgW w x) (hk : ∀ p v, w.cell? p = some v → w'.cell? p = some v) : ArgW w' x :=
  ⟨h.wa, h.ws, h.small, fun i hi => by obtain ⟨b, off, e, hc⟩ := h.lies i hi; exact ⟨b, off, e, hk _ _ hc⟩, h.cap⟩
theorem ArgW.src {w : World} {x : Ws} (h : ArgW w x) : Src w 1 x.A x.l.length (intsV .u8 x.l) := Src.bytes h.lies
/-- The block of its bytes is one of w's. -/
theorem ArgW.lt {w : World} {x : Ws} (h : ArgW w x) (h0 : 0 < x.l.length) : ∀ a, x.A = some a → a.block < w.heap.size := fun a e => by
  obtain ⟨b, off, e2, hc⟩ := h.lies 0 h0
  rw [e2] at e; injection e with e; subst e
  exact World.block_lt_of_cell? w _ hc

theorem add_zero_spot (a : Addr) (w : World) (v : Value) (h : w.cell? ((a.add (0 * 3)).add 0) = some v) : a.spot = none := by
  have := World.cell?_spot h
  simpa [Addr.add] using this
theorem weightsAll_mem {H : Type} {P : Program} {e : TypeId} {d : DataW H} : ∀ {l : List (DataW H)}, d ∈ l → ∀ q ∈ d.weights P e, q ∈ DataW.weightsAll P e l
  | x :: r, h, q, hq => by
    simp only [DataW.weightsAll, List.mem_append]
    rcases List.mem_cons.1 h with rfl | h
    · exact .inl hq
    · exact .inr (weightsAll_mem h q hq)
section
variable {H : Type} {enc : TypeId × Value → H} {W : World}
theorem bytes_trod {fuel : Nat} {cs : List Value} {x : DataW H × List MemPlace} (h : DataW.trod enc Try.prog W 0 (fun _ => true) true fuel 22 cs = some x) :
    ∃ (a : Option Addr) (l : List Nat) (cap : Nat), cs = [.slice a l.length cap] ∧ l.length ≤ cap ∧ cap ≤ maxLen ∧ (∀ x ∈ l, x < 256) ∧ Cells8 W a l ∧ (∀ N, (∀ q ∈ x.1.weights Try.prog 22, q ≤ N) → l.length ≤ N) ∧ l.length ≤ Rows.uptoBulk x.1 := by
  rcases open_ints Try.underlying22 Try.underlying5 (by kernel_rfl) h with ⟨rfl, rfl⟩ | ⟨ad, len, cap, zs, rfl, _, hl, hm, hz, rfl, hcell, hwz⟩
  · exact ⟨none, [], 0, rfl, Nat.le_refl _, by simp [maxLen], by simp, Cells8.nil, by simp, by simp⟩
  · have hzl : zs.length = cap := by simpa using hz
    have hlen : ((zs.take len).map Int.toNat).length = len := by simp; omega
    have hw : ∀ z ∈ zs, 0 ≤ z ∧ z ≤ 255 := by
      intro z hzm
      have := hwz z hzm
      simpa [Lit.wf, IntKind.min, IntKind.max, IntKind.signed, IntKind.bits] using this
    refine ⟨some ad, (zs.take len).map Int.toNat, cap, by rw [hlen], by omega, hm, ?_, ?_, ?_, ?_⟩
    · intro y hy
      rw [List.mem_map] at hy
      obtain ⟨z, hz1, rfl⟩ := hy
      have := hw z (List.mem_of_mem_take hz1)
      omega
    · intro i hi
      rw [hlen] at hi
      obtain ⟨b, off, spot⟩ := ad
      have hc := hcell i (by omega)
      have hspot : spot = none := by
        have h0 := hcell 0 (by omega)
        simpa [Addr.add] using World.cell?_spot h0
      subst hspot
      refine ⟨b, off, rfl, ?_⟩
      rw [addr_add] at hc
      rw [hc]
      have h0 : 0 ≤ zs.getD i 0 := by
        have : zs.getD i 0 ∈ zs := by simp [List.getD, show i < zs.length by omega]
        exact (hw _ this).1
      have : ((zs.take len).map Int.toNat).getD i 0 = (zs.getD i 0).toNat := by
        simp [List.getD, List.getElem?_take, hi]
        rw [List.getElem?_eq_getElem (show i < zs.length by omega)]
        simp
      rw [this, Int.toNat_of_nonneg h0]
    · intro N hN
      rw [hlen]
      have hb : Try.prog.bytesOf 5 = 1 := by kernel_rfl
      have := hN (((lits .u8 (zs.take len) : List (DataW H)).length + (lits .u8 (zs.drop len) : List (DataW H)).length) * Try.prog.bytesOf 5) (by
        simp [DataW.weights, Try.underlying22])
      have e1 : (lits .u8 (zs.take len) : List (DataW H)).length = len := by simp [lits]; omega
      rw [hb, e1, Nat.mul_one] at this
      omega
    · rw [hlen]
      have := bulk_slice (lits .u8 (zs.take len) : List (DataW H)) (lits .u8 (zs.drop len))
      have e1 : (lits .u8 (zs.take len) : List (DataW H)).length = len := by simp [lits]; omega
      rw [e1] at this
      simp only at this ⊢
      omega
theorem R64.of_wf {n : Int} (h : (Lit.int .i64 n).wf = true) : R64 n := by unfold R64; simpa [Lit.wf, IntKind.min, IntKind.max, IntKind.signed, IntKind.bits] using h
set_option maxRecDepth 100000 in
theorem write_trod {fuel : Nat} {cs : List Value} {x : DataW H × List MemPlace} (h : DataW.trod enc Try.prog W 0 (fun _ => true) true fuel 30 cs = some x) :
    ∃ y : Ws, cs = y.wr ∧ ArgW W y ∧ (∀ N, (∀ q ∈ x.1.weights Try.prog 30, q ≤ N) → y.l.length ≤ N) ∧ y.l.length + 1 ≤ Rows.uptoBulk x.1 := by
  obtain ⟨xs, n, rfl, rfl, hcl, hxl, hf⟩ := DataW.trod_struct Try.underlying30 h
  have hc3 : Try.prog.cellsOf 30 = 3 := by kernel_rfl
  have hci : Try.prog.cellsOf 3 = 1 := by kernel_rfl
  have hcb : Try.prog.cellsOf 22 = 1 := by kernel_rfl
  rw [hc3] at hcl
  obtain ⟨c0, c1, c2, rfl⟩ : ∃ c0 c1 c2, cs = [c0, c1, c2] := by
    match cs, hcl with | [a, b, c], _ => exact ⟨a, b, c, rfl⟩
  obtain ⟨x0, x1, x2, rfl⟩ : ∃ x0 x1 x2, xs = [x0, x1, x2] := by
    have : xs.length = 3 := by simpa using hxl
    match xs, this with | [a, b, c], _ => exact ⟨a, b, c, rfl⟩
  have f0 := hf 0 _ rfl
  have f1 := hf 1 _ rfl
  have f2 := hf 2 _ rfl
  simp [hci, hcb] at f0 f1 f2
  obtain ⟨a, e0, e0', wa⟩ := DataW.trod_int Try.underlying3 f0
  obtain ⟨s, e1, e1', ws⟩ := DataW.trod_int Try.underlying3 f1
  obtain ⟨A, l, cap, e2, hlc, hm, h256, hlies, hw, hb⟩ := bytes_trod f2
  simp at e0 e1 e2
  subst e0 e1 e2
  refine ⟨⟨a, s, A, cap, l⟩, rfl, ⟨R64.of_wf wa, R64.of_wf ws, h256, hlies, hlc⟩, fun N hN => hw N (fun q hq => hN q ?_), ?_⟩
  · simp [DataW.weights, Try.underlying30, DataW.weightsEach, hq]
  · have h1 := bulk_part (H := H) (d := x2.1) (l := [x0.1, x1.1, x2.1]) (by simp)
    have h2 := bulk_agg [x0.1, x1.1, x2.1]
    simp only [List.map_cons, List.map_nil] at *
    omega
/-- Writes in a row, that came in. -/
structure Writes (w : World) (a : Option Addr) (its : List Ws) : Prop where
  at0 : ∀ i x, its[i]? = some x → (∃ b off, a = some ⟨b, off, none⟩ ∧ ∀ j u, x.wr[j]? = some u → w.cell? ⟨b, off + (i * 3 + j), none⟩ = some u) ∧ ArgW w x
theorem Writes.keep {w w' : World} {a : Option Addr} {its : List Ws} (h : Writes w a its) (hk : ∀ p v, w.cell? p = some v → w'.cell? p = some v) : Writes w' a its :=
  ⟨fun i x hx => by obtain ⟨⟨b, off, e, hc⟩, hA⟩ := h.at0 i x hx; exact ⟨⟨b, off, e, fun j u hu => hk _ _ (hc j u hu)⟩, hA.keep hk⟩⟩
theorem rows_of {Q : Nat → Ws → Prop} (n : Nat) (h : ∀ i, i < n → ∃ x, Q i x) : ∃ its : List Ws, its.length = n ∧ ∀ i x, its[i]? = some x → Q i x := by
  induction n with
  | zero => exact ⟨[], rfl, by simp⟩
  | succ n ih =>
    obtain ⟨its, hl, hq⟩ := ih (fun i hi => h i (by omega))
    obtain ⟨x, hx⟩ := h n (by omega)
    refine ⟨its ++ [x], by simp [hl], fun i y hy => ?_⟩
    rcases Nat.lt_or_ge i its.length with hi | hi
    · rw [List.getElem?_append_left hi] at hy; exact hq i y hy
    · rw [List.getElem?_append_right hi] at hy
      have : i = n := by
        have := (List.getElem?_eq_some_iff.1 hy).1
        simp at this; omega
      subst this
      rw [hl, Nat.sub_self] at hy
      simp at hy; subst hy; exact hx
theorem spot_none {b off : Nat} {spot : Option Nat} {w : World} {v : Value} (h : w.cell? ⟨b, off, spot⟩ = some v) : spot = none := World.cell?_spot h
set_option maxRecDepth 100000 in
theorem writes_view {base : Nat} {v : Value} {d : DataW H} {p : List MemPlace}
    (o : Value.okWide Try.prog W .any base 23 v) (h : DataW.Trod enc Try.prog W 0 (fun _ => true) true 23 v d p) :
    ∃ (a : Option Addr) (cap : Nat) (its : List Ws), v = .slice a its.length cap ∧ its.length ≤ cap ∧ cap ≤ maxLen ∧ Writes W a its ∧ (∀ N, (∀ q ∈ d.weights Try.prog 23, q ≤ N) → ∀ x ∈ its, x.l.length ≤ N) := by
  obtain ⟨a, len, cap, rfl⟩ := okWide_slice Try.underlying23 o
  obtain ⟨fuel, hf⟩ := h
  rcases open_slice Try.underlying23 hf with ⟨hcs, e⟩ | ⟨x, len', c, m, n, D, Pl, hcs, _, hl, hm, hmm, e, hi⟩
  · simp [Value.cells] at hcs
    obtain ⟨rfl, rfl, rfl⟩ := hcs
    exact ⟨none, 0, [], rfl, Nat.le_refl _, by simp [maxLen], ⟨by simp⟩, by simp⟩
  · simp [Value.cells] at hcs
    obtain ⟨rfl, rfl, rfl⟩ := hcs
    simp only [if_true] at hmm
    subst hmm
    have hc3 : Try.prog.cellsOf 30 = 3 := by kernel_rfl
    rw [hc3] at hi
    simp only [Prod.mk.injEq] at e
    obtain ⟨rfl, _⟩ := e
    obtain ⟨its, hlen, hits⟩ := rows_of (Q := fun i y => ((∃ b off, some x = some ⟨b, off, none⟩ ∧ ∀ j u, y.wr[j]? = some u → W.cell? ⟨b, off + (i * 3 + j), none⟩ = some u) ∧ ArgW W y) ∧ (∀ N, (∀ q ∈ (D i).weights Try.prog 30, q ≤ N) → y.l.length ≤ N)) len (fun i hin => by
      obtain ⟨row, hrow, htr⟩ := hi i (by omega)
      obtain ⟨_, hlen, hat⟩ := World.cells?_some hrow
      obtain ⟨y, rfl, hA, hw, _⟩ := write_trod htr
      refine ⟨y, ⟨?_, hA⟩, hw⟩
      obtain ⟨b, off, spot⟩ := x
      have hspot : spot = none := by
        obtain ⟨row0, hrow0, htr0⟩ := hi 0 (by omega)
        obtain ⟨_, hlen0, hat0⟩ := World.cells?_some hrow0
        exact add_zero_spot ⟨b, off, spot⟩ W _ ((hat0 0 (by omega)).trans (List.getElem?_eq_getElem (by omega)))
      subst hspot
      refine ⟨b, off, rfl, fun j u hu => ?_⟩
      have hj : j < y.wr.length := by
        rcases Nat.lt_or_ge j y.wr.length with h1 | h1
        · exact h1
        · rw [List.getElem?_eq_none h1] at hu; cases hu
      have := hat j (by simpa using hj)
      rw [addr_add, addr_add, hu, Nat.add_assoc] at this
      exact this)
    refine ⟨some x, m, its, by rw [hlen], by omega, hm, ⟨fun i y hy => (hits i y hy).1⟩, fun N hN y hy => ?_⟩
    obtain ⟨i, hi2⟩ := List.mem_iff_getElem?.1 hy
    refine (hits i y hi2).2 N (fun q hq => hN q ?_)
    have hin : i < len := by rw [← hlen]; exact (List.getElem?_eq_some_iff.1 hi2).1
    simp only [DataW.weights, Try.underlying23, List.mem_cons, List.mem_append]
    refine .inr (.inl ?_)
    exact weightsAll_mem (List.mem_map.2 ⟨i, List.mem_range.2 hin, rfl⟩) q hq
end
end Go.Proofs.Ytomigaldomiefaa

namespace Go.Proofs.Ytomigaldomiefaa
open Go.RowKit Go.MapKept Go.ChangeMaps
open Go.Maps (Keyed)
set_option linter.unusedVariables false
set_option linter.unusedSimpArgs false

theorem wrsV_one (l : List Ws) : ∀ u ∈ wrsV l, u.oneCell' = true := by
  intro u hu
  obtain ⟨x, _, hx⟩ := List.mem_flatMap.1 hu
  simp [Ws.wr] at hx
  rcases hx with rfl | rfl | rfl <;> rfl
theorem wrsV_length (l : List Ws) : (wrsV l).length = l.length * 3 := by
  induction l with
  | nil => rfl
  | cons x l ih => unfold wrsV at ih ⊢; rw [List.flatMap_cons, List.length_append, ih, List.length_cons]; simp [Ws.wr]; omega
theorem wrsV_get : ∀ (l : List Ws) (i j : Nat) (x : Ws) (u : Value), l[i]? = some x → x.wr[j]? = some u → (wrsV l)[i * 3 + j]? = some u
  | y :: l, 0, j, x, u, hx, hu => by
    simp at hx; subst hx
    unfold wrsV
    rw [List.flatMap_cons, List.getElem?_append_left (by have := (List.getElem?_eq_some_iff.1 hu).1; omega)]
    simpa using hu
  | y :: l, i + 1, j, x, u, hx, hu => by
    have := wrsV_get l i j x u (by simpa using hx) hu
    unfold wrsV at this ⊢
    rw [List.flatMap_cons, List.getElem?_append_right (by simp [Ws.wr]; omega)]
    rw [← this]; congr 1; simp [Ws.wr]; omega
abbrev Ws.key (x : Ws) : Wr := (x.s.toNat, x.l)
/-- No row but a state's is turned. -/
def Lone (w : World) (T : List Nat) : Prop := ∀ g ty cs, Row w g ty cs → ty ≠ 67 → g ∉ T
/-- Writes of a state's own. -/
def WrsIs (w : World) (B : Nat) (v : Value) (l : List Wr) : Prop :=
  ∃ its : List Ws, l = its.map Ws.key ∧ w.ownsRow B 30 3 v its.length (wrsV its) ∧ ∀ x ∈ its, x.a = 0 ∧ 0 ≤ x.s ∧ DatIs w B (.slice x.A x.l.length x.c) x.l
/-- Groups of a state's own. -/
def GrsIs (w : World) (B : Nat) (v : Value) (gs : List (List Wr)) : Prop :=
  ∃ vs : List Value, w.ownsRow B 23 1 v gs.length vs ∧ ∀ (i : Nat) (g : List Wr), gs[i]? = some g → ∃ u, vs[i]? = some u ∧ WrsIs w B u g
section
variable {w w' : World} {B : Nat} {T : List Nat}
theorem own_lone {e : TypeId} {size : Nat} {v : Value} {n : Nat} {xs : List Value} (he : e ≠ 67) (h : w.ownsRow B e size v n xs) (ht : Turns w w' T) (hT : Lone w T) : w'.ownsRow B e size v n xs :=
  ht.own h fun g hg => by
    rcases h.2 with ⟨e1, _⟩ | ⟨g', cap, cur, e1, _, h1, _⟩
    · rw [e1] at hg; cases hg
    · rw [e1] at hg
      obtain rfl : g' = g := by simpa [Value.ownBlock] using hg
      exact hT g' e cur h1 he
theorem DatIs.lone {v : Value} {l : List Nat} (h : DatIs w B v l) (ht : Turns w w' T) (hT : Lone w T) : DatIs w' B v l := ⟨h.small, h.short, own_lone (by decide) h.own ht hT⟩
theorem WrsIs.lone {v : Value} {l : List Wr} (h : WrsIs w B v l) (ht : Turns w w' T) (hT : Lone w T) : WrsIs w' B v l := by
  obtain ⟨its, h1, h2, h3⟩ := h
  exact ⟨its, h1, own_lone (by decide) h2 ht hT, fun x hx => ⟨(h3 x hx).1, (h3 x hx).2.1, (h3 x hx).2.2.lone ht hT⟩⟩
theorem GrsIs.lone {v : Value} {l : List (List Wr)} (h : GrsIs w B v l) (ht : Turns w w' T) (hT : Lone w T) : GrsIs w' B v l := by
  obtain ⟨vs, h1, h2⟩ := h
  exact ⟨vs, own_lone (by decide) h1 ht hT, fun i g hg => by obtain ⟨u, h3, h4⟩ := h2 i g hg; exact ⟨u, h3, h4.lone ht hT⟩⟩
theorem lone_nil (w : World) : Lone w [] := fun _ _ _ _ _ h => by cases h
theorem WrsIs.mono {B' : Nat} {v : Value} {l : List Wr} (h : WrsIs w B v l) (hb : B' ≤ B) : WrsIs w B' v l := by
  obtain ⟨its, h1, h2, h3⟩ := h
  exact ⟨its, h1, own_mono h2 hb, fun x hx => ⟨(h3 x hx).1, (h3 x hx).2.1, (h3 x hx).2.2.small, (h3 x hx).2.2.short, own_mono (h3 x hx).2.2.own hb⟩⟩
theorem GrsIs.mono {B' : Nat} {v : Value} {l : List (List Wr)} (h : GrsIs w B v l) (hb : B' ≤ B) : GrsIs w B' v l := by
  obtain ⟨vs, h1, h2⟩ := h
  exact ⟨vs, own_mono h1 hb, fun i g hg => by obtain ⟨u, h3, h4⟩ := h2 i g hg; exact ⟨u, h3, h4.mono hb⟩⟩
theorem WrsIs.nil (w : World) (B : Nat) : WrsIs w B (.slice none 0 0) [] := ⟨[], rfl, World.ownsRow_nil _ _ _ _, by simp⟩
theorem GrsIs.nil (w : World) (B : Nat) : GrsIs w B (.slice none 0 0) [] := ⟨[], World.ownsRow_nil _ _ _ _, by simp⟩
end
/-- What lasts, as a map. -/
def HasIs (w : World) (H n sz : Nat) (has : Nat → Option (List Nat)) : Prop :=
  (∃ m f, MapIs Try.prog 77 w H m f ∧ ∀ key v, f key = some v ↔ ∃ (p : Nat) (d : List Nat), has p = some d ∧ key = pv p ∧ v = .string (textOf d)) ∧ ∀ p d, has p = some d → p < n ∧ d.length = sz ∧ ∀ u ∈ d, u < 256
/-- What is loose, as a map. -/
def LooseIs (w : World) (L n : Nat) (loose : Nat → Bool) : Prop :=
  (∃ m f, MapIs Try.prog 77 w L m f ∧ ∀ key v, f key = some v ↔ ∃ p : Nat, loose p = true ∧ key = pv p ∧ v = .bool true) ∧ ∀ p, loose p = true → p < n
def OkL (n sz : Nat) (l : List Wr) : Prop := ∀ x ∈ l, x.1 < n ∧ x.2.length = sz ∧ ∀ u ∈ x.2, u < 256
/-- A state in memory. -/
structure CrIs (w : World) (B C H L : Nat) (v4 v5 : Value) (S : Cr) : Prop where
  row : Row w C 67 #[.int .i64 S.n, .int .i64 S.sz, .map (some H), .map (some L), v4, v5]
  has : HasIs w H S.n S.sz S.has
  loose : LooseIs w L S.n S.loose
  grs : GrsIs w B v4 S.groups
  fly : WrsIs w B v5 S.fly
  low : B ≤ C ∧ B ≤ H ∧ B ≤ L
  ne : H ≠ L
  n : 1 ≤ S.n ∧ S.n < 4294967296
  sz : 1 ≤ S.sz ∧ S.sz ≤ 65536
  okG : ∀ g ∈ S.groups, OkL S.n S.sz g
  okF : OkL S.n S.sz S.fly
  few : S.groups.length ≤ 1048576 ∧ (∀ g ∈ S.groups, g.length ≤ 3518437208883) ∧ S.fly.length ≤ 3518437208883
section
variable {w w' : World} {B C H L : Nat} {v4 v5 : Value} {S : Cr} {T : List Nat}
theorem HasIs.lt {n sz : Nat} {has : Nat → Option (List Nat)} (h : HasIs w H n sz has) : H < w.heap.size := by obtain ⟨⟨m, f, h, _⟩, _⟩ := h; exact h.lt
theorem LooseIs.lt {n : Nat} {loose : Nat → Bool} (h : LooseIs w L n loose) : L < w.heap.size := by obtain ⟨⟨m, f, h, _⟩, _⟩ := h; exact h.lt
theorem HasIs.not_row {n sz : Nat} {has : Nat → Option (List Nat)} (h : HasIs w H n sz has) (ty : TypeId) (cs : Array Value) : ¬ Row w H ty cs := fun hr => by
  obtain ⟨⟨m, f, ⟨es, clock, hb, _⟩, _⟩, _⟩ := h
  unfold Row at hr
  rw [hb] at hr
  cases hr
theorem LooseIs.not_row {n : Nat} {loose : Nat → Bool} (h : LooseIs w L n loose) (ty : TypeId) (cs : Array Value) : ¬ Row w L ty cs := fun hr => by
  obtain ⟨⟨m, f, ⟨es, clock, hb, _⟩, _⟩, _⟩ := h
  unfold Row at hr
  rw [hb] at hr
  cases hr
theorem HasIs.turns {n sz : Nat} {has : Nat → Option (List Nat)} (h : HasIs w H n sz has) (ht : Turns w w' T) (hn : H ∉ T) : HasIs w' H n sz has := by
  obtain ⟨⟨m, f, h1, h2⟩, h3⟩ := h
  exact ⟨⟨m, f, h1.turns ht hn, h2⟩, h3⟩
theorem LooseIs.turns {n : Nat} {loose : Nat → Bool} (h : LooseIs w L n loose) (ht : Turns w w' T) (hn : L ∉ T) : LooseIs w' L n loose := by
  obtain ⟨⟨m, f, h1, h2⟩, h3⟩ := h
  exact ⟨⟨m, f, h1.turns ht hn, h2⟩, h3⟩
theorem CrIs.lone (h : CrIs w B C H L v4 v5 S) : Lone w [C, H, L] := fun g ty cs hr hne hm => by
  rcases List.mem_cons.1 hm with rfl | hm
  · exact Row.ne_type hr h.row hne rfl
  rcases List.mem_cons.1 hm with rfl | hm
  · exact h.has.not_row _ _ hr
  · exact h.loose.not_row ty cs (List.mem_singleton.1 hm ▸ hr)
/-- What is no state's block has turned. -/
theorem CrIs.keep (h : CrIs w B C H L v4 v5 S) (ht : Turns w w' []) : CrIs w' B C H L v4 v5 S :=
  ⟨ht.row h.row (by simp), h.has.turns ht (by simp), h.loose.turns ht (by simp), h.grs.lone ht (lone_nil w), h.fly.lone ht (lone_nil w), h.low, h.ne, h.n, h.sz, h.okG, h.okF, h.few⟩
theorem CrIs.below (h : CrIs w B C H L v4 v5 S) (hb : Below w.heap.size w w') : CrIs w' B C H L v4 v5 S := h.keep (Turns.of_below hb [])
theorem CrIs.drewN (h : CrIs w B C H L v4 v5 S) (k : Nat) : CrIs (w.drewN k) B C H L v4 v5 S := h.keep ((Turns.refl w []).drewN k)
theorem CrIs.cells (h : CrIs w B C H L v4 v5 S) : w.cell? ⟨C, 0, none⟩ = some (.int .i64 S.n) ∧ w.cell? ⟨C, 1, none⟩ = some (.int .i64 S.sz) ∧ w.cell? ⟨C, 2, none⟩ = some (.map (some H)) ∧ w.cell? ⟨C, 3, none⟩ = some (.map (some L)) ∧ w.cell? ⟨C, 4, none⟩ = some v4 ∧ w.cell? ⟨C, 5, none⟩ = some v5 :=
  ⟨h.row.cell 0, h.row.cell 1, h.row.cell 2, h.row.cell 3, h.row.cell 4, h.row.cell 5⟩
end
/-- Those that may be. -/
def rightL (n sz : Nat) (its : List Ws) : List Wr := (its.filter fun x => decide (0 ≤ x.s ∧ x.s < (n : Int) ∧ x.l.length = sz)).map Ws.key
theorem Wide_any (n sz : Nat) (hn : 1 ≤ n ∧ n < 4294967296) (hs : 1 ≤ sz ∧ sz ≤ 65536) (w : World) :
    Calls Try.prog 33 #[.int .i64 n, .int .i64 sz] w fun e w' => ∃ C H L, e = .returned (.pointer (some ⟨C, 0, none⟩)) ∧ CrIs w' w.heap.size C H L (.slice none 0 0) (.slice none 0 0) (cr0 n sz) ∧ Below w.heap.size w w' := by
  have hmm := @run_makeMap Try.prog
  go_enter Try.func33, Try.ntmps33
  go_wp2
  clear hmm
  go_ret
  refine ⟨_, w.heap.size, w.heap.size + 1, rfl, ⟨?_, ⟨⟨0, fun _ => none, ?_, by simp [cr0]⟩, by simp [cr0]⟩, ⟨⟨0, fun _ => none, ?_, by simp [cr0]⟩, by simp [cr0]⟩, GrsIs.nil _ _, WrsIs.nil _ _, by simp; omega, by simp, hn, hs, by simp [cr0], by simp [cr0, OkL], by simp [cr0]⟩, by (repeat (first | (with_reducible refine Below.drew ?_) | (with_reducible refine below_drewN0 ?_ _) | ((with_reducible refine Below.setCell ?_ ?_ _); rotate_left; focus (first | omega | (simp; done) | (simp; omega) | (simp at *; omega))) | ((with_reducible refine Below.alloc ?_ ?_ _); rotate_left; focus (first | omega | (simp; done) | (simp; omega) | (simp at *; omega))) | (with_reducible exact Below.refl _ _)))⟩
  · have h1 := Row.fresh ((w.alloc (.map #[] 0)).alloc (.map #[] 0)) 67 #[.int .i64 n, .int .i64 sz, .map (some w.heap.size), .map (some (w.heap.size + 1)), .slice none 0 0, .slice none 0 0]
    rw [World.size_alloc, World.size_alloc] at h1
    exact h1
  · have h1 := MapIs.fresh Try.prog 77 w
    have h2 := h1.turns (((Turns.refl _ []).alloc (.map #[] 0))) (by simp)
    exact h2.turns ((Turns.refl _ []).alloc _) (by simp)
  · have h1 := MapIs.fresh Try.prog 77 (w.alloc (.map #[] 0))
    rw [World.size_alloc] at h1
    exact h1.turns ((Turns.refl _ []).alloc _) (by simp)
theorem New_yes (n sz : Nat) (hn : 1 ≤ n ∧ n ≤ 16384) (hs : 1 ≤ sz ∧ sz ≤ 512) (w : World) :
    Calls Try.prog 9 #[.int .i64 n, .int .i64 sz] w fun e w' => ∃ C H L, e = .returned (.tuple #[.pointer (some ⟨C, 0, none⟩), .int .i64 0]) ∧ CrIs w' w.heap.size C H L (.slice none 0 0) (.slice none 0 0) (cr0 n sz) ∧ Below w.heap.size w w' := by
  have HW := Lib.hid (Wide_any n sz ⟨hn.1, by omega⟩ ⟨hs.1, by omega⟩ w)
  have h1 : ¬ (n : Int) < 1 := by omega
  have h2 : ¬ (n : Int) > 16384 := by omega
  have h3 : ¬ (sz : Int) < 1 := by omega
  have h4 : ¬ (sz : Int) > 512 := by omega
  clear hn hs
  go_enter Try.func9, Try.ntmps9
  go_wp2_with fail
  refine HW.out.mono ?_
  rintro e w1 ⟨C, H, L, rfl, hc, hb⟩
  have HC := Lib.hid hc
  have HB := Lib.hid hb
  clear HW hc hb
  go_wp2
  go_ret2
  exact ⟨C, H, L, rfl, HC.out, HB.out⟩
theorem there_any (C n : Nat) (p : Int) (w : World) (hc : w.cell? ⟨C, 0, none⟩ = some (.int .i64 n)) : Calls Try.prog 41 #[.pointer (some ⟨C, 0, none⟩), .int .i64 p] w fun e w' => e = .returned (.bool (decide (0 ≤ p ∧ p < n))) ∧ w = w' := by
  have e1 : ¬ 0 ≤ p → decide (0 ≤ p ∧ p < (n : Int)) = false := fun h => decide_eq_false (by omega)
  have e2 : 0 ≤ p → p < n → decide (0 ≤ p ∧ p < (n : Int)) = true := fun h h' => decide_eq_true ⟨h, h'⟩
  have e3 : ¬ p < n → decide (0 ≤ p ∧ p < (n : Int)) = false := fun h => decide_eq_false (by omega)
  by_cases h0 : p ≥ 0
  · by_cases h1 : p < n
    · rw [e2 h0 h1]
      clear e1 e2 e3
      go_enter Try.func41, Try.ntmps41
      go_wp2
      go_ret
      exact ⟨by simp, rfl⟩
    · rw [e3 h1]
      clear e1 e2 e3
      go_enter Try.func41, Try.ntmps41
      go_wp2
      go_ret
      exact ⟨by simp, rfl⟩
  · rw [e1 (by omega)]
    clear e1 e2 e3
    go_enter Try.func41, Try.ntmps41
    go_wp2
    go_ret
    exact ⟨rfl, rfl⟩
end Go.Proofs.Ytomigaldomiefaa

namespace Go.Proofs.Ytomigaldomiefaa
open Go.RowKit Go.MapKept Go.ChangeMaps
set_option linter.unusedVariables false
set_option linter.unusedSimpArgs false

abbrev blkV (v : Value) : List Nat := v.ownBlock.toList
theorem turns_own {w w' : World} {v : Value} (h : w.grownBy w' v.ownBlock) : Turns w w' (blkV v) :=
  ⟨h.os, h.tape, h.output, h.size, fun k hk hn => h.block k hk (fun e => hn (by unfold blkV; rw [← e]; simp))⟩
theorem src_new {w : World} {t : TypeId} {cs : List Value} {sz : Nat} (h : cs.length = 1 * sz) : Src (w.alloc (.cells cs.toArray t)) sz (some ⟨w.heap.size, 0, none⟩) 1 cs :=
  Src.of_at h (fun j u hu => by
    rw [addr_add, Nat.zero_add, (Row.fresh w t cs.toArray).cell]
    simpa using hu)
theorem own_blk {w : World} {B : Nat} {e : TypeId} {sz n : Nat} {v : Value} {xs : List Value} (h : w.ownsRow B e sz v n xs) {k : Nat} (hk : k ∈ blkV v) : B ≤ k ∧ k < w.heap.size ∧ ∃ cs, Row w k e cs := by
  rcases h.2 with ⟨e1, _⟩ | ⟨g', cap, cur, e1, hb, h1, _⟩
  · rw [e1] at hk; cases hk
  · rw [e1] at hk
    obtain rfl : k = g' := by simpa [blkV, Value.ownBlock] using hk
    exact ⟨hb, Row.lt h1, cur, h1⟩
theorem DatIs.aside {w w' : World} {B : Nat} {v : Value} {l : List Nat} {T : List Nat} (h : DatIs w B v l) (ht : Turns w w' T) (hT : ∀ g ∈ T, ∃ ty cs, Row w g ty cs ∧ ty ≠ 5) : DatIs w' B v l :=
  ⟨h.small, h.short, ht.own h.own fun g hg hm => by
    obtain ⟨ty, cs, hr, hne⟩ := hT g hm
    obtain ⟨_, _, cs', hr'⟩ := own_blk h.own (k := g) (by unfold blkV; rw [hg]; simp)
    exact Row.ne_type hr hr' hne rfl⟩
theorem rightL_take (n sz : Nat) (its : List Ws) (k : Nat) (x : Ws) (hx : its[k]? = some x) : rightL n sz (its.take (k + 1)) = rightL n sz (its.take k) ++ (if 0 ≤ x.s ∧ x.s < (n : Int) ∧ x.l.length = sz then [x.key] else []) := by
  have e : its.take (k + 1) = its.take k ++ [x] := by rw [List.take_add_one, hx]; rfl
  unfold rightL
  rw [e, List.filter_append, List.map_append]
  congr 1
  by_cases h : 0 ≤ x.s ∧ x.s < (n : Int) ∧ x.l.length = sz <;> simp [h]
/-- Amid right. -/
structure Rt (w wr : World) (out : Value) (l : List Wr) (js : List Ws) (k : Nat) : Prop where
  eq : js.map Ws.key = l
  le : js.length ≤ k
  own : wr.ownsRow w.heap.size 30 3 out js.length (wrsV js)
  dat : ∀ x ∈ js, x.a = 0 ∧ 0 ≤ x.s ∧ DatIs wr w.heap.size (.slice x.A x.l.length x.c) x.l
  bel : Below w.heap.size w wr
section
variable {w wr wr' : World} {out : Value} {l : List Wr} {js : List Ws} {k : Nat}
theorem Rt.below (h : Rt w wr out l js k) (hb : Below wr.heap.size wr wr') : Rt w wr' out l js k :=
  ⟨h.eq, h.le, own_below h.own hb, fun x hx => ⟨(h.dat x hx).1, (h.dat x hx).2.1, (h.dat x hx).2.2.small, (h.dat x hx).2.2.short, own_below (h.dat x hx).2.2.own hb⟩, h.bel.trans (hb.mono h.bel.size)⟩
theorem Rt.skip (h : Rt w wr out l js k) : Rt w wr out l js (k + 1) := ⟨h.eq, by have := h.le; omega, h.own, h.dat, h.bel⟩
theorem Rt.done (h : Rt w wr out l js k) : WrsIs wr w.heap.size out l := ⟨js, h.eq.symm, h.own, h.dat⟩
end
set_option maxRecDepth 100000 in
set_option maxHeartbeats 4000000 in
theorem right_any (C n sz : Nat) (A : Option Addr) (c : Nat) (its : List Ws) (hlen : its.length ≤ 3518437208883) (hsz : sz ≤ 65536) (w : World) (hW : Writes w A its) (c0 : w.cell? ⟨C, 0, none⟩ = some (.int .i64 n)) (c1 : w.cell? ⟨C, 1, none⟩ = some (.int .i64 sz)) :
    Calls Try.prog 34 #[.pointer (some ⟨C, 0, none⟩), .slice A its.length c] w fun e w' => ∃ v, e = .returned v ∧ WrsIs w' w.heap.size v (rightL n sz its) ∧ Below w.heap.size w w' := by
  obtain ⟨i0, hi, hz0, hz1, hz2⟩ := info_parts write_info
  have HTh : Hid (∀ wr s, Below w.heap.size w wr → Calls Try.prog 41 #[.pointer (some ⟨C, 0, none⟩), .int .i64 s] wr fun e w' => e = .returned (.bool (decide (0 ≤ s ∧ s < (n : Int)))) ∧ wr = w') := fun wr s hb => there_any C n s wr (keep_below hb _ _ c0)
  have HC1 : Hid (∀ wr, Below w.heap.size w wr → wr.cell? ⟨C, 1, none⟩ = some (.int .i64 sz)) := fun wr hb => keep_below hb _ _ c1
  have HW := Lib.hid hW
  obtain ⟨ln, hln⟩ : ∃ ln, ln = its.length := ⟨_, rfl⟩
  have HLn := Lib.hid hln
  rw [← hln] at hlen ⊢
  clear hW hln c0 c1
  go_enter Try.func34, Try.ntmps34
  go_wp2
  go_loopw [5, 7, 10] (fun out zp i wr => ∃ (k : Nat) (js : List Ws), k ≤ ln ∧ i = .int .i64 k ∧ Rt w wr out (rightL n sz (its.take k)) js k) (fun _ _ i _ => ln - (intOf i).toNat)
  case atStart => exact ⟨0, [], by omega, rfl, rfl, Nat.le_refl _, World.ownsRow_nil _ _ _ _, by simp, Below.refl _ _⟩
  case round =>
    obtain ⟨k, js, hk, rfl, hrt⟩ := hrel
    by_cases hkn : k < ln
    · obtain ⟨x, hx⟩ : ∃ x, its[k]? = some x := ⟨_, List.getElem?_eq_getElem (by rw [← HLn.out]; exact hkn)⟩
      obtain ⟨⟨b, off, e1, hc⟩, hax⟩ := HW.out.at0 k x hx
      subst e1
      have HSt := Lib.hid (rightL_take n sz its k x hx)
      have hbel := hrt.bel
      have q0 : wr.cell? ⟨b, off + k * 3, none⟩ = some (.int .i64 x.a) := keep_below hbel _ _ (hc 0 _ rfl)
      have q1 : wr.cell? ⟨b, off + k * 3 + 1, none⟩ = some (.int .i64 x.s) := by rw [Nat.add_assoc]; exact keep_below hbel _ _ (hc 1 _ rfl)
      have q2 : wr.cell? ⟨b, off + k * 3 + 2, none⟩ = some (.slice x.A x.l.length x.c) := by rw [Nat.add_assoc]; exact keep_below hbel _ _ (hc 2 _ rfl)
      obtain ⟨wz, hwz⟩ : ∃ wz, wz = wr.alloc (.cells #[.int .i64 x.a, .int .i64 x.s, .slice x.A x.l.length x.c] 30) := ⟨_, rfl⟩
      have HBz : Hid (Below wr.heap.size wr wz) := by unfold Hid; rw [hwz]; (repeat (first | (with_reducible refine Below.drew ?_) | (with_reducible refine below_drewN0 ?_ _) | ((with_reducible refine Below.setCell ?_ ?_ _); rotate_left; focus (first | omega | (simp; done) | (simp; omega) | (simp at *; omega))) | ((with_reducible refine Below.alloc ?_ ?_ _); rotate_left; focus (first | omega | (simp; done) | (simp; omega) | (simp at *; omega))) | (with_reducible exact Below.refl _ _)))
      have HRz : Hid (Row wz wr.heap.size 30 #[.int .i64 x.a, .int .i64 x.s, .slice x.A x.l.length x.c]) := by unfold Hid; rw [hwz]; exact Row.fresh _ _ _
      have HRt := Lib.hid (hrt.below HBz.out)
      have HZo : Hid (∀ g, g ∈ blkV u5 → g ≠ wr.heap.size) := fun g hg => by have := (own_blk hrt.own hg).2.1; omega
      have HAx : Hid (∀ wr, Below w.heap.size w wr → ArgW wr x) := fun wr hb => hax.keep (keep_below hb)
      have HTx := Lib.hid (fun m => HTh.out (wz.drewN m) x.s (below_drewN0 HRt.out.bel m))
      have HCx := Lib.hid (HC1.out wz HRt.out.bel)
      clear hrt hc hax hx hbel
      obtain ⟨xa, xs, xA, xc, xl⟩ := x
      simp only [Ws.key] at HSt HBz HRz HAx HTx q0 q1 q2 hwz ⊢
      obtain ⟨m, hm⟩ : ∃ m, m = xl.length := ⟨_, rfl⟩
      have HM := Lib.hid hm
      rw [← hm] at HSt HRz q2 hwz
      by_cases hin : 0 ≤ xs ∧ xs < (n : Int)
      · rw [decide_eq_true hin] at HTx
        by_cases hms : m = sz
        · have HSt2 : Hid (rightL n sz (its.take (k + 1)) = rightL n sz (its.take k) ++ [(xs.toNat, xl)]) := by unfold Hid; rw [HSt.out, if_pos ⟨hin.1, hin.2, hms⟩]
          have HX0 : Hid (0 ≤ xs) := hin.1
          have HSm : Hid (∀ u ∈ xl, u < 256) := (HAx.out w (Below.refl _ _)).small
          have HSr : Hid (∀ wr, Below w.heap.size w wr → Src wr 1 xA m (intsV .u8 xl)) := fun wr hb => by rw [hm]; exact (HAx.out wr hb).src
          have hm1 : m ≤ 65536 := by omega
          have hjs := HRt.out.le
          subst hms
          clear hm HAx HSt hin
          go_wp2
          rw [← hwz]
          have z1 := HRz.out.cell 1
          have z2 := HRz.out.cell 2
          have c1 := HCx.out
          simp only [List.getElem?_toArray, List.getElem?_cons_zero, List.getElem?_cons_succ] at z1 z2
          clear hwz q0 q1 q2
          generalize wr.heap.size = Z at *
          go_quiet ((go_at_call 41; refine Calls.quiet_of_same ((HTx.out _).mono fun e w' h => ⟨h.1, h.2.symm⟩)))
          have HRq := Lib.hid (HRt.out.below (below_drewN0 (Below.refl _ _) nq))
          have HRzq : Hid (Row (wz.drewN nq) Z 30 #[.int .i64 xa, .int .i64 xs, .slice xA m xc]) := HRz.out
          clear HRt HTx z1 z2 c1 HRz HBz HCx
          generalize wz.drewN nq = wq at *
          have hZn : Z ∉ blkV u5 := fun hm => HZo.out Z hm rfl
          have k1 : ∀ t : Kept wq (blkV u5), t.u.cell? ⟨Z, 1, none⟩ = some (.int .i64 xs) := fun t => (t.h.row HRzq.out hZn).cell 1
          have k2 : ∀ t : Kept wq (blkV u5), t.u.cell? ⟨Z, 2, none⟩ = some (.slice xA m xc) := fun t => (t.h.row HRzq.out hZn).cell 2
          have HCl := Lib.hid (CloneB_any xA m xc (intsV .u8 xl) (by unfold reachBytes; omega) wq.drew (HSr.out _ HRq.out.bel.drew) (intsV_one .u8 xl))
          clear hZn HZo
          go_wp2
          (refine region_kept (blkV u5) [0, 1, 2, 3, 4] [5, 6, 7, 8, 9] (by kernel_rfl) (by kernel_rfl) (fun _ _ _ _ _ h => h) ?_; simp only [List.filterMap_cons, List.getElem?_cons_zero, List.getElem?_cons_succ, List.filterMap_nil]; (repeat ((show wpQuiet _ _ _ _ (_ :: _) _); go_big_quiet_step (fail))); refine wpQuiet_nil ?_)
          clear k1 k2
          refine wpSeqS_step ?_
          go_wp2_with fail
          refine HCl.out.mono ?_
          rintro e w4 ⟨A4, c4, rfl, ho4, hb4⟩
          have HB4 : Hid (Below wq.heap.size wq w4) := (Below.refl _ _).drew.trans hb4
          have HD4 : Hid (DatIs w4 w.heap.size (.slice A4 m c4) xl) := ⟨HSm.out, by rw [← HM.out]; unfold reachBytes; omega, by rw [← HM.out]; exact own_mono ho4 HRq.out.bel.size⟩
          clear HCl ho4 hb4
          go_wp2_with fail
          refine outQ_normal (Turns.of_below HB4.out _) ?_
          refine wpSeqS_step ?_
          go_wp2_with fail
          refine outQ_normal (Turns.of_below HB4.out _) ?_
          refine wpSeqS_step ?_
          go_wp2_with fail
          refine outQ_normal ((Turns.of_below HB4.out _).alloc _) ?_
          have HR5 := Lib.hid (HRq.out.below (HB4.out.alloc HB4.out.size (.cells #[.int .i64 0, .int .i64 xs, .slice A4 m c4] 30)))
          have HS5 := Lib.hid (src_new (w := w4) (t := 30) (cs := [.int .i64 0, .int .i64 xs, .slice A4 m c4]) (sz := 3) rfl)
          refine wpSeqS_step (wpList_append_src _ rfl (.tmp 28) (.tmp 35) 23 rfl w.heap.size 30 i0 _ 3 40 Try.underlying23 hi hz0 hz1 hz2 rfl (by decide) _ js.length (wrsV js) rfl HR5.out.own (some ⟨w4.heap.size, 0, none⟩) 1 1 _ rfl HS5.out (by have := wrsV_one [⟨0, xs, A4, c4, xl⟩]; simpa [wrsV, Ws.wr, ← HM.out] using this) (by unfold maxLen; omega) (by omega) (by have := HR5.out.bel.size; exact this) ?_)
          intro v6 w6 hown hgrow hat
          have HT5 : Hid (Turns (w4.alloc (.cells #[.int .i64 0, .int .i64 xs, .slice A4 m c4] 30)) w6 (blkV u5)) := turns_own hgrow
          have HT6 : Hid (Turns wq w6 (blkV u5)) := ((Turns.of_below HB4.out _).alloc _).trans HT5.out (fun k hk => .inl hk)
          refine wpList_nil (outQ_normal HT6.out ?_)
          have HRt6 : Hid (Rt w w6 v6 (rightL n m (its.take (k + 1))) (js ++ [⟨0, xs, A4, c4, xl⟩]) (k + 1)) := by
            have hT : ∀ g ∈ blkV u5, ∃ ty cs, Row (w4.alloc (.cells #[.int .i64 0, .int .i64 xs, .slice A4 m c4] 30)) g ty cs ∧ ty ≠ 5 := fun g hg => by
              obtain ⟨_, _, cs, hr⟩ := own_blk HR5.out.own hg
              exact ⟨_, cs, hr, by decide⟩
            refine ⟨by rw [List.map_append, HR5.out.eq, HSt2.out]; rfl, by simp; exact hjs, ?_, fun y hy => ?_, HT6.out.below HRq.out.bel HRq.out.bel.size (fun g hg => (own_blk HRq.out.own hg).1)⟩
            · have e : wrsV (js ++ [⟨0, xs, A4, c4, xl⟩]) = wrsV js ++ [.int .i64 0, .int .i64 xs, .slice A4 m c4] := by rw [HM.out]; simp [wrsV, Ws.wr]
              rw [e, List.length_append]; exact hown
            · rcases List.mem_append.1 hy with hy | hy
              · exact ⟨(HR5.out.dat y hy).1, (HR5.out.dat y hy).2.1, (HR5.out.dat y hy).2.2.aside HT5.out hT⟩
              · rw [List.mem_singleton.1 hy]
                refine ⟨rfl, HX0.out, ?_⟩
                have h4 : DatIs (w4.alloc (.cells #[.int .i64 0, .int .i64 xs, .slice A4 m c4] 30)) w.heap.size (.slice A4 m c4) xl := ⟨HD4.out.small, HD4.out.short, own_below HD4.out.own ((Below.refl _ _).alloc (Nat.le_refl _) _)⟩
                have := h4.aside HT5.out hT
                rw [HM.out] at this; exact this
          clear hown hgrow hat HS5 HR5 HT5 HD4 HRq HRzq
          refine wpSeqS_last ?_
          go_wp2
          go_roundw
          case rel => exact ⟨k + 1, _, by omega, by go_num, HRt6.out⟩
          case measure => simp [intOf]; omega
        · have HSt2 : Hid (rightL n sz (its.take (k + 1)) = rightL n sz (its.take k)) := by unfold Hid; rw [HSt.out, if_neg (fun h => hms h.2.2), List.append_nil]
          have hmi : ¬ (m : Int) = sz := by omega
          clear hm HAx HSt hin hms
          go_wp2
          rw [← hwz]
          have z1 := HRz.out.cell 1
          have z2 := HRz.out.cell 2
          have c1 := HCx.out
          simp only [List.getElem?_toArray, List.getElem?_cons_zero, List.getElem?_cons_succ] at z1 z2
          clear hwz q0 q1 q2
          generalize wr.heap.size = Z at *
          go_quiet ((go_at_call 41; refine Calls.quiet_of_same ((HTx.out _).mono fun e w' h => ⟨h.1, h.2.symm⟩)))
          have HRt2 := Lib.hid (HRt.out.below (below_drewN0 (Below.refl _ _) nq)).skip
          clear HRt HTx z1 z2 c1 HRz HBz HZo HCx
          go_wp2
          go_roundw
          case rel => exact ⟨k + 1, js, by omega, by go_num, by rw [HSt2.out]; exact HRt2.out⟩
          case measure => simp [intOf]; omega
      · rw [decide_eq_false hin] at HTx
        have HSt2 : Hid (rightL n sz (its.take (k + 1)) = rightL n sz (its.take k)) := by unfold Hid; rw [HSt.out, if_neg (fun h => hin ⟨h.1, h.2.1⟩), List.append_nil]
        clear hm HAx HSt HCx hin
        go_wp2
        rw [← hwz]
        have z1 := HRz.out.cell 1
        simp only [List.getElem?_toArray, List.getElem?_cons_zero, List.getElem?_cons_succ] at z1
        clear hwz q0 q1 q2
        generalize wr.heap.size = Z at *
        go_quiet ((go_at_call 41; refine Calls.quiet_of_same ((HTx.out _).mono fun e w' h => ⟨h.1, h.2.symm⟩)))
        have HRt2 := Lib.hid (HRt.out.below (below_drewN0 (Below.refl _ _) nq)).skip
        clear HRt HTx z1 HRz HBz HZo
        go_wp2
        go_roundw
        case rel => exact ⟨k + 1, js, by omega, by go_num, by rw [HSt2.out]; exact HRt2.out⟩
        case measure => simp [intOf]; omega
    · obtain rfl : k = ln := by omega
      have hall : its.take k = its := by rw [HLn.out]; exact List.take_length
      rw [hall] at hrt
      have HD := Lib.hid hrt.done
      have HB := Lib.hid hrt.bel
      clear hrt hall
      go_wp2
      go_ret
      exact ⟨_, rfl, HD.out, HB.out⟩
end Go.Proofs.Ytomigaldomiefaa
