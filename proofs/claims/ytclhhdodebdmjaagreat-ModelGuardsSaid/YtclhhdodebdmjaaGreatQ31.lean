/- What follows is laid together from several texts of mine, in their order. -/
import Derived.Test.YtclhhdodebdmjaaGreatQ2
import Derived.ProofKit
import Derived.OpenShut
import Derived.ShutString
import Derived.ChangeOld
import Derived.Lib.SmallJoins
import Derived.Test.YtclhhdodebdmjaaGreatQ30

namespace Go.Proofs.YtclhhdodebdmjaaGreat
open Go.ChangeShapes Go.WideShapes Go.ChangeAt Go.RowKit Go.Joins
set_option linter.unusedVariables false
set_option linter.unusedSimpArgs false

end Go.Proofs.YtclhhdodebdmjaaGreat

namespace Go.Proofs.YtclhhdodebdmjaaGreat
open Go.ChangeShapes Go.WideShapes Go.ChangeAt Go.RowKit Go.Joins Go.Deep
set_option linter.unusedVariables false
set_option linter.unusedSimpArgs false

/-- A slice of structs of m ints each: what its cells hold. -/
structure Acts (w : World) (a : Option Addr) (n m : Nat) (f : Nat → Nat → Int) : Prop where
  at0 : ∀ i, i < n → ∃ b off, a = some ⟨b, off, none⟩ ∧ ∀ j, j < m → w.cell? ⟨b, off + (i * m + j), none⟩ = some (.int .i64 (f i j))
  wf : ∀ i j, -9223372036854775808 ≤ f i j ∧ f i j ≤ 9223372036854775807
end Go.Proofs.YtclhhdodebdmjaaGreat

namespace Go.Proofs.YtclhhdodebdmjaaGreat
open Go.RowKit Go.MapKept Go.ChangeMaps
set_option linter.unusedVariables false
set_option linter.unusedSimpArgs false
set_option maxRecDepth 100000

/-- A row of a law's own. -/
structure Rw where
  g : Nat
  t : TypeId
  cs : Array Value
def Ls (w0 w : World) (b0 : Bn) (c : Cf) (S : Ab) (R : List Rw) : Prop := ∃ b T F, Solo w0 w b T F c S ∧ b.E = b0.E ∧ b.n = b0.n ∧ (∀ x ∈ R, Row w x.g x.t x.cs ∧ x.g ∉ T ∧ w0.heap.size ≤ x.g ∧ x.g ∉ F)
section
variable {w0 w w' : World} {b0 : Bn} {c : Cf} {S S' : Ab} {R : List Rw} {an : An} {g : Nat} {t : TypeId} {cs : Array Value}
theorem Ls.row (h : Ls w0 w b0 c S R) (x : Rw) (hx : x ∈ R) : Row w x.g x.t x.cs := by obtain ⟨b, T, F, h1, h2, h3, h4⟩ := h; exact (h4 x hx).1
theorem Ls.bel (h : Ls w0 w b0 c S R) : Below w0.heap.size w0 w := by obtain ⟨b, T, F, h1, h2, h3, h4⟩ := h; exact h1.bel
theorem Ls.E0 (h : Ls w0 w b0 c S R) : w.cell? ⟨b0.n.M, 0, none⟩ = some (.pointer (some ⟨b0.E, 0, none⟩)) := by obtain ⟨b, T, F, h1, h2, h3, h4⟩ := h; have := h1.E0; rw [h2, h3] at this; exact this
theorem Ls.alloc (h : Ls w0 w b0 c S R) (t : TypeId) (cs : Array Value) : Ls w0 (w.alloc (.cells cs t)) b0 c S (⟨w.heap.size, t, cs⟩ :: R) := by
  obtain ⟨b, T, F, h1, h2, h3, h4⟩ := h
  have hb : Below w.heap.size w (w.alloc (.cells cs t)) := (Below.refl _ _).alloc (Nat.le_refl _) _
  refine ⟨b, T, F, h1.below hb, h2, h3, fun x hx => ?_⟩
  rcases List.mem_cons.1 hx with rfl | hx
  · exact ⟨Row.fresh _ _ _, fun hm => by have := h1.m.Tlt _ hm; simp at this, h1.bel.size, fun hm => by have := h1.m.Flt _ hm; simp at this⟩
  · exact ⟨(h4 x hx).1.below hb (h4 x hx).1.lt, (h4 x hx).2⟩
/-- Some rows are forgotten. -/
theorem Ls.drop (h : Ls w0 w b0 c S R) {R' : List Rw} (hR : ∀ x ∈ R', x ∈ R) : Ls w0 w b0 c S R' := by
  obtain ⟨b, T, F, h1, h2, h3, h4⟩ := h
  exact ⟨b, T, F, h1, h2, h3, fun x hx => h4 x (hR x hx)⟩
/-- A cell of a row of its own is written. -/
theorem Ls.put (h : Ls w0 w b0 c S (⟨g, t, cs⟩ :: R)) (i : Nat) (v : Value) (hne : ∀ x ∈ R, x.g ≠ g) : Ls w0 (w.setCell ⟨g, i, none⟩ v) b0 c S (⟨g, t, cs.setIfInBounds i v⟩ :: R) := by
  obtain ⟨b, T, F, h1, h2, h3, h4⟩ := h
  have ht : Turns w (w.setCell ⟨g, i, none⟩ v) [g] := (Turns.refl _ _).setCell (by simp) _
  have h0 := h4 ⟨g, t, cs⟩ (by simp)
  refine ⟨b, T, F, ⟨h1.m.turns ht (fun k hk => by obtain rfl := List.mem_singleton.1 hk; exact ⟨h0.2.1, h0.2.2.2⟩), h1.lo, ht.below h1.bel h1.bel.size (fun k hk => by obtain rfl := List.mem_singleton.1 hk; exact h0.2.2.1)⟩, h2, h3, fun x hx => ?_⟩
  rcases List.mem_cons.1 hx with rfl | hx
  · exact ⟨h0.1.put i v, h0.2⟩
  · have := h4 x (by simp [hx])
    exact ⟨ht.row this.1 (by simpa using hne x hx), this.2⟩
/-- What an answer looks like. -/
def AnV (an : An) (v : Value) : Prop := ∃ A1 n1 A2 n2, v = .agg #[.bool an.none, .slice A1 an.long.length n1, .int .u32 (an.st : Nat), .slice A2 an.bl.length n2]
theorem Ls.cmd (h : Ls w0 w b0 c S R) (i : Int) (arg : Nat) (H : CmdOk c S i arg S' an) : Calls Tryz.prog 15 #[.pointer (some ⟨b0.n.M, 0, none⟩), .int .i64 i, .int .u32 arg] w fun e w' => ∃ v, e = .returned v ∧ Ls w0 w' b0 c S' R ∧ AnV an v := by
  obtain ⟨b, T, F, h1, h2, h3, h4⟩ := h
  have hc := cmd_of h1.m i arg H
  rw [h3] at hc
  refine hc.mono fun e w' ⟨v, he, hx⟩ => ⟨v, he, ?_⟩
  have hF := hx
  obtain ⟨_, _, F', _, _, _, _, _, _, hFn, _⟩ := hF
  obtain ⟨b', T', F'', k1, k2, k3, k4, k5, k6⟩ := hx
  have hs := h1.bel.size
  refine ⟨⟨b', T', F'', ⟨k1, fun k hk => ?_, k4.below h1.bel hs h1.lo⟩, k2.trans h2, k3.trans h3, fun x hx => ?_⟩, ?_⟩
  · rcases k6.1 k hk with hk | hk
    · exact h1.lo k hk
    · omega
  · have h0 := h4 x hx
    refine ⟨k4.row h0.1 h0.2.1, fun hm => ?_, h0.2.2.1, fun hm => ?_⟩
    · rcases k6.1 _ hm with hm | hm
      · exact h0.2.1 hm
      · have := h0.1.lt; omega
    · rcases k6.2.1 _ hm with hm | hm
      · exact h0.2.2.2 hm
      · have := h0.1.lt; omega
  · obtain ⟨lv, bv, e, ⟨A1, n1, e1, _⟩, ⟨A2, cb, us, e2, _⟩⟩ := k6.2.2
    exact ⟨A1, n1, A2, cb, by rw [e, e1, e2]⟩
theorem src_row {w : World} {g n : Nat} {t : TypeId} {xs : List Value} (h : Row w g t xs.toArray) (hn : xs.length = n) (hn2 : n ≤ maxLen) : w.ownsRow 0 t 1 (.slice (some ⟨g, 0, none⟩) n n) n xs :=
  ⟨by omega, .inr ⟨g, n, xs.toArray, rfl, Nat.zero_le _, h, Nat.le_refl _, hn2, by simp [hn], by show List.take _ xs = xs; exact List.take_of_length_le (by omega)⟩⟩
theorem Ls.data (h : Ls w0 w b0 c S R) (l : List Nat) (tk : Nat) (H : DataOk c S l tk S') (g : Nat) (hg : ⟨g, 5, (intsV .u8 l).toArray⟩ ∈ R) (hl : l.length ≤ 100000) : Calls Tryz.prog 17 #[.pointer (some ⟨b0.E, 0, none⟩), .slice (some ⟨g, 0, none⟩) l.length l.length, .bool true] w fun e w' => e = .returned (.int .u8 (tk : Nat)) ∧ Ls w0 w' b0 c S' R := by
  obtain ⟨b, T, F, h1, h2, h3, h4⟩ := h
  have h0 := h4 _ hg
  have hc := H w b T F (some ⟨g, 0, none⟩) l.length h1.m (fun W' hW' => by
    exact Src.of_own (src_row (hW'.row h0.1 h0.2.1) (by rw [intsV_length]) (by unfold maxLen; omega)))
  rw [h2] at hc
  refine hc.mono fun e w' ⟨he, hx⟩ => ⟨he, ?_⟩
  obtain ⟨b', T', F', k1, k2, k3, k4, k5, k6, k7⟩ := hx
  have hs := h1.bel.size
  refine ⟨b', T', F', ⟨k1, fun k hk => ?_, k4.below h1.bel hs h1.lo⟩, k2.trans h2, k3.trans h3, fun x hx => ?_⟩
  · rcases k6 k hk with hk | hk
    · exact h1.lo k hk
    · omega
  · have h0 := h4 x hx
    refine ⟨k4.row h0.1 h0.2.1, fun hm => ?_, h0.2.2.1, fun hm => ?_⟩
    · rcases k6 _ hm with hm | hm
      · exact h0.2.1 hm
      · have := h0.1.lt; omega
    · rcases k7 _ hm with hm | hm
      · exact h0.2.2.2 hm
      · have := h0.1.lt; omega
/-- The first byte of a sector is read. -/
theorem Ls.sector (h : Ls w0 w b0 c S R) (p : Nat) (hp : p < (totalI c).toNat) (l : List Nat) (hl : placeL c S p = l) (h0 : 0 < l.length) : Calls Tryz.prog 18 #[.pointer (some ⟨b0.n.M, 0, none⟩), .int .i64 p] w fun e w' => ∃ g n, e = .returned (.slice (some ⟨g, 0, none⟩) l.length n) ∧ w'.cell? ⟨g, 0, none⟩ = some (.int .u8 (l.getD 0 0 : Nat)) ∧ l.length ≤ n ∧ Ls w0 w' b0 c S R := by
  obtain ⟨b, T, F, h1, h2, h3, h4⟩ := h
  have hc := Sector_any h1.m p hp
  rw [h3, hl] at hc
  refine hc.mono fun e w' ⟨v, he, ⟨A, n, e1, ho⟩, hA, ht⟩ => ?_
  obtain ⟨g, u, rfl, hu, hcell, hle⟩ := own_at1 ho 0 h0
  rw [intsV_get .u8 l 0 h0] at hu
  injection hu with hu
  subst hu
  have hin : b0.n.T ∈ T := by rw [← h3]; exact h1.m.inT _ (by simp [Bn.ts])
  exact ⟨g, n, by rw [he, e1], hcell, hle, b, T, F, ⟨hA, h1.lo, ht.below h1.bel h1.bel.size (fun k hk => by obtain rfl := List.mem_singleton.1 hk; exact h1.lo _ hin)⟩, h2, h3, fun x hx => ⟨ht.row (h4 x hx).1 (fun hm => by have e := List.mem_singleton.1 hm; exact (h4 x hx).2.1 (e ▸ hin)), (h4 x hx).2⟩⟩
end
end Go.Proofs.YtclhhdodebdmjaaGreat

namespace Go.Proofs.YtclhhdodebdmjaaGreat
open Go.ChangeShapes Go.WideShapes Go.ChangeAt Go.RowKit Go.Joins Go.Deep
set_option linter.unusedVariables false
set_option linter.unusedSimpArgs false
set_option maxRecDepth 100000

theorem ints_struct {H : Type} {enc : TypeId × Value → H} {P : Program} (W : World) {base : Nat} {t : TypeId} {fs : Array Field} {v : Value} {d : DataW H} {p : List MemPlace}
    (hs : P.underlying t = some (.struct fs)) (hone : oneCellFields P fs = true) (hC : P.cellsOf t = fs.size) (tI : TypeId) (hI : P.underlying tI = some (.int .i64)) (hint : fs.all (fun f => f.type == tI) = true)
    (o : Value.okWide P W .any base t v) (h : DataW.Trod enc P W 0 (fun _ => true) true t v d p) : ∃ f : Nat → Int, v = .agg ((List.range fs.size).map fun j => Value.int .i64 (f j)).toArray ∧ ∀ j, -9223372036854775808 ≤ f j ∧ f j ≤ 9223372036854775807 := by
  obtain ⟨cs, rfl, hsz⟩ := okWide_struct hs o
  obtain ⟨fuel, hf⟩ := h
  obtain ⟨xs, k, _, _, hl, hxs, hfld⟩ := DataW.trod_struct hs hf
  have hcs : (Value.agg cs).cells = cs := rfl
  rw [hcs] at hl hfld
  have hlen : cs.toList.length = fs.size := by simpa using hsz.trans hC
  have key : ∀ j, ∃ z : Int, (-9223372036854775808 ≤ z ∧ z ≤ 9223372036854775807) ∧ (∀ hj : j < fs.size, cs.toList[j]'(by omega) = .int .i64 z) := by
    intro j
    by_cases hj : j < fs.size
    · have hfj := Array.getElem?_eq_getElem hj
      obtain ⟨e1, e2⟩ := hone_of hone j _ hfj
      have hz := hfld j _ hfj
      rw [e1, e2, List.getElem?_eq_getElem (show j < xs.length by omega)] at hz
      have hone1 : (cs.toList.drop j).take 1 = [cs.toList[j]'(by omega)] := by rw [List.drop_eq_getElem_cons (by omega)]; rfl
      rw [hone1] at hz
      obtain ⟨z, hz1, _, hw⟩ := DataW.trod_int (by have := Array.all_eq_true.1 hint j hj; simp only [beq_iff_eq] at this; rw [this]; exact hI) hz
      refine ⟨z, by simpa [Lit.wf, IntKind.min, IntKind.max, IntKind.signed, IntKind.bits] using hw, fun _ => ?_⟩
      injection hz1 with hz1
    · exact ⟨0, by omega, fun h => absurd h hj⟩
  refine ⟨fun j => (key j).choose, ?_, fun j => (key j).choose_spec.1⟩
  congr 1
  apply Array.ext
  · simp; omega
  · intro i h1 h2
    have := (key i).choose_spec.2 (by simp at h2; exact h2)
    simpa using this
theorem config_view {H : Type} {enc : TypeId × Value → H} (W : World) {base : Nat} {v : Value} {d : DataW H} {p : List MemPlace} (o : Value.okWide Tryz.prog W .any base 23 v) (h : DataW.Trod enc Tryz.prog W 0 (fun _ => true) true 23 v d p) : ∃ c : Cf, v = .agg c.l.toArray := by
  obtain ⟨f, rfl, _⟩ := ints_struct W Tryz.underlying23 (by kernel_rfl) (by kernel_rfl) 3 Tryz.underlying3 (by kernel_rfl) o h
  exact ⟨⟨f 0, f 1, f 2, f 3, f 4, f 5, f 6, f 7, f 8⟩, rfl⟩
end Go.Proofs.YtclhhdodebdmjaaGreat

namespace Go.Proofs.YtclhhdodebdmjaaGreat
open Go.RowKit
set_option linter.unusedVariables false
set_option linter.unusedSimpArgs false
set_option maxRecDepth 100000

def V0 : Rv := fun _ => 0
def V1 (kd : Nat) : Rv := writeV V0 5 kd
theorem sw_next (kd : Nat) (hk : kd < 2) : nextW V0 (50659328 + 256 * kd) = .tuple #[.int .i64 5, .int .u8 kd, .int .i64 0] ∧ writeE V0 5 kd = 0 := by
  rcases (by omega : kd = 0 ∨ kd = 1) with rfl | rfl
  · exact ⟨by rfl, by rfl⟩
  · exact ⟨by rfl, by rfl⟩
theorem V1_0 (kd : Nat) (hk : kd < 2) : V1 kd 0 = 0 ∧ V1 kd 1 ≠ 1 ∧ V1 kd 5 = kd := by
  rcases (by omega : kd = 0 ∨ kd = 1) with rfl | rfl
  · exact ⟨by rfl, by decide, by rfl⟩
  · exact ⟨by rfl, by decide, by rfl⟩
section
variable {c : Cf} {s : Nat}
theorem size0 (h : OkC c) : sizeI c .none 0 = c.user := by
  unfold sizeI
  rw [if_pos (by omega)]
  show c.user - ((St.none).z0 + (St.none).z1 + (St.none).z2 + (St.none).z3) * c.group = c.user
  simp [St.none]
theorem ins0 (h : OkC c) (hs : (s : Int) < c.user) : insN c 0 s 1 = true := by
  unfold insN
  rw [size0 h]
  simp only [decide_eq_true_eq]
  omega
theorem place0 (h : OkC c) (hs : (s : Int) < c.user) : placeI c .none 0 (s : Int) = some (s : Int) := by
  unfold placeI
  rw [size0 h, if_pos (by omega)]
  show some (firstV c .none 0 + (s : Int)) = _
  simp [firstV]
theorem placeL0 (h : OkC c) (hs : (s : Int) < c.user) {st l : Int} {V : Rv} {G : List Nat} {has : Nat → Option (List Nat)} {up : Nat} {f t : Option Nat} {nx : List Nat} : placeL c (gS st l V G has up f t nx) s = (has s).getD (List.replicate c.sector.toNat 0) := by
  have ho : ofI c .none (s : Int) = some (0, (s : Int)) := by
    unfold ofI orderL
    have h1 : firstV c .none 0 = 0 := rfl
    have h2 := size0 h
    unfold sizeI at h2
    rw [if_pos (by omega)] at h2
    simp only [Int.toNat_zero] at h2
    rw [List.find?_cons_of_pos (by simp only [decide_eq_true_eq, h1, h2]; omega)]
    simp [h1]
  unfold placeL
  rw [show (gS st l V G has up f t nx).now = .none from rfl, ho]
  rfl
def gnN (c : Cf) : Nat := (c.user / c.group).toNat
theorem gi_lt (h : OkC c) (hs : (s : Int) < c.user) : 0 ≤ (s : Int) / c.group ∧ ((s : Int) / c.group).toNat < gnN c := by
  have hg := h.1.group
  have hm : (c.user % c.group == 0) = true := h.1.k10
  have hm : c.user % c.group = 0 := by simpa using hm
  have h1 : 0 ≤ (s : Int) / c.group := Int.ediv_nonneg (by omega) (by omega)
  refine ⟨h1, ?_⟩
  unfold gnN
  have h2 : (s : Int) / c.group < c.user / c.group := by
    rw [Int.ediv_lt_iff_lt_mul (by omega)]
    have := Int.ediv_mul_cancel (Int.dvd_of_emod_eq_zero hm)
    rw [this]; exact hs
  omega
def G0 (c : Cf) : List Nat := List.replicate (gnN c) 0
def G1 (c : Cf) (s k : Nat) : List Nat := (G0 c).set ((s : Int) / c.group).toNat k
theorem set_G (h : OkC c) (hs : (s : Int) < c.user) (kd : Nat) (hk : kd < 2) : Grd.setK (G0 c) ((s : Int) / c.group) (lvl kd) = G1 c s (kd + 1) := by
  obtain ⟨h1, h2⟩ := gi_lt h hs
  unfold Grd.setK
  have hin : Grd.inR (G0 c) ((s : Int) / c.group) := ⟨h1, by simp [G0]; omega⟩
  have hl : 1 ≤ lvl kd ∧ lvl kd ≤ 3 ∧ (lvl kd).toNat = kd + 1 := by
    rcases (by omega : kd = 0 ∨ kd = 1) with rfl | rfl <;> decide
  rw [if_pos ⟨hin, hl.1, hl.2.1⟩, hl.2.2]
  unfold G1
  congr 1
  simp [G0, List.getD_eq_getElem?_getD, h2]
theorem grd_G1 (h : OkC c) (hs : (s : Int) < c.user) (k : Nat) (hk : k ≠ 0) : grdN c (G1 c s k) s = true := by
  obtain ⟨h1, h2⟩ := gi_lt h hs
  unfold grdN
  have : (G1 c s k).getD ((s : Int) / c.group).toNat 0 = k := by
    unfold G1; rw [List.getD_eq_getElem?_getD, List.getElem?_set_self (by simpa [G0] using h2)]; rfl
  rw [this]
  simp [hk]
theorem clr_1 (h : OkC c) (hs : (s : Int) < c.user) : Grd.clearR (G1 c s 1) ((s : Int) / c.group) = 0 ∧ grdN c (Grd.clearK (G1 c s 1) ((s : Int) / c.group)) s = false := by
  obtain ⟨h1, h2⟩ := gi_lt h hs
  have hin : Grd.inR (G1 c s 1) ((s : Int) / c.group) := ⟨h1, by simp [G1, G0]; omega⟩
  have hg : (G1 c s 1).getD ((s : Int) / c.group).toNat 0 = 1 := by
    unfold G1; rw [List.getD_eq_getElem?_getD, List.getElem?_set_self (by simpa [G0] using h2)]; rfl
  refine ⟨?_, ?_⟩
  · unfold Grd.clearR; rw [if_pos hin, hg]; rfl
  · unfold Grd.clearK
    rw [if_pos ⟨hin, by rw [hg]; decide⟩]
    unfold grdN
    have : ((G1 c s 1).set ((s : Int) / c.group).toNat 0).getD ((s : Int) / c.group).toNat 0 = 0 := by
      rw [List.getD_eq_getElem?_getD, List.getElem?_set_self (by simpa [G1, G0] using h2)]; rfl
    rw [this]
    simp [G1, G0]
    omega
theorem clr_2 (h : OkC c) (hs : (s : Int) < c.user) : Grd.clearR (G1 c s 2) ((s : Int) / c.group) ≠ 0 ∧ Grd.clearK (G1 c s 2) ((s : Int) / c.group) = G1 c s 2 := by
  obtain ⟨h1, h2⟩ := gi_lt h hs
  have hin : Grd.inR (G1 c s 2) ((s : Int) / c.group) := ⟨h1, by simp [G1, G0]; omega⟩
  have hg : (G1 c s 2).getD ((s : Int) / c.group).toNat 0 = 2 := by
    unfold G1; rw [List.getD_eq_getElem?_getD, List.getElem?_set_self (by simpa [G0] using h2)]; rfl
  refine ⟨?_, ?_⟩
  · unfold Grd.clearR; rw [if_pos hin, hg]; decide
  · unfold Grd.clearK
    rw [if_neg (by rw [hg]; omega)]
end
theorem and1 (k : Int) : ∃ kd : Nat, kd < 2 ∧ bits .and .i64 k 1 = (kd : Int) := by
  have h1 : (BitVec.ofInt 64 k &&& BitVec.ofInt 64 1).toNat < 2 := by
    rw [BitVec.toNat_and]
    have : (BitVec.ofInt 64 1).toNat = 1 := by rfl
    rw [this]
    have := Nat.and_le_right (n := (BitVec.ofInt 64 k).toNat) (m := 1)
    omega
  refine ⟨_, h1, ?_⟩
  show IntKind.i64.wrap ((BitVec.ofInt 64 k &&& BitVec.ofInt 64 1).toNat : Int) = _
  obtain ⟨m, hm⟩ : ∃ m, m = (BitVec.ofInt 64 k &&& BitVec.ofInt 64 1).toNat := ⟨_, rfl⟩
  rw [← hm] at h1 ⊢
  rcases (by omega : m = 0 ∨ m = 1) with rfl | rfl <;> rfl
end Go.Proofs.YtclhhdodebdmjaaGreat

namespace Go.Proofs.YtclhhdodebdmjaaGreat
open Go.RowKit Go.MapKept Go.ChangeMaps
set_option linter.unusedVariables false
set_option linter.unusedSimpArgs false
set_option maxRecDepth 100000

theorem guards_out (c : Cf) (sec kind : Int) (fill : Int) (how : Int) (w : World) (hout : smallB c = false ∨ sec < 0 ∨ c.user ≤ sec) : Calls Tryz.prog 5 #[.agg c.l.toArray, .int .i64 sec, .int .i64 kind, .int .u8 fill, .int .i64 how] w fun e w' => e = .returned (.bool true) ∧ Below w.heap.size w w' := by
  have HKn := fun W => Lib.hid (known_any W)
  have HSm := fun W => Lib.hid (Small_any c W)
  have hR := fun o => Lib.hid (Row.fresh w 23 o)
  have HB1 : ∀ o, Hid (Below w.heap.size w (w.alloc o)) := fun o => (Below.refl _ _).alloc (Nat.le_refl _) _
  obtain ⟨sm, hsm⟩ : ∃ sm, sm = smallB c := ⟨_, rfl⟩
  rw [← hsm] at hout
  simp only [← hsm] at HSm
  clear hsm
  obtain ⟨cb, cp, cs, cu, co, cr, cg, ca, cz⟩ := c
  simp only [Cf.l] at HSm hout ⊢
  have key : sm = false ∨ (sm = true ∧ sec < 0) ∨ (sm = true ∧ ¬ sec < 0 ∧ sec ≥ cu) := by
    cases sm
    · exact .inl rfl
    · simp at hout
      by_cases h : sec < 0
      · exact .inr (.inl ⟨rfl, h⟩)
      · exact .inr (.inr ⟨rfl, h, by omega⟩)
  clear hout
  rcases key with rfl | ⟨rfl, h1⟩ | ⟨rfl, h1, h2⟩
  all_goals
    go_enter Tryz.func5, Tryz.ntmps5
    go_wp2_with fail
    refine (HKn _).out.mono ?_
    rintro e w1 ⟨rfl, hb⟩
    have HB2 : Hid (Below w.heap.size w w1) := (HB1 _).out.trans (hb.mono (by simp))
    have HR2 := Lib.hid ((hR _).out.below hb (hR _).out.lt)
    clear hb HB1 hR HKn
    have q0 : w1.cell? ⟨w.heap.size, 0, none⟩ = some (.int .i64 cb) := by rw [HR2.out.cell]; rfl
    have q1 : w1.cell? ⟨w.heap.size, 1, none⟩ = some (.int .i64 cp) := by rw [HR2.out.cell]; rfl
    have q2 : w1.cell? ⟨w.heap.size, 2, none⟩ = some (.int .i64 cs) := by rw [HR2.out.cell]; rfl
    have q3 : w1.cell? ⟨w.heap.size, 3, none⟩ = some (.int .i64 cu) := by rw [HR2.out.cell]; rfl
    have q4 : w1.cell? ⟨w.heap.size, 4, none⟩ = some (.int .i64 co) := by rw [HR2.out.cell]; rfl
    have q5 : w1.cell? ⟨w.heap.size, 5, none⟩ = some (.int .i64 cr) := by rw [HR2.out.cell]; rfl
    have q6 : w1.cell? ⟨w.heap.size, 6, none⟩ = some (.int .i64 cg) := by rw [HR2.out.cell]; rfl
    have q7 : w1.cell? ⟨w.heap.size, 7, none⟩ = some (.int .i64 ca) := by rw [HR2.out.cell]; rfl
    have q8 : w1.cell? ⟨w.heap.size, 8, none⟩ = some (.int .i64 cz) := by rw [HR2.out.cell]; rfl
    go_wp2_with fail
    refine (HSm _).out.mono ?_
    rintro e w2 ⟨rfl, hb⟩
    have HB3 : Hid (Below w.heap.size w w2) := HB2.out.trans (hb.mono HB2.out.size)
    have HR3 := Lib.hid (HR2.out.below hb HR2.out.lt)
    clear hb HB2 HR2 HSm q0 q1 q2 q3 q4 q5 q6 q7 q8
    have q3 : w2.cell? ⟨w.heap.size, 3, none⟩ = some (.int .i64 cu) := by rw [HR3.out.cell]; rfl
    go_wp2
    go_ret
    exact ⟨rfl, HB3.out⟩
end Go.Proofs.YtclhhdodebdmjaaGreat

namespace Go.Proofs.YtclhhdodebdmjaaGreat
open Go.RowKit Go.MapKept Go.ChangeMaps
set_option linter.unusedVariables false
set_option linter.unusedSimpArgs false
set_option maxRecDepth 100000

theorem oneL_row (n x : Nat) : (intsV .u8 (List.replicate n 0)).toArray.setIfInBounds 0 (.int .u8 (x : Int)) = (intsV .u8 (oneL n x)).toArray := by
  unfold intsV oneL
  rw [List.setIfInBounds_toArray, List.map_set]
def actI (i : Int) : Act := ⟨false, i, 0, false, false, 0, [], [], false⟩
def al4 : List Act := [actI 1, actI 2, actI 3, actI 7]
def al4V : Array Value := #[.bool false, .int .i64 1, .int .u32 0, .bool false, .bool false, .int .u8 0, .slice none 0 0, .slice none 0 0, .bool false, .bool false, .int .i64 2, .int .u32 0, .bool false, .bool false, .int .u8 0, .slice none 0 0, .slice none 0 0, .bool false, .bool false, .int .i64 3, .int .u32 0, .bool false, .bool false, .int .u8 0, .slice none 0 0, .slice none 0 0, .bool false, .bool false, .int .i64 7, .int .u32 0, .bool false, .bool false, .int .u8 0, .slice none 0 0, .slice none 0 0, .bool false]
theorem al4_at {w : World} {L : Nat} {t : TypeId} (h : Row w L t al4V) : ActsAt w (some ⟨L, 0, none⟩) al4 := by
  have hn : Src w 1 none 0 (intsV .u8 []) := Src.of_own (World.ownsRow_nil w 0 5 1)
  intro i a ha
  rcases (by
    have : i < al4.length := (List.getElem?_eq_some_iff.1 ha).1
    simp [al4] at this
    omega : i = 0 ∨ i = 1 ∨ i = 2 ∨ i = 3) with rfl | rfl | rfl | rfl
  all_goals
    simp [al4] at ha
    subst ha
    refine ⟨L, 0, rfl, none, 0, none, 0, fun j u hu => ?_, hn, hn⟩
    rw [h.cell, ← hu]
    have hj : j < 9 := by
      have := (Array.getElem?_eq_some_iff.1 hu).1
      simpa [actCells] using this
    rcases (by omega : j = 0 ∨ j = 1 ∨ j = 2 ∨ j = 3 ∨ j = 4 ∨ j = 5 ∨ j = 6 ∨ j = 7 ∨ j = 8) with rfl | rfl | rfl | rfl | rfl | rfl | rfl | rfl | rfl <;> rfl
def bgS (c : Cf) (k : Nat) : Ab := gS k 0 V0 (G0 c) (fun _ => Option.none) 0 Option.none Option.none []
theorem bg_steps (c : Cf) (i : Nat) (a : Act) (ha : al4[i]? = some a) : StepOk c (bgS c i) a (bgS c (i + 1)) := by
  rcases (by
    have : i < al4.length := (List.getElem?_eq_some_iff.1 ha).1
    simp [al4] at this
    omega : i = 0 ∨ i = 1 ∨ i = 2 ∨ i = 3) with rfl | rfl | rfl | rfl
  all_goals
    simp [al4] at ha
    subst ha
  · exact stepOk_cmd (actI 1) rfl rfl rfl (by decide) (by simp) g1 r1
  · exact stepOk_cmd (actI 2) rfl rfl rfl (by decide) (by simp) g2 r2
  · exact stepOk_cmd (actI 3) rfl rfl rfl (by decide) (by simp) g3 r3
  · exact stepOk_cmd (actI 7) rfl rfl rfl (by decide) (by simp) g7 r7
theorem begun4 (c : Cf) (h : OkC c) (w : World) (L : Nat) (hr : Row w L 76 al4V) : Calls Tryz.prog 12 #[.agg c.l.toArray, .slice (some ⟨L, 0, none⟩) 4 4] w fun e w' => ∃ b T F r U G, e = .returned (.tuple #[.pointer (some ⟨b.n.M, 0, none⟩), .pointer (some ⟨r.M, 0, none⟩)]) ∧ Two w w' b T F r U G c (gS 4 0 V0 (G0 c) (fun _ => Option.none) 0 Option.none Option.none []) :=
  begun_of c h w (some ⟨L, 0, none⟩) 4 4 al4 rfl (by omega) (al4_at hr) (Nat.le_refl _) (bgS c) rfl (bg_steps c)
set_option maxHeartbeats 4000000 in
theorem guards_in (c : Cf) (s : Nat) (kind : Int) (fill : Nat) (hf : fill < 256) (how : Int) (w : World) (hsm : smallB c = true) (hs : (s : Int) < c.user) : Calls Tryz.prog 5 #[.agg c.l.toArray, .int .i64 s, .int .i64 kind, .int .u8 fill, .int .i64 how] w fun e w' => e = .returned (.bool true) ∧ Below w.heap.size w w' := by
  obtain ⟨hok, hu4, _⟩ := smallB_ok hsm
  have hs4 : s < 400 := by omega
  have HKn := fun W => Lib.hid (known_any W)
  have HSm := fun W => Lib.hid (Small_any c W)
  rw [hsm] at HSm
  have HOk := Lib.hid (And.intro hok hs)
  have HBg := fun W L hr => Lib.hid (begun4 c hok W L hr)
  have hR := fun o => Lib.hid (Row.fresh w 23 o)
  have HB1 : ∀ o, Hid (Below w.heap.size w (w.alloc o)) := fun o => (Below.refl _ _).alloc (Nat.le_refl _) _
  obtain ⟨c0, hc0⟩ : ∃ c0, c0 = c := ⟨_, rfl⟩
  have HC0 := Lib.hid hc0
  rw [← hc0] at HOk
  have HSt : ∀ W L hr, Hid (Calls Tryz.prog 12 #[.agg c.l.toArray, .slice (some ⟨L, 0, none⟩) 4 4] W fun e w' => ∃ b T F r U G, e = .returned (.tuple #[.pointer (some ⟨b.n.M, 0, none⟩), .pointer (some ⟨r.M, 0, none⟩)]) ∧ Two W w' b T F r U G c0 (gS 4 0 V0 (G0 c0) (fun _ => Option.none) 0 Option.none Option.none [])) := fun W L (hr : Row W L 76 al4V) => by rw [hc0]; exact HBg W L hr
  have hsec := hok.1.sector
  obtain ⟨sn, hsn⟩ : ∃ sn : Nat, c.sector = sn := ⟨c.sector.toNat, by omega⟩
  have HSn : Hid (c0.sector = sn) := by unfold Hid; rw [hc0]; exact hsn
  clear hsm hok hu4 HBg hc0
  obtain ⟨cb, cp, cs, cu, co, cr, cg, ca, cz⟩ := c
  simp only [Cf.l] at HSm HSt hs hsec hsn ⊢
  have HSnE := Lib.hid hsn
  clear hsn
  obtain ⟨kd, hkd, hk1⟩ := and1 kind
  go_enter Tryz.func5, Tryz.ntmps5
  go_wp2_with fail
  refine (HKn _).out.mono ?_
  rintro e w1 ⟨rfl, hb⟩
  have HB2 : Hid (Below w.heap.size w w1) := (HB1 _).out.trans (hb.mono (by simp))
  have HR2 := Lib.hid ((hR _).out.below hb (hR _).out.lt)
  clear hb HB1 hR HKn
  have q0 : w1.cell? ⟨w.heap.size, 0, none⟩ = some (.int .i64 cb) := by rw [HR2.out.cell]; rfl
  have q1 : w1.cell? ⟨w.heap.size, 1, none⟩ = some (.int .i64 cp) := by rw [HR2.out.cell]; rfl
  have q2 : w1.cell? ⟨w.heap.size, 2, none⟩ = some (.int .i64 cs) := by rw [HR2.out.cell]; rfl
  have q3 : w1.cell? ⟨w.heap.size, 3, none⟩ = some (.int .i64 cu) := by rw [HR2.out.cell]; rfl
  have q4 : w1.cell? ⟨w.heap.size, 4, none⟩ = some (.int .i64 co) := by rw [HR2.out.cell]; rfl
  have q5 : w1.cell? ⟨w.heap.size, 5, none⟩ = some (.int .i64 cr) := by rw [HR2.out.cell]; rfl
  have q6 : w1.cell? ⟨w.heap.size, 6, none⟩ = some (.int .i64 cg) := by rw [HR2.out.cell]; rfl
  have q7 : w1.cell? ⟨w.heap.size, 7, none⟩ = some (.int .i64 ca) := by rw [HR2.out.cell]; rfl
  have q8 : w1.cell? ⟨w.heap.size, 8, none⟩ = some (.int .i64 cz) := by rw [HR2.out.cell]; rfl
  go_wp2_with fail
  refine (HSm _).out.mono ?_
  rintro e w2 ⟨rfl, hb⟩
  have HB3 : Hid (Below w.heap.size w w2) := HB2.out.trans (hb.mono HB2.out.size)
  have HR3 := Lib.hid (HR2.out.below hb HR2.out.lt)
  clear hb HB2 HR2 HSm q0 q1 q2 q3 q4 q5 q6 q7 q8
  have q0 : w2.cell? ⟨w.heap.size, 0, none⟩ = some (.int .i64 cb) := by rw [HR3.out.cell]; rfl
  have q1 : w2.cell? ⟨w.heap.size, 1, none⟩ = some (.int .i64 cp) := by rw [HR3.out.cell]; rfl
  have q2 : w2.cell? ⟨w.heap.size, 2, none⟩ = some (.int .i64 cs) := by rw [HR3.out.cell]; rfl
  have q3 : w2.cell? ⟨w.heap.size, 3, none⟩ = some (.int .i64 cu) := by rw [HR3.out.cell]; rfl
  have q4 : w2.cell? ⟨w.heap.size, 4, none⟩ = some (.int .i64 co) := by rw [HR3.out.cell]; rfl
  have q5 : w2.cell? ⟨w.heap.size, 5, none⟩ = some (.int .i64 cr) := by rw [HR3.out.cell]; rfl
  have q6 : w2.cell? ⟨w.heap.size, 6, none⟩ = some (.int .i64 cg) := by rw [HR3.out.cell]; rfl
  have q7 : w2.cell? ⟨w.heap.size, 7, none⟩ = some (.int .i64 ca) := by rw [HR3.out.cell]; rfl
  have q8 : w2.cell? ⟨w.heap.size, 8, none⟩ = some (.int .i64 cz) := by rw [HR3.out.cell]; rfl
  have hs0 : ¬ (s : Int) < 0 := by omega
  have hs1 : ¬ (s : Int) ≥ cu := by omega
  obtain ⟨L, hL⟩ : ∃ L, L = w2.heap.size := ⟨_, rfl⟩
  obtain ⟨w3, hw3⟩ : ∃ w3, w3 = w2.alloc (.cells al4V 76) := ⟨_, rfl⟩
  have hb3 : Below w2.heap.size w2 w3 := by rw [hw3]; exact (Below.refl _ _).alloc (Nat.le_refl _) _
  have HL3 : Hid (Row w3 L 76 al4V) := by unfold Hid; rw [hw3, hL]; exact Row.fresh _ _ _
  have HB4 : Hid (Below w.heap.size w w3) := HB3.out.trans (hb3.mono HB3.out.size)
  have HR4 := Lib.hid (HR3.out.below hb3 HR3.out.lt)
  have HBn := Lib.hid ((HSt w3 L HL3.out).out)
  unfold al4V at hw3
  clear hb3 HB3 HR3 HSt
  go_wp2_with fail
  rw [← hL]
  rw [hL, ← hw3, ← hL]
  clear hw3 hL q0 q1 q2 q3 q4 q5 q6 q7 q8
  refine HBn.out.mono ?_
  rintro e w4 ⟨b, T, F, r, U, G, rfl, h2⟩
  have HL : Hid (Ls w3 w4 b c0 (gS 4 0 V0 (G0 c0) (fun _ => Option.none) 0 Option.none Option.none []) []) := ⟨b, T, F, ⟨h2.m, h2.lo.1, h2.bel⟩, rfl, rfl, by simp⟩
  clear h2 HBn HL3
  obtain ⟨ag, hag⟩ : ∃ ag : Nat, ag = 50659328 + 256 * kd := ⟨_, rfl⟩
  have f1 : bits .or .i64 50659328 ((kd : Int) * 256) = (ag : Int) := by
    rw [hag]
    rcases (by omega : kd = 0 ∨ kd = 1) with rfl | rfl <;> rfl
  have hag4 : ag < 4294967296 := by omega
  have HSw : Hid (CmdOk c0 (gS 4 0 V0 (G0 c0) (fun _ => Option.none) 0 Option.none Option.none []) 6 ag (gS 4 0 (V1 kd) (G0 c0) (fun _ => Option.none) 0 Option.none Option.none []) ⟨false, [], 2304, []⟩) := by
    rw [hag]
    exact gsw (50659328 + 256 * kd) kd (by omega) (sw_next kd hkd).1 (by omega) (sw_next kd hkd).2
  clear hag
  have HC := Lib.hid (HL.out.cmd 6 ag HSw.out)
  go_wp2_with fail
  refine HC.out.mono ?_
  rintro e w5 ⟨v, rfl, hl, A1, n1, A2, n2, rfl⟩
  clear HC HL
  have HL := Lib.hid hl
  clear hl
  have HSg : Hid (CmdOk c0 (gS 4 0 (V1 kd) (G0 c0) (fun _ => Option.none) 0 Option.none Option.none []) 28 s (gS 4 0 (V1 kd) (G1 c0 s (kd + 1)) (fun _ => Option.none) 0 Option.none Option.none []) ⟨false, [], 2304, []⟩) := by
    have h := gset (c := c0) (V := V1 kd) (G := G0 c0) (has := fun _ => Option.none) (up := 0) (f := Option.none) (t := Option.none) s s (by omega) (V1_0 kd hkd).1 (ins0 HOk.out.1 HOk.out.2) (place0 HOk.out.1 HOk.out.2)
    rw [(V1_0 kd hkd).2.2, set_G HOk.out.1 HOk.out.2 kd hkd] at h
    exact h
  have HC := Lib.hid (HL.out.cmd 28 s HSg.out)
  go_wp2_with fail
  refine HC.out.mono ?_
  rintro e w6 ⟨v, rfl, hl, A1, n1, A2, n2, rfl⟩
  clear HC HL
  have HL := Lib.hid hl
  clear hl
  obtain ⟨Ya, hYa⟩ : ∃ Ya, Ya = w6.heap.size := ⟨_, rfl⟩
  obtain ⟨w7, hw7⟩ : ∃ w7, w7 = w6.alloc (.cells #[.bool false, .slice A1 0 n1, .int .u32 2304, .slice A2 0 n2] 56) := ⟨_, rfl⟩
  have hl7 := HL.out.alloc 56 #[.bool false, .slice A1 0 n1, .int .u32 2304, .slice A2 0 n2]
  rw [← hYa, ← hw7] at hl7
  have HL7 := Lib.hid hl7
  clear hl7 HL HSg HSw
  go_upto_region 11 with fail
  rw [← hYa]
  rw [hYa, ← hw7, ← hYa]
  clear hw7 hYa
  have q2 : w7.cell? ⟨w.heap.size, 2, none⟩ = some (.int .i64 cs) := by rw [(HR4.out.below HL7.out.bel HR4.out.lt).cell]; rfl
  obtain ⟨xs, hxs⟩ : ∃ xs, xs = (intsV .u8 (List.replicate sn 0)).toArray := ⟨_, rfl⟩
  have HXs := Lib.hid hxs
  have hsn128 : 128 ≤ sn ∧ sn ≤ 448 := by have := HSnE.out; omega
  have hmk : (Instr.makeSlice 53 (.int .i64 cs) (.int .i64 cs)).run Tryz.prog w7 = .ok (.slice (some ⟨w7.heap.size, 0, none⟩) sn sn) (w7.alloc (.cells xs 5)) := by rw [hxs, HSnE.out]; exact make_bytes sn (by omega) w7
  obtain ⟨Lb, hLb⟩ : ∃ Lb, Lb = w7.heap.size := ⟨_, rfl⟩
  obtain ⟨w8, hw8⟩ : ∃ w8, w8 = w7.alloc (.cells xs 5) := ⟨_, rfl⟩
  have hl8 := HL7.out.alloc 5 xs
  rw [← hLb, ← hw8] at hl8
  have HL8 := Lib.hid hl8
  have HNe : Hid (Ya ≠ Lb) := by have := (HL7.out.row _ List.mem_cons_self).lt; simp only at this; unfold Hid; omega
  clear hl8 hxs
  go_upto_region 12 with fail
  rw [← hLb]
  rw [← hw8]
  clear hw8 hLb hmk q2
  obtain ⟨x, hx⟩ : ∃ x, x = byteOp .or fill 1 := ⟨_, rfl⟩
  have hx256 : x < 256 := by rw [hx]; exact byteOp_lt _ _ _
  have f2 : bits .or .u8 (fill : Int) 1 = (x : Int) := by rw [hx]; exact byteOp_eq .or fill 1
  have HF2 := Lib.hid f2
  have HR8 := Lib.hid (HL8.out.row _ List.mem_cons_self)
  have hsn0 : 0 < sn := by omega
  have l0 : w8.cell? ⟨Lb, 0, none⟩ = some (.int .u8 0) := by rw [HR8.out.cell, HXs.out]; simp [intsV, hsn0]
  have g0 := HR8.out.frozen 0
  obtain ⟨w9, hw9⟩ : ∃ w9, w9 = w8.setCell ⟨Lb, 0, none⟩ (.int .u8 x) := ⟨_, rfl⟩
  have hl9 := HL8.out.put 0 (.int .u8 x) (by intro y hy; obtain rfl := List.mem_singleton.1 hy; exact HNe.out)
  rw [← hw9, HXs.out, show ((intsV .u8 (List.replicate sn 0)).toArray.setIfInBounds 0 (.int .u8 (x : Int))) = (intsV .u8 (oneL sn x)).toArray from oneL_row sn x] at hl9
  have HL9 := Lib.hid hl9
  clear hl9 HL8 HR8 hx HXs HL7
  go_upto_region 13 with fail
  rw [← hw9]
  clear hw9 l0 g0 f2
  have HLR : Hid (Ls w3 w9 b c0 (gS 4 0 (V1 kd) (G1 c0 s (kd + 1)) (fun _ => Option.none) 0 Option.none Option.none []) [⟨Lb, 5, (intsV .u8 (oneL sn x)).toArray⟩, ⟨Ya, 56, #[.bool false, .slice A1 0 n1, .int .u32 2304, .slice A2 0 n2]⟩]) := HL9.out
  clear HL9
  by_cases hh : how.tmod 2 = 0
  · have hh' : (how.tmod 2 == 0) = true := by simpa using hh
    have HWc : Hid (CmdOk c0 (gS 4 0 (V1 kd) (G1 c0 s (kd + 1)) (fun _ => Option.none) 0 Option.none Option.none []) 24 s (gS 6 1 (V1 kd) (G1 c0 s (kd + 1)) (fun _ => Option.none) 0 Option.none Option.none [s]) ⟨false, [], wordG 6 0, []⟩) := gwr s (by omega) (V1_0 kd hkd).1 (ins0 HOk.out.1 HOk.out.2)
    have HPt : Hid (DataOk c0 (gS 6 1 (V1 kd) (G1 c0 s (kd + 1)) (fun _ => Option.none) 0 Option.none Option.none [s]) (oneL sn x) 237 (gS 4 0 (V1 kd) (G1 c0 s (kd + 1)) (fun _ => Option.none) 67108864 Option.none Option.none [])) := by
      have h := gput (c := c0) (V := V1 kd) (G := G1 c0 s (kd + 1)) (has := fun _ => Option.none) (up := 0) s s (V1_0 kd hkd).1 (V1_0 kd hkd).2.1 (place0 HOk.out.1 HOk.out.2) (oneL sn x) (by rw [oneL_length]; exact HSn.out.symm) (oneL_lt hx256) (by omega)
      rw [grd_G1 HOk.out.1 HOk.out.2 (kd + 1) (by omega)] at h
      exact h
    have HC := Lib.hid (HLR.out.cmd 24 s HWc.out)
    go_wp2_with fail
    refine HC.out.mono ?_
    rintro e wA ⟨v, rfl, hl, A3, n3, A4, n4, rfl⟩
    have HD := hl.data (oneL sn x) 237 HPt.out Lb List.mem_cons_self (by rw [oneL_length]; omega)
    rw [oneL_length] at HD
    have HD := Lib.hid HD
    have m0 := hl.E0
    clear HC hl HLR
    go_wp2_with fail
    refine HD.out.mono ?_
    rintro e wB ⟨rfl, hl⟩
    have HL := Lib.hid hl
    clear hl HD m0 HWc HPt
    -- TAIL A
    have y2 : wB.cell? ⟨Ya, 2, none⟩ = some (.int .u32 2304) := by rw [(HL.out.row ⟨Ya, 56, #[.bool false, .slice A1 0 n1, .int .u32 2304, .slice A2 0 n2]⟩ (by simp)).cell]; rfl
    have f3 : bits .and .u32 2304 2147483648 = 0 := by rfl
    have HSc : Hid (Calls Tryz.prog 18 #[.pointer (some ⟨b.n.M, 0, none⟩), .int .i64 (s : Nat)] wB fun e w' => ∃ g n, e = .returned (.slice (some ⟨g, 0, none⟩) sn n) ∧ w'.cell? ⟨g, 0, none⟩ = some (.int .u8 0) ∧ sn ≤ n ∧ Ls w3 w' b c0 (gS 4 0 (V1 kd) (G1 c0 s (kd + 1)) (fun _ => Option.none) 67108864 Option.none Option.none []) [⟨Lb, 5, (intsV .u8 (oneL sn x)).toArray⟩, ⟨Ya, 56, #[.bool false, .slice A1 0 n1, .int .u32 2304, .slice A2 0 n2]⟩]) := by
      have hp : s < (totalI c0).toNat := by have h1 := HOk.out.2; have h2 := HOk.out.1.1.boot; have h3 := HOk.out.1.1.rpa; unfold totalI; omega
      have h := HL.out.sector s hp (List.replicate sn 0) (by rw [placeL0 HOk.out.1 HOk.out.2]; show List.replicate c0.sector.toNat 0 = _; rw [HSn.out]; rfl) (by simp [oneL]; omega)
      rw [show (List.replicate sn 0).length = sn by simp [oneL]] at h
      rw [show (((List.replicate sn 0).getD 0 0 : Nat) : Int) = 0 by simp [oneL, List.getD_eq_getElem?_getD, hsn0]] at h
      exact h
    go_wp2_with fail
    refine HSc.out.mono ?_
    rintro e wC ⟨g, n5, rfl, hc, hle, hl⟩
    clear HSc y2 HL
    have HL := Lib.hid hl
    clear hl
    rcases (by omega : kd = 0 ∨ kd = 1) with rfl | rfl
    · skip
      obtain ⟨st, hst⟩ : ∃ st, st = wordG 4 (clrU (G1 c0 s 1) ((s : Int) / c0.group) 67108864) := ⟨_, rfl⟩
      have HSt := Lib.hid hst
      have HCl : Hid (CmdOk c0 (gS 4 0 (V1 0) (G1 c0 s 1) (fun _ => Option.none) 67108864 Option.none Option.none []) 29 s (gS 4 0 (V1 0) (Grd.clearK (G1 c0 s 1) ((s : Int) / c0.group)) (fun _ => Option.none) 0 Option.none Option.none []) ⟨false, [], st, []⟩) := by
        have h := gclr (c := c0) (V := V1 0) (G := (G1 c0 s 1)) (has := (fun _ => Option.none)) (up := 67108864) (f := Option.none) (t := Option.none) s s (by omega) (V1_0 0 (by omega)).1 (ins0 HOk.out.1 HOk.out.2) (place0 HOk.out.1 HOk.out.2)
        rw [← hst] at h
        exact h
      clear hst
      have HC := Lib.hid (HL.out.cmd 29 s HCl.out)
      go_wp2_with fail
      refine HC.out.mono ?_
      rintro e wD ⟨v, rfl, hl, A5, n6, A6, n7, rfl⟩
      clear HC HL HCl hc hle
      obtain ⟨Yd, hYd⟩ : ∃ Yd, Yd = wD.heap.size := ⟨_, rfl⟩
      obtain ⟨wE, hwE⟩ : ∃ wE, wE = wD.alloc (.cells #[.bool false, .slice A5 0 n6, .int .u32 (st : Nat), .slice A6 0 n7] 56) := ⟨_, rfl⟩
      have hlE := hl.alloc 56 #[.bool false, .slice A5 0 n6, .int .u32 (st : Nat), .slice A6 0 n7]
      rw [← hYd, ← hwE] at hlE
      have HL := Lib.hid hlE
      clear hlE hl
      go_upto_region 26 with fail
      rw [← hYd]
      rw [hYd, ← hwE, ← hYd]
      clear hwE hYd
      have HWc : Hid (CmdOk c0 (gS 4 0 (V1 0) (Grd.clearK (G1 c0 s 1) ((s : Int) / c0.group)) (fun _ => Option.none) 0 Option.none Option.none []) 24 s (gS 6 1 (V1 0) (Grd.clearK (G1 c0 s 1) ((s : Int) / c0.group)) (fun _ => Option.none) 0 Option.none Option.none [s]) ⟨false, [], wordG 6 0, []⟩) := gwr s (by omega) (V1_0 0 (by omega)).1 (ins0 HOk.out.1 HOk.out.2)
      have HPt : Hid (DataOk c0 (gS 6 1 (V1 0) (Grd.clearK (G1 c0 s 1) ((s : Int) / c0.group)) (fun _ => Option.none) 0 Option.none Option.none [s]) (oneL sn x) 229 (gS 4 0 (V1 0) (Grd.clearK (G1 c0 s 1) ((s : Int) / c0.group)) (fun q => if q = s then some (oneL sn x) else Option.none) 0 Option.none Option.none [])) := by
        have h := gput (c := c0) (V := V1 0) (G := (Grd.clearK (G1 c0 s 1) ((s : Int) / c0.group))) (has := (fun _ => Option.none)) (up := 0) s s (V1_0 0 (by omega)).1 (V1_0 0 (by omega)).2.1 (place0 HOk.out.1 HOk.out.2) (oneL sn x) (by rw [oneL_length]; exact HSn.out.symm) (oneL_lt hx256) (by omega)
        rw [(clr_1 HOk.out.1 HOk.out.2).2] at h
        exact h
      have HC := Lib.hid (HL.out.cmd 24 s HWc.out)
      go_wp2_with fail
      refine HC.out.mono ?_
      rintro e wF ⟨v, rfl, hl, A7, n8, A8, n9, rfl⟩
      have HD := hl.data (oneL sn x) 229 HPt.out Lb (by simp) (by rw [oneL_length]; omega)
      rw [oneL_length] at HD
      have HD := Lib.hid HD
      have m0 := hl.E0
      clear HC hl HL
      go_wp2_with fail
      refine HD.out.mono ?_
      rintro e wG ⟨rfl, hl⟩
      have HL := Lib.hid hl
      clear hl HD m0 HWc HPt
      have HSc : Hid (Calls Tryz.prog 18 #[.pointer (some ⟨b.n.M, 0, none⟩), .int .i64 (s : Nat)] wG fun e w' => ∃ g n, e = .returned (.slice (some ⟨g, 0, none⟩) sn n) ∧ w'.cell? ⟨g, 0, none⟩ = some (.int .u8 (x : Int)) ∧ sn ≤ n ∧ Ls w3 w' b c0 (gS 4 0 (V1 0) (Grd.clearK (G1 c0 s 1) ((s : Int) / c0.group)) (fun q => if q = s then some (oneL sn x) else Option.none) 0 Option.none Option.none []) (⟨Yd, 56, #[.bool false, .slice A5 0 n6, .int .u32 (st : Nat), .slice A6 0 n7]⟩ :: [⟨Lb, 5, (intsV .u8 (oneL sn x)).toArray⟩, ⟨Ya, 56, #[.bool false, .slice A1 0 n1, .int .u32 2304, .slice A2 0 n2]⟩])) := by
        have hp : s < (totalI c0).toNat := by have h1 := HOk.out.2; have h2 := HOk.out.1.1.boot; have h3 := HOk.out.1.1.rpa; unfold totalI; omega
        have h := HL.out.sector s hp (oneL sn x) (by rw [placeL0 HOk.out.1 HOk.out.2]; show ((if s = s then some (oneL sn x) else Option.none).getD _) = _; rw [if_pos rfl]; rfl) (by simp [oneL]; omega)
        rw [show (oneL sn x).length = sn by simp [oneL]] at h
        rw [show (((oneL sn x).getD 0 0 : Nat) : Int) = (x : Int) by simp [oneL, List.getD_eq_getElem?_getD, hsn0]] at h
        exact h
      have f2 := HF2.out
      go_wp2_with fail
      refine HSc.out.mono ?_
      rintro e wH ⟨g2, n10, rfl, hc2, hle2, hl⟩
      have HBf : Hid (Below w.heap.size w wH) := HB4.out.trans (hl.bel.mono HB4.out.size)
      clear HSc HL hl
      go_wp2
      go_ret
      exact ⟨rfl, HBf.out⟩
    · skip
      obtain ⟨st, hst⟩ : ∃ st, st = wordG 4 (clrU (G1 c0 s 2) ((s : Int) / c0.group) 67108864) := ⟨_, rfl⟩
      have HSt := Lib.hid hst
      have HCl : Hid (CmdOk c0 (gS 4 0 (V1 1) (G1 c0 s 2) (fun _ => Option.none) 67108864 Option.none Option.none []) 29 s (gS 4 0 (V1 1) (G1 c0 s 2) (fun _ => Option.none) 0 Option.none Option.none []) ⟨false, [], st, []⟩) := by
        have h := gclr (c := c0) (V := V1 1) (G := (G1 c0 s 2)) (has := (fun _ => Option.none)) (up := 67108864) (f := Option.none) (t := Option.none) s s (by omega) (V1_0 1 (by omega)).1 (ins0 HOk.out.1 HOk.out.2) (place0 HOk.out.1 HOk.out.2)
        rw [← hst] at h
        rw [(clr_2 HOk.out.1 HOk.out.2).2] at h
        exact h
      clear hst
      have HC := Lib.hid (HL.out.cmd 29 s HCl.out)
      go_wp2_with fail
      refine HC.out.mono ?_
      rintro e wD ⟨v, rfl, hl, A5, n6, A6, n7, rfl⟩
      clear HC HL HCl hc hle
      obtain ⟨Yd, hYd⟩ : ∃ Yd, Yd = wD.heap.size := ⟨_, rfl⟩
      obtain ⟨wE, hwE⟩ : ∃ wE, wE = wD.alloc (.cells #[.bool false, .slice A5 0 n6, .int .u32 (st : Nat), .slice A6 0 n7] 56) := ⟨_, rfl⟩
      have hlE := hl.alloc 56 #[.bool false, .slice A5 0 n6, .int .u32 (st : Nat), .slice A6 0 n7]
      rw [← hYd, ← hwE] at hlE
      have HL := Lib.hid hlE
      clear hlE hl
      go_upto_region 26 with fail
      rw [← hYd]
      rw [hYd, ← hwE, ← hYd]
      clear hwE hYd
      have HWc : Hid (CmdOk c0 (gS 4 0 (V1 1) (G1 c0 s 2) (fun _ => Option.none) 0 Option.none Option.none []) 24 s (gS 6 1 (V1 1) (G1 c0 s 2) (fun _ => Option.none) 0 Option.none Option.none [s]) ⟨false, [], wordG 6 0, []⟩) := gwr s (by omega) (V1_0 1 (by omega)).1 (ins0 HOk.out.1 HOk.out.2)
      have HPt : Hid (DataOk c0 (gS 6 1 (V1 1) (G1 c0 s 2) (fun _ => Option.none) 0 Option.none Option.none [s]) (oneL sn x) 237 (gS 4 0 (V1 1) (G1 c0 s 2) (fun _ => Option.none) 67108864 Option.none Option.none [])) := by
        have h := gput (c := c0) (V := V1 1) (G := (G1 c0 s 2)) (has := (fun _ => Option.none)) (up := 0) s s (V1_0 1 (by omega)).1 (V1_0 1 (by omega)).2.1 (place0 HOk.out.1 HOk.out.2) (oneL sn x) (by rw [oneL_length]; exact HSn.out.symm) (oneL_lt hx256) (by omega)
        rw [grd_G1 HOk.out.1 HOk.out.2 2 (by omega)] at h
        exact h
      have HC := Lib.hid (HL.out.cmd 24 s HWc.out)
      go_wp2_with fail
      refine HC.out.mono ?_
      rintro e wF ⟨v, rfl, hl, A7, n8, A8, n9, rfl⟩
      have HD := hl.data (oneL sn x) 237 HPt.out Lb (by simp) (by rw [oneL_length]; omega)
      rw [oneL_length] at HD
      have HD := Lib.hid HD
      have m0 := hl.E0
      clear HC hl HL
      go_wp2_with fail
      refine HD.out.mono ?_
      rintro e wG ⟨rfl, hl⟩
      have HL := Lib.hid hl
      clear hl HD m0 HWc HPt
      have f4 : bits .and .u32 67111168 67108864 = 67108864 := by rfl
      have hst2 : (st : Int) = 67111168 := by
        have h := HSt.out
        unfold clrU at h
        rw [if_neg (clr_2 HOk.out.1 HOk.out.2).1] at h
        rw [h]; rfl
      have yd : wG.cell? ⟨Yd, 2, none⟩ = some (.int .u32 67111168) := by rw [← hst2, (HL.out.row ⟨Yd, 56, #[.bool false, .slice A5 0 n6, .int .u32 (st : Nat), .slice A6 0 n7]⟩ (by simp)).cell]; rfl
      clear hst2
      have HSc : Hid (Calls Tryz.prog 18 #[.pointer (some ⟨b.n.M, 0, none⟩), .int .i64 (s : Nat)] wG fun e w' => ∃ g n, e = .returned (.slice (some ⟨g, 0, none⟩) sn n) ∧ w'.cell? ⟨g, 0, none⟩ = some (.int .u8 0) ∧ sn ≤ n ∧ Ls w3 w' b c0 (gS 4 0 (V1 1) (G1 c0 s 2) (fun _ => Option.none) 67108864 Option.none Option.none []) (⟨Yd, 56, #[.bool false, .slice A5 0 n6, .int .u32 (st : Nat), .slice A6 0 n7]⟩ :: [⟨Lb, 5, (intsV .u8 (oneL sn x)).toArray⟩, ⟨Ya, 56, #[.bool false, .slice A1 0 n1, .int .u32 2304, .slice A2 0 n2]⟩])) := by
        have hp : s < (totalI c0).toNat := by have h1 := HOk.out.2; have h2 := HOk.out.1.1.boot; have h3 := HOk.out.1.1.rpa; unfold totalI; omega
        have h := HL.out.sector s hp (List.replicate sn 0) (by rw [placeL0 HOk.out.1 HOk.out.2]; show List.replicate c0.sector.toNat 0 = _; rw [HSn.out]; rfl) (by simp [oneL]; omega)
        rw [show (List.replicate sn 0).length = sn by simp [oneL]] at h
        rw [show (((List.replicate sn 0).getD 0 0 : Nat) : Int) = 0 by simp [oneL, List.getD_eq_getElem?_getD, hsn0]] at h
        exact h
      go_wp2_with fail
      refine HSc.out.mono ?_
      rintro e wH ⟨g2, n10, rfl, hc2, hle2, hl⟩
      have HBf : Hid (Below w.heap.size w wH) := HB4.out.trans (hl.bel.mono HB4.out.size)
      clear HSc HL hl
      go_wp2
      go_ret
      exact ⟨rfl, HBf.out⟩
  · have hh' : (how.tmod 2 == 0) = false := by simpa using hh
    have HFr : Hid (CmdOk c0 (gS 4 0 (V1 kd) (G1 c0 s (kd + 1)) (fun _ => Option.none) 0 Option.none Option.none []) 35 s (gS 4 0 (V1 kd) (G1 c0 s (kd + 1)) (fun _ => Option.none) 0 (some s) Option.none []) ⟨false, [], wordG 4 0, []⟩) := gfrom s (by omega) (V1_0 kd hkd).1 (ins0 HOk.out.1 HOk.out.2)
    have HTo : Hid (CmdOk c0 (gS 4 0 (V1 kd) (G1 c0 s (kd + 1)) (fun _ => Option.none) 0 (some s) Option.none []) 36 s (gS 4 0 (V1 kd) (G1 c0 s (kd + 1)) (fun _ => Option.none) 0 (some s) (some s) []) ⟨false, [], wordG 4 0, []⟩) := gto s (by omega) (V1_0 kd hkd).1 (ins0 HOk.out.1 HOk.out.2)
    have HEr : Hid (CmdOk c0 (gS 4 0 (V1 kd) (G1 c0 s (kd + 1)) (fun _ => Option.none) 0 (some s) (some s) []) 38 0 (gS 4 0 (V1 kd) (G1 c0 s (kd + 1)) (fun _ => Option.none) 0 Option.none Option.none []) ⟨false, [], 67111168, []⟩) := gera s s (by omega) (V1_0 kd hkd).1 (ins0 (s := 0) HOk.out.1 (by have := HOk.out.2; omega)) (place0 HOk.out.1 HOk.out.2) (grd_G1 HOk.out.1 HOk.out.2 (kd + 1) (by omega))
    have HC := Lib.hid (HLR.out.cmd 35 s HFr.out)
    go_wp2_with fail
    refine HC.out.mono ?_
    rintro e wA ⟨v, rfl, hl, A3, n3, A4, n4, rfl⟩
    clear HC HLR
    have HC := Lib.hid (hl.cmd 36 s HTo.out)
    clear hl
    go_wp2_with fail
    refine HC.out.mono ?_
    rintro e wA2 ⟨v, rfl, hl, A3, n3, A4, n4, rfl⟩
    clear HC
    have HC := Lib.hid (hl.cmd 38 0 HEr.out)
    clear hl
    go_wp2_with fail
    refine HC.out.mono ?_
    rintro e wA3 ⟨v, rfl, hl, A3, n3, A4, n4, rfl⟩
    clear HC
    obtain ⟨Yx, hYx⟩ : ∃ Yx, Yx = wA3.heap.size := ⟨_, rfl⟩
    obtain ⟨wA4, hwA4⟩ : ∃ wA4, wA4 = wA3.alloc (.cells #[.bool false, .slice A3 0 n3, .int .u32 67111168, .slice A4 0 n4] 56) := ⟨_, rfl⟩
    have hlx := hl.alloc 56 #[.bool false, .slice A3 0 n3, .int .u32 67111168, .slice A4 0 n4]
    rw [← hYx, ← hwA4] at hlx
    have yx : wA4.cell? ⟨Yx, 2, none⟩ = some (.int .u32 67111168) := by rw [(hlx.row _ List.mem_cons_self).cell]; rfl
    have f5 : bits .and .u32 67111168 67108864 = 67108864 := by rfl
    have HL0 := Lib.hid (hlx.drop (R' := [⟨Lb, 5, (intsV .u8 (oneL sn x)).toArray⟩, ⟨Ya, 56, #[.bool false, .slice A1 0 n1, .int .u32 2304, .slice A2 0 n2]⟩]) (fun y hy => List.mem_cons_of_mem _ hy))
    clear hlx hl HFr HTo HEr
    go_upto_region 20 with fail
    rw [← hYx]
    rw [hYx, ← hwA4, ← hYx]
    clear hwA4 hYx
    obtain ⟨wB, hwB⟩ : ∃ wB, wB = wA4 := ⟨_, rfl⟩
    subst hwB
    have HL := HL0
    clear HL0
    have y2 : wB.cell? ⟨Ya, 2, none⟩ = some (.int .u32 2304) := by rw [(HL.out.row ⟨Ya, 56, #[.bool false, .slice A1 0 n1, .int .u32 2304, .slice A2 0 n2]⟩ (by simp)).cell]; rfl
    have f3 : bits .and .u32 2304 2147483648 = 0 := by rfl
    have HSc : Hid (Calls Tryz.prog 18 #[.pointer (some ⟨b.n.M, 0, none⟩), .int .i64 (s : Nat)] wB fun e w' => ∃ g n, e = .returned (.slice (some ⟨g, 0, none⟩) sn n) ∧ w'.cell? ⟨g, 0, none⟩ = some (.int .u8 0) ∧ sn ≤ n ∧ Ls w3 w' b c0 (gS 4 0 (V1 kd) (G1 c0 s (kd + 1)) (fun _ => Option.none) 0 Option.none Option.none []) [⟨Lb, 5, (intsV .u8 (oneL sn x)).toArray⟩, ⟨Ya, 56, #[.bool false, .slice A1 0 n1, .int .u32 2304, .slice A2 0 n2]⟩]) := by
      have hp : s < (totalI c0).toNat := by have h1 := HOk.out.2; have h2 := HOk.out.1.1.boot; have h3 := HOk.out.1.1.rpa; unfold totalI; omega
      have h := HL.out.sector s hp (List.replicate sn 0) (by rw [placeL0 HOk.out.1 HOk.out.2]; show List.replicate c0.sector.toNat 0 = _; rw [HSn.out]; rfl) (by simp [oneL]; omega)
      rw [show (List.replicate sn 0).length = sn by simp [oneL]] at h
      rw [show (((List.replicate sn 0).getD 0 0 : Nat) : Int) = 0 by simp [oneL, List.getD_eq_getElem?_getD, hsn0]] at h
      exact h
    go_wp2_with fail
    refine HSc.out.mono ?_
    rintro e wC ⟨g, n5, rfl, hc, hle, hl⟩
    clear HSc y2 HL
    have HL := Lib.hid hl
    clear hl
    rcases (by omega : kd = 0 ∨ kd = 1) with rfl | rfl
    · skip
      obtain ⟨st, hst⟩ : ∃ st, st = wordG 4 (clrU (G1 c0 s 1) ((s : Int) / c0.group) 0) := ⟨_, rfl⟩
      have HSt := Lib.hid hst
      have HCl : Hid (CmdOk c0 (gS 4 0 (V1 0) (G1 c0 s 1) (fun _ => Option.none) 0 Option.none Option.none []) 29 s (gS 4 0 (V1 0) (Grd.clearK (G1 c0 s 1) ((s : Int) / c0.group)) (fun _ => Option.none) 0 Option.none Option.none []) ⟨false, [], st, []⟩) := by
        have h := gclr (c := c0) (V := V1 0) (G := (G1 c0 s 1)) (has := (fun _ => Option.none)) (up := 0) (f := Option.none) (t := Option.none) s s (by omega) (V1_0 0 (by omega)).1 (ins0 HOk.out.1 HOk.out.2) (place0 HOk.out.1 HOk.out.2)
        rw [← hst] at h
        exact h
      clear hst
      have HC := Lib.hid (HL.out.cmd 29 s HCl.out)
      go_wp2_with fail
      refine HC.out.mono ?_
      rintro e wD ⟨v, rfl, hl, A5, n6, A6, n7, rfl⟩
      clear HC HL HCl hc hle
      obtain ⟨Yd, hYd⟩ : ∃ Yd, Yd = wD.heap.size := ⟨_, rfl⟩
      obtain ⟨wE, hwE⟩ : ∃ wE, wE = wD.alloc (.cells #[.bool false, .slice A5 0 n6, .int .u32 (st : Nat), .slice A6 0 n7] 56) := ⟨_, rfl⟩
      have hlE := hl.alloc 56 #[.bool false, .slice A5 0 n6, .int .u32 (st : Nat), .slice A6 0 n7]
      rw [← hYd, ← hwE] at hlE
      have HL := Lib.hid hlE
      clear hlE hl
      go_upto_region 26 with fail
      rw [← hYd]
      rw [hYd, ← hwE, ← hYd]
      clear hwE hYd
      have HWc : Hid (CmdOk c0 (gS 4 0 (V1 0) (Grd.clearK (G1 c0 s 1) ((s : Int) / c0.group)) (fun _ => Option.none) 0 Option.none Option.none []) 24 s (gS 6 1 (V1 0) (Grd.clearK (G1 c0 s 1) ((s : Int) / c0.group)) (fun _ => Option.none) 0 Option.none Option.none [s]) ⟨false, [], wordG 6 0, []⟩) := gwr s (by omega) (V1_0 0 (by omega)).1 (ins0 HOk.out.1 HOk.out.2)
      have HPt : Hid (DataOk c0 (gS 6 1 (V1 0) (Grd.clearK (G1 c0 s 1) ((s : Int) / c0.group)) (fun _ => Option.none) 0 Option.none Option.none [s]) (oneL sn x) 229 (gS 4 0 (V1 0) (Grd.clearK (G1 c0 s 1) ((s : Int) / c0.group)) (fun q => if q = s then some (oneL sn x) else Option.none) 0 Option.none Option.none [])) := by
        have h := gput (c := c0) (V := V1 0) (G := (Grd.clearK (G1 c0 s 1) ((s : Int) / c0.group))) (has := (fun _ => Option.none)) (up := 0) s s (V1_0 0 (by omega)).1 (V1_0 0 (by omega)).2.1 (place0 HOk.out.1 HOk.out.2) (oneL sn x) (by rw [oneL_length]; exact HSn.out.symm) (oneL_lt hx256) (by omega)
        rw [(clr_1 HOk.out.1 HOk.out.2).2] at h
        exact h
      have HC := Lib.hid (HL.out.cmd 24 s HWc.out)
      go_wp2_with fail
      refine HC.out.mono ?_
      rintro e wF ⟨v, rfl, hl, A7, n8, A8, n9, rfl⟩
      have HD := hl.data (oneL sn x) 229 HPt.out Lb (by simp) (by rw [oneL_length]; omega)
      rw [oneL_length] at HD
      have HD := Lib.hid HD
      have m0 := hl.E0
      clear HC hl HL
      go_wp2_with fail
      refine HD.out.mono ?_
      rintro e wG ⟨rfl, hl⟩
      have HL := Lib.hid hl
      clear hl HD m0 HWc HPt
      have HSc : Hid (Calls Tryz.prog 18 #[.pointer (some ⟨b.n.M, 0, none⟩), .int .i64 (s : Nat)] wG fun e w' => ∃ g n, e = .returned (.slice (some ⟨g, 0, none⟩) sn n) ∧ w'.cell? ⟨g, 0, none⟩ = some (.int .u8 (x : Int)) ∧ sn ≤ n ∧ Ls w3 w' b c0 (gS 4 0 (V1 0) (Grd.clearK (G1 c0 s 1) ((s : Int) / c0.group)) (fun q => if q = s then some (oneL sn x) else Option.none) 0 Option.none Option.none []) (⟨Yd, 56, #[.bool false, .slice A5 0 n6, .int .u32 (st : Nat), .slice A6 0 n7]⟩ :: [⟨Lb, 5, (intsV .u8 (oneL sn x)).toArray⟩, ⟨Ya, 56, #[.bool false, .slice A1 0 n1, .int .u32 2304, .slice A2 0 n2]⟩])) := by
        have hp : s < (totalI c0).toNat := by have h1 := HOk.out.2; have h2 := HOk.out.1.1.boot; have h3 := HOk.out.1.1.rpa; unfold totalI; omega
        have h := HL.out.sector s hp (oneL sn x) (by rw [placeL0 HOk.out.1 HOk.out.2]; show ((if s = s then some (oneL sn x) else Option.none).getD _) = _; rw [if_pos rfl]; rfl) (by simp [oneL]; omega)
        rw [show (oneL sn x).length = sn by simp [oneL]] at h
        rw [show (((oneL sn x).getD 0 0 : Nat) : Int) = (x : Int) by simp [oneL, List.getD_eq_getElem?_getD, hsn0]] at h
        exact h
      have f2 := HF2.out
      go_wp2_with fail
      refine HSc.out.mono ?_
      rintro e wH ⟨g2, n10, rfl, hc2, hle2, hl⟩
      have HBf : Hid (Below w.heap.size w wH) := HB4.out.trans (hl.bel.mono HB4.out.size)
      clear HSc HL hl
      go_wp2
      go_ret
      exact ⟨rfl, HBf.out⟩
    · skip
      obtain ⟨st, hst⟩ : ∃ st, st = wordG 4 (clrU (G1 c0 s 2) ((s : Int) / c0.group) 0) := ⟨_, rfl⟩
      have HSt := Lib.hid hst
      have HCl : Hid (CmdOk c0 (gS 4 0 (V1 1) (G1 c0 s 2) (fun _ => Option.none) 0 Option.none Option.none []) 29 s (gS 4 0 (V1 1) (G1 c0 s 2) (fun _ => Option.none) 0 Option.none Option.none []) ⟨false, [], st, []⟩) := by
        have h := gclr (c := c0) (V := V1 1) (G := (G1 c0 s 2)) (has := (fun _ => Option.none)) (up := 0) (f := Option.none) (t := Option.none) s s (by omega) (V1_0 1 (by omega)).1 (ins0 HOk.out.1 HOk.out.2) (place0 HOk.out.1 HOk.out.2)
        rw [← hst] at h
        rw [(clr_2 HOk.out.1 HOk.out.2).2] at h
        exact h
      clear hst
      have HC := Lib.hid (HL.out.cmd 29 s HCl.out)
      go_wp2_with fail
      refine HC.out.mono ?_
      rintro e wD ⟨v, rfl, hl, A5, n6, A6, n7, rfl⟩
      clear HC HL HCl hc hle
      obtain ⟨Yd, hYd⟩ : ∃ Yd, Yd = wD.heap.size := ⟨_, rfl⟩
      obtain ⟨wE, hwE⟩ : ∃ wE, wE = wD.alloc (.cells #[.bool false, .slice A5 0 n6, .int .u32 (st : Nat), .slice A6 0 n7] 56) := ⟨_, rfl⟩
      have hlE := hl.alloc 56 #[.bool false, .slice A5 0 n6, .int .u32 (st : Nat), .slice A6 0 n7]
      rw [← hYd, ← hwE] at hlE
      have HL := Lib.hid hlE
      clear hlE hl
      go_upto_region 26 with fail
      rw [← hYd]
      rw [hYd, ← hwE, ← hYd]
      clear hwE hYd
      have HWc : Hid (CmdOk c0 (gS 4 0 (V1 1) (G1 c0 s 2) (fun _ => Option.none) 0 Option.none Option.none []) 24 s (gS 6 1 (V1 1) (G1 c0 s 2) (fun _ => Option.none) 0 Option.none Option.none [s]) ⟨false, [], wordG 6 0, []⟩) := gwr s (by omega) (V1_0 1 (by omega)).1 (ins0 HOk.out.1 HOk.out.2)
      have HPt : Hid (DataOk c0 (gS 6 1 (V1 1) (G1 c0 s 2) (fun _ => Option.none) 0 Option.none Option.none [s]) (oneL sn x) 237 (gS 4 0 (V1 1) (G1 c0 s 2) (fun _ => Option.none) 67108864 Option.none Option.none [])) := by
        have h := gput (c := c0) (V := V1 1) (G := (G1 c0 s 2)) (has := (fun _ => Option.none)) (up := 0) s s (V1_0 1 (by omega)).1 (V1_0 1 (by omega)).2.1 (place0 HOk.out.1 HOk.out.2) (oneL sn x) (by rw [oneL_length]; exact HSn.out.symm) (oneL_lt hx256) (by omega)
        rw [grd_G1 HOk.out.1 HOk.out.2 2 (by omega)] at h
        exact h
      have HC := Lib.hid (HL.out.cmd 24 s HWc.out)
      go_wp2_with fail
      refine HC.out.mono ?_
      rintro e wF ⟨v, rfl, hl, A7, n8, A8, n9, rfl⟩
      have HD := hl.data (oneL sn x) 237 HPt.out Lb (by simp) (by rw [oneL_length]; omega)
      rw [oneL_length] at HD
      have HD := Lib.hid HD
      have m0 := hl.E0
      clear HC hl HL
      go_wp2_with fail
      refine HD.out.mono ?_
      rintro e wG ⟨rfl, hl⟩
      have HL := Lib.hid hl
      clear hl HD m0 HWc HPt
      have f4 : bits .and .u32 67111168 67108864 = 67108864 := by rfl
      have hst2 : (st : Int) = 67111168 := by
        have h := HSt.out
        unfold clrU at h
        rw [if_neg (clr_2 HOk.out.1 HOk.out.2).1] at h
        rw [h]; rfl
      have yd : wG.cell? ⟨Yd, 2, none⟩ = some (.int .u32 67111168) := by rw [← hst2, (HL.out.row ⟨Yd, 56, #[.bool false, .slice A5 0 n6, .int .u32 (st : Nat), .slice A6 0 n7]⟩ (by simp)).cell]; rfl
      clear hst2
      have HSc : Hid (Calls Tryz.prog 18 #[.pointer (some ⟨b.n.M, 0, none⟩), .int .i64 (s : Nat)] wG fun e w' => ∃ g n, e = .returned (.slice (some ⟨g, 0, none⟩) sn n) ∧ w'.cell? ⟨g, 0, none⟩ = some (.int .u8 0) ∧ sn ≤ n ∧ Ls w3 w' b c0 (gS 4 0 (V1 1) (G1 c0 s 2) (fun _ => Option.none) 67108864 Option.none Option.none []) (⟨Yd, 56, #[.bool false, .slice A5 0 n6, .int .u32 (st : Nat), .slice A6 0 n7]⟩ :: [⟨Lb, 5, (intsV .u8 (oneL sn x)).toArray⟩, ⟨Ya, 56, #[.bool false, .slice A1 0 n1, .int .u32 2304, .slice A2 0 n2]⟩])) := by
        have hp : s < (totalI c0).toNat := by have h1 := HOk.out.2; have h2 := HOk.out.1.1.boot; have h3 := HOk.out.1.1.rpa; unfold totalI; omega
        have h := HL.out.sector s hp (List.replicate sn 0) (by rw [placeL0 HOk.out.1 HOk.out.2]; show List.replicate c0.sector.toNat 0 = _; rw [HSn.out]; rfl) (by simp [oneL]; omega)
        rw [show (List.replicate sn 0).length = sn by simp [oneL]] at h
        rw [show (((List.replicate sn 0).getD 0 0 : Nat) : Int) = 0 by simp [oneL, List.getD_eq_getElem?_getD, hsn0]] at h
        exact h
      go_wp2_with fail
      refine HSc.out.mono ?_
      rintro e wH ⟨g2, n10, rfl, hc2, hle2, hl⟩
      have HBf : Hid (Below w.heap.size w wH) := HB4.out.trans (hl.bel.mono HB4.out.size)
      clear HSc HL hl
      go_wp2
      go_ret
      exact ⟨rfl, HBf.out⟩
end Go.Proofs.YtclhhdodebdmjaaGreat
