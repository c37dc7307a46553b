/- What follows is laid together from several texts of mine, in their order. -/
import Derived.Test.YtomigaldomiefaaQ5

namespace Go.Proofs.Ytomigaldomiefaa
open Go.RowKit Go.MapKept Go.ChangeMaps
open Go.Maps (Keyed)
set_option linter.unusedVariables false
set_option linter.unusedSimpArgs false

theorem zero_string (w : World) : (zeroValue 9).run Try.prog w = .ok (.string .empty) w := by kernel_rfl
theorem zero_bool (w : World) : (zeroValue 4).run Try.prog w = .ok (.bool false) w := by kernel_rfl
theorem spotH_under : Try.prog.underlying 64 = some (.map 77 9) := Try.underlying64
theorem spotL_under : Try.prog.underlying 65 = some (.map 77 4) := Try.underlying65
theorem rightL_ok (n sz : Nat) {w : World} {A : Option Addr} {its : List Ws} (h : Writes w A its) : OkL n sz (rightL n sz its) := fun y hy => by
  unfold rightL at hy
  obtain ⟨x, hx, rfl⟩ := List.mem_map.1 hy
  obtain ⟨hm, hd⟩ := List.mem_filter.1 hx
  have hd := of_decide_eq_true hd
  obtain ⟨i, hi⟩ := List.mem_iff_getElem?.1 hm
  exact ⟨by show x.s.toNat < n; omega, hd.2.2, (h.at0 i x hi).2.small⟩
theorem rightL_le (n sz : Nat) (its : List Ws) : (rightL n sz its).length ≤ its.length := by
  unfold rightL; rw [List.length_map]; exact List.length_filter_le _ _
theorem WrsIs.shape {w : World} {B : Nat} {v : Value} {l : List Wr} (h : WrsIs w B v l) : ∃ n A c, v = .slice A n c := by
  obtain ⟨its, _, h2, _⟩ := h
  obtain ⟨A, c, e, _⟩ := own_shape h2
  exact ⟨_, A, c, e⟩
section
variable {w w' : World} {B C H L : Nat} {v4 v5 : Value} {S : Cr}
theorem CrIs.lt (h : CrIs w B C H L v4 v5 S) : B < w.heap.size := by have := h.low.1; have := h.row.lt; omega
theorem CrIs.loneC (h : CrIs w B C H L v4 v5 S) : Lone w [C] := fun g ty cs hr hne hm => h.lone g ty cs hr hne (by rw [List.mem_singleton.1 hm]; simp)
theorem CrIs.neC (h : CrIs w B C H L v4 v5 S) : H ≠ C ∧ L ≠ C := ⟨fun e => by subst e; exact h.has.not_row _ _ h.row, fun e => by subst e; exact h.loose.not_row _ _ h.row⟩
theorem CrIs.put5 (h : CrIs w B C H L v4 v5 S) {v : Value} {l : List Wr} (hv : WrsIs w B v l) (ok : OkL S.n S.sz l) (few : l.length ≤ 3518437208883) : CrIs (w.setCell ⟨C, 5, none⟩ v) B C H L v4 v { S with fly := l } := by
  have ht : Turns w (w.setCell ⟨C, 5, none⟩ v) [C] := (Turns.refl w [C]).setCell (by simp) v
  exact ⟨by simpa using h.row.put 5 v, h.has.turns ht (by simpa using h.neC.1), h.loose.turns ht (by simpa using h.neC.2), h.grs.lone ht h.loneC, hv.lone ht h.loneC, h.low, h.ne, h.n, h.sz, h.okG, ok, ⟨h.few.1, h.few.2.1, few⟩⟩
theorem CrIs.put4 (h : CrIs w B C H L v4 v5 S) {v : Value} {l : List (List Wr)} (hv : GrsIs w B v l) (ok : ∀ g ∈ l, OkL S.n S.sz g) (few : l.length ≤ 1048576 ∧ ∀ g ∈ l, g.length ≤ 3518437208883) : CrIs (w.setCell ⟨C, 4, none⟩ v) B C H L v v5 { S with groups := l } := by
  have ht : Turns w (w.setCell ⟨C, 4, none⟩ v) [C] := (Turns.refl w [C]).setCell (by simp) v
  exact ⟨by simpa using h.row.put 4 v, h.has.turns ht (by simpa using h.neC.1), h.loose.turns ht (by simpa using h.neC.2), hv.lone ht h.loneC, h.fly.lone ht h.loneC, h.low, h.ne, h.n, h.sz, ok, h.okF, ⟨few.1, few.2, h.few.2.2⟩⟩
/-- The loose map has turned. -/
theorem CrIs.putL (h : CrIs w B C H L v4 v5 S) (ht : Turns w w' [L]) {loose : Nat → Bool} (hl : LooseIs w' L S.n loose) : CrIs w' B C H L v4 v5 { S with loose := loose } := by
  have hT : Lone w [L] := fun g ty cs hr hne hm => h.loose.not_row ty cs (List.mem_singleton.1 hm ▸ hr)
  exact ⟨ht.row h.row (by simpa using h.neC.2.symm), h.has.turns ht (by simpa using h.ne), hl, h.grs.lone ht hT, h.fly.lone ht hT, h.low, h.ne, h.n, h.sz, h.okG, h.okF, h.few⟩
theorem CrIs.putH (h : CrIs w B C H L v4 v5 S) (ht : Turns w w' [H]) {has : Nat → Option (List Nat)} (hl : HasIs w' H S.n S.sz has) : CrIs w' B C H L v4 v5 { S with has := has } := by
  have hT : Lone w [H] := fun g ty cs hr hne hm => h.has.not_row ty cs (List.mem_singleton.1 hm ▸ hr)
  exact ⟨ht.row h.row (by simpa using h.neC.1.symm), hl, h.loose.turns ht (by simpa using h.ne.symm), h.grs.lone ht hT, h.fly.lone ht hT, h.low, h.ne, h.n, h.sz, h.okG, h.okF, h.few⟩
theorem small_R64 {p : Nat} (h : p < 4294967296) : R64 (p : Int) := by unfold R64; omega
theorem HasIs.look {n sz : Nat} {has : Nat → Option (List Nat)} (h : HasIs w H n sz has) {p : Nat} (hp : p < 4294967296) :
    (Instr.lookup 64 (.map (some H)) (pv p) true).run Try.prog w = .ok (.tuple #[.string (textOf ((has p).getD [])), .bool (has p).isSome]) w := by
  obtain ⟨⟨m, f, h1, h2⟩, _⟩ := h
  rw [(h1.look spotKeyed spotH_under (zero_string w) (spot_key (small_R64 hp))).2]
  cases hh : has p with
  | none =>
    have : f (pv p) = none := by
      cases hf : f (pv p) with
      | none => rfl
      | some v =>
        obtain ⟨q, d, e1, e2, _⟩ := (h2 _ _).1 hf
        have := pv_inj e2
        obtain rfl : p = q := by omega
        rw [hh] at e1; cases e1
    rw [this]; rfl
  | some d => rw [(h2 _ _).2 ⟨p, d, hh, rfl, rfl⟩]; rfl
theorem LooseIs.look {n : Nat} {loose : Nat → Bool} (h : LooseIs w L n loose) {p : Nat} (hp : p < 4294967296) :
    (Instr.lookup 65 (.map (some L)) (pv p) false).run Try.prog w = .ok (.bool (loose p)) w := by
  obtain ⟨⟨m, f, h1, h2⟩, _⟩ := h
  rw [(h1.look spotKeyed spotL_under (zero_bool w) (spot_key (small_R64 hp))).1]
  cases hh : loose p with
  | false =>
    have : f (pv p) = none := by
      cases hf : f (pv p) with
      | none => rfl
      | some v =>
        obtain ⟨q, e1, e2, _⟩ := (h2 _ _).1 hf
        have := pv_inj e2
        obtain rfl : p = q := by omega
        rw [hh] at e1; cases e1
    rw [this]; rfl
  | true => rw [(h2 _ _).2 ⟨p, hh, rfl, rfl⟩]; rfl
def updH (has : Nat → Option (List Nat)) (p : Nat) (d : List Nat) : Nat → Option (List Nat) := fun q => if q = p then some d else has q
def updL (loose : Nat → Bool) (p : Nat) (b : Bool) : Nat → Bool := fun q => if q = p then b else loose q
theorem HasIs.set {n sz : Nat} {has : Nat → Option (List Nat)} (h : HasIs w H n sz has) {p : Nat} (hp : p < 4294967296) (hn : p < n) {d : List Nat} (hd : d.length = sz) (h256 : ∀ u ∈ d, u < 256) :
    ∃ w', (Instr.mapUpdate 64 (.map (some H)) (pv p) (.string (textOf d))).run Try.prog w = .ok () w' ∧ HasIs w' H n sz (updH has p d) ∧ Turns w w' [H] := by
  obtain ⟨⟨m, f, h1, h2⟩, h3⟩ := h
  obtain ⟨w', hr, hm, hg⟩ := h1.update (val := .string (textOf d)) spotKeyed spotH_under (spot_key (small_R64 hp))
  refine ⟨w', hr, ⟨⟨_, _, hm, fun key v => ?_⟩, fun q e hq => ?_⟩, Turns.of_grown hg⟩
  · by_cases he : key = pv p
    · subst he
      rw [updK_same]
      constructor
      · intro e; injection e with e; exact ⟨p, d, by simp [updH], rfl, e.symm⟩
      · rintro ⟨q, e, h4, h5, rfl⟩
        have := pv_inj h5
        obtain rfl : p = q := by omega
        simp [updH] at h4; rw [h4]
    · rw [updK_ne _ _ _ he, h2]
      constructor
      · rintro ⟨q, e, h4, rfl, rfl⟩
        exact ⟨q, e, by unfold updH; rw [if_neg (fun e => he (by rw [e]))]; exact h4, rfl, rfl⟩
      · rintro ⟨q, e, h4, rfl, rfl⟩
        exact ⟨q, e, by unfold updH at h4; rw [if_neg (fun e => he (by rw [e]))] at h4; exact h4, rfl, rfl⟩
  · unfold updH at hq
    by_cases e1 : q = p
    · rw [if_pos e1] at hq; injection hq with hq; subst hq; subst e1; exact ⟨hn, hd, h256⟩
    · rw [if_neg e1] at hq; exact h3 q e hq
theorem LooseIs.set {n : Nat} {loose : Nat → Bool} (h : LooseIs w L n loose) {p : Nat} (hp : p < 4294967296) (hn : p < n) :
    ∃ w', (Instr.mapUpdate 65 (.map (some L)) (pv p) (.bool true)).run Try.prog w = .ok () w' ∧ LooseIs w' L n (updL loose p true) ∧ Turns w w' [L] := by
  obtain ⟨⟨m, f, h1, h2⟩, h3⟩ := h
  obtain ⟨w', hr, hm, hg⟩ := h1.update (val := .bool true) spotKeyed spotL_under (spot_key (small_R64 hp))
  refine ⟨w', hr, ⟨⟨_, _, hm, fun key v => ?_⟩, fun q hq => ?_⟩, Turns.of_grown hg⟩
  · by_cases he : key = pv p
    · subst he
      rw [updK_same]
      constructor
      · intro e; injection e with e; exact ⟨p, by simp [updL], rfl, e.symm⟩
      · rintro ⟨q, h4, h5, rfl⟩; rfl
    · rw [updK_ne _ _ _ he, h2]
      constructor
      · rintro ⟨q, h4, rfl, rfl⟩
        exact ⟨q, by unfold updL; rw [if_neg (fun e => he (by rw [e]))]; exact h4, rfl, rfl⟩
      · rintro ⟨q, h4, rfl, rfl⟩
        exact ⟨q, by unfold updL at h4; rw [if_neg (fun e => he (by rw [e]))] at h4; exact h4, rfl, rfl⟩
  · unfold updL at hq
    by_cases e1 : q = p
    · subst e1; exact hn
    · rw [if_neg e1] at hq; exact h3 q hq
theorem LooseIs.drop {n : Nat} {loose : Nat → Bool} {ty : TypeId} (h : LooseIs w L n loose) {p : Nat} (hp : p < 4294967296) :
    ∃ w', (Builtin.delete_ #[65, 77] ty #[.map (some L), pv p]).run Try.prog w = .ok (.tuple #[]) w' ∧ LooseIs w' L n (updL loose p false) ∧ Turns w w' [L] := by
  obtain ⟨⟨m, f, h1, h2⟩, h3⟩ := h
  obtain ⟨w', hr, hm, hg⟩ := h1.delete (ty := ty) spotKeyed spotL_under (spot_key (small_R64 hp))
  refine ⟨w', hr, ⟨⟨_, _, hm, fun key v => ?_⟩, fun q hq => ?_⟩, Turns.of_grown hg⟩
  · by_cases he : key = pv p
    · subst he
      rw [updK_same]
      constructor
      · intro e; cases e
      · rintro ⟨q, h4, h5, rfl⟩
        have := pv_inj h5
        obtain rfl : p = q := by omega
        simp [updL] at h4
    · rw [updK_ne _ _ _ he, h2]
      constructor
      · rintro ⟨q, h4, rfl, rfl⟩
        exact ⟨q, by unfold updL; rw [if_neg (fun e => he (by rw [e]))]; exact h4, rfl, rfl⟩
      · rintro ⟨q, h4, rfl, rfl⟩
        exact ⟨q, by unfold updL at h4; rw [if_neg (fun e => he (by rw [e]))] at h4; exact h4, rfl, rfl⟩
  · unfold updL at hq
    by_cases e1 : q = p
    · rw [if_pos e1] at hq; cases hq
    · rw [if_neg e1] at hq; exact h3 q hq
theorem Levels_any (h : CrIs w B C H L v4 v5 S) : Calls Try.prog 18 #[.pointer (some ⟨C, 0, none⟩)] w fun e w' => e = .returned (.int .i64 (S.groups.length + 1 : Nat)) ∧ w = w' := by
  obtain ⟨_, _, _, _, c4, _⟩ := h.cells
  have hf := h.few.1
  obtain ⟨vs, ho, _⟩ := h.grs
  obtain ⟨A, c, rfl, _, _⟩ := own_shape ho
  generalize S.groups.length = g at *
  have hw : IntKind.i64.wrap ((g : Int) + 1) = ((g + 1 : Nat) : Int) := by rw [IntKind.wrap_i64]; omega
  clear h ho
  go_enter Try.func18, Try.ntmps18
  go_wp2
  go_ret
  exact ⟨by simp, rfl⟩
theorem Loose_any (h : CrIs w B C H L v4 v5 S) (p : Int) : Calls Try.prog 21 #[.pointer (some ⟨C, 0, none⟩), .int .i64 p] w fun e w' => (∃ v, e = .returned v) ∧ CrIs w' B C H L v4 v5 { S with loose := fun q => S.loose q || (decide (0 ≤ p ∧ p < S.n) && decide (q = p.toNat)) } ∧ Turns w w' [L] := by
  obtain ⟨c0, _, _, c3, _, _⟩ := h.cells
  have HTh := Lib.hid (there_any C S.n p w c0)
  have hn := h.n
  have HH := Lib.hid h
  by_cases hp : 0 ≤ p ∧ p < S.n
  · rw [decide_eq_true hp] at HTh
    obtain ⟨q, rfl⟩ := Int.eq_ofNat_of_zero_le hp.1
    obtain ⟨w', hr, hl, ht⟩ := h.loose.set (p := q) (by omega) (by omega)
    have HX : Hid (CrIs w' B C H L v4 v5 { S with loose := fun x => S.loose x || (decide (0 ≤ (q : Int) ∧ (q : Int) < S.n) && decide (x = (q : Int).toNat)) } ∧ Turns w w' [L]) := by
      refine ⟨h.putL ht ?_, ht⟩
      have e : (fun x => S.loose x || (decide (0 ≤ (q : Int) ∧ (q : Int) < S.n) && decide (x = (q : Int).toNat))) = updL S.loose q true := by
        funext x
        unfold updL
        rw [decide_eq_true hp]
        by_cases hx : x = q <;> simp [hx]
      rw [e]; exact hl
    clear hl ht h hp hn c0
    go_enter Try.func21, Try.ntmps21
    go_wp2_with fail
    refine HTh.out.mono ?_
    rintro e w1 ⟨rfl, rfl⟩
    clear HTh
    go_wp2
    go_end0
    exact ⟨⟨_, rfl⟩, HX.out⟩
  · rw [decide_eq_false hp] at HTh ⊢
    have HX : Hid (CrIs w B C H L v4 v5 { S with loose := fun x => S.loose x || (false && decide (x = p.toNat)) } ∧ Turns w w [L]) := by
      refine ⟨?_, Turns.refl _ _⟩
      have e : (fun x => S.loose x || (false && decide (x = p.toNat))) = S.loose := by funext x; simp
      rw [e]; exact h
    clear h hp hn c0 c3
    go_enter Try.func21, Try.ntmps21
    go_wp2_with fail
    refine HTh.out.mono ?_
    rintro e w1 ⟨rfl, rfl⟩
    clear HTh
    go_wp2
    go_end0
    exact ⟨⟨_, rfl⟩, HX.out⟩
theorem Flight_any (h : CrIs w B C H L v4 v5 S) (A : Option Addr) (c : Nat) (its : List Ws) (hlen : its.length ≤ 3518437208883) (hW : Writes w A its) : Calls Try.prog 15 #[.pointer (some ⟨C, 0, none⟩), .slice A its.length c] w fun e w' => (∃ v, e = .returned v) ∧ (∃ v, CrIs w' B C H L v4 v { S with fly := rightL S.n S.sz its }) ∧ Turns w w' [C] := by
  obtain ⟨c0, c1, _, _, _, _⟩ := h.cells
  have HR := Lib.hid (right_any C S.n S.sz A c its hlen h.sz.2 w hW c0 c1)
  have HX : Hid (∀ w1 v, Below w.heap.size w w1 → WrsIs w1 w.heap.size v (rightL S.n S.sz its) → (w1.frozen? ⟨C, 5, none⟩ = false ∧ w1.cell? ⟨C, 5, none⟩ = some v5) ∧ CrIs (w1.setCell ⟨C, 5, none⟩ v) B C H L v4 v { S with fly := rightL S.n S.sz its } ∧ Turns w (w1.setCell ⟨C, 5, none⟩ v) [C]) := fun w1 v hb hv => by
    have h1 := h.below hb
    exact ⟨⟨h1.row.frozen 5, h1.cells.2.2.2.2.2⟩, h1.put5 (hv.mono (Nat.le_of_lt h.lt)) (rightL_ok _ _ hW) (Nat.le_trans (rightL_le _ _ _) hlen), (Turns.of_below hb _).setCell (by simp) v⟩
  generalize its.length = ln at *
  clear h hW c0 c1
  go_enter Try.func15, Try.ntmps15
  go_wp2_with fail
  refine HR.out.mono ?_
  rintro e w1 ⟨v, rfl, hv, hb⟩
  obtain ⟨n1, A1, c1, rfl⟩ := hv.shape
  obtain ⟨⟨fz, c5⟩, hx⟩ := HX.out w1 _ hb hv
  have HX1 := Lib.hid hx
  clear HR HX hv hb hx
  go_wp2
  go_end0
  exact ⟨⟨_, rfl⟩, ⟨_, HX1.out.1⟩, HX1.out.2⟩
end
end Go.Proofs.Ytomigaldomiefaa

namespace Go.Proofs.Ytomigaldomiefaa
open Go.RowKit Go.MapKept Go.ChangeMaps
open Go.Maps (Keyed)
set_option linter.unusedVariables false
set_option linter.unusedSimpArgs false

theorem grp_info : (Try.prog.info? 23).map (fun i => (i.zero, i.size, i.bytes)) = some (some (.slice none 0 0), 1, 24) := by kernel_rfl
/-- A group that came in. -/
structure Gs where
  A : Option Addr
  c : Nat
  its : List Ws
/-- Groups in a row. -/
structure ArgG (w : World) (A : Option Addr) (gss : List Gs) : Prop where
  at0 : ∀ (i : Nat) (g : Gs), gss[i]? = some g → (∃ b off, A = some ⟨b, off, none⟩ ∧ w.cell? ⟨b, off + i, none⟩ = some (.slice g.A g.its.length g.c)) ∧ Writes w g.A g.its
theorem ArgG.keep {w w' : World} {a : Option Addr} {gss : List Gs} (h : ArgG w a gss) (hk : ∀ p v, w.cell? p = some v → w'.cell? p = some v) : ArgG w' a gss :=
  ⟨fun i x hx => by obtain ⟨⟨b, off, e, hc⟩, hA⟩ := h.at0 i x hx; exact ⟨⟨b, off, e, hk _ _ hc⟩, hA.keep hk⟩⟩
def rightG (n sz : Nat) (gss : List Gs) : List (List Wr) := gss.map fun g => rightL n sz g.its
theorem rightG_take (n sz : Nat) (gss : List Gs) (k : Nat) (g : Gs) (h : gss[k]? = some g) : rightG n sz (gss.take (k + 1)) = rightG n sz (gss.take k) ++ [rightL n sz g.its] := by
  have e : gss.take (k + 1) = gss.take k ++ [g] := by rw [List.take_add_one, h]; rfl
  unfold rightG; rw [e, List.map_append]; rfl
section
variable {w w' : World} {B C H L : Nat} {v4 v5 : Value} {S : Cr} {T : List Nat}
theorem WrsIs.aside {v : Value} {l : List Wr} (h : WrsIs w B v l) (ht : Turns w w' T) (hT : ∀ g ∈ T, ∃ cs, Row w g 23 cs) : WrsIs w' B v l := by
  obtain ⟨its, h1, h2, h3⟩ := h
  refine ⟨its, h1, ht.own h2 fun g hg hm => ?_, fun x hx => ⟨(h3 x hx).1, (h3 x hx).2.1, (h3 x hx).2.2.aside ht fun g hg => by obtain ⟨cs, hr⟩ := hT g hg; exact ⟨_, cs, hr, by decide⟩⟩⟩
  obtain ⟨cs, hr⟩ := hT g hm
  obtain ⟨_, _, cs', hr'⟩ := own_blk h2 (k := g) (by unfold blkV; rw [hg]; simp)
  exact Row.ne_type hr hr' (by decide) rfl
theorem GrsIs.blk {v : Value} {gs : List (List Wr)} (h : GrsIs w B v gs) : ∀ g ∈ blkV v, ∃ cs, Row w g 23 cs := fun g hg => by
  obtain ⟨vs, h1, _⟩ := h
  exact (own_blk h1 hg).2.2
theorem GrsIs.push {v' u : Value} {gs : List (List Wr)} {vs : List Value} {g : List Wr} (hvs : ∀ (i : Nat) (g : List Wr), gs[i]? = some g → ∃ u, vs[i]? = some u ∧ WrsIs w B u g) (hl : vs.length = gs.length) (ht : Turns w w' T) (hT : ∀ g ∈ T, ∃ cs, Row w g 23 cs) (ho : w'.ownsRow B 23 1 v' (gs.length + 1) (vs ++ [u])) (hu : WrsIs w B u g) : GrsIs w' B v' (gs ++ [g]) := by
  refine ⟨vs ++ [u], by rw [List.length_append]; exact ho, fun i x hx => ?_⟩
  rcases Nat.lt_or_ge i gs.length with hlt | hge
  · rw [List.getElem?_append_left hlt] at hx
    obtain ⟨y, hy, hw⟩ := hvs i x hx
    exact ⟨y, by rw [List.getElem?_append_left (by omega)]; exact hy, hw.aside ht hT⟩
  · rw [List.getElem?_append_right hge] at hx
    have hi : i = gs.length := by
      have := (List.getElem?_eq_some_iff.1 hx).1
      simp at this; omega
    subst hi
    simp at hx; subst hx
    exact ⟨u, by rw [List.getElem?_append_right (by omega), hl]; simp, hu.aside ht hT⟩
theorem CrIs.regroup (h : CrIs w B C H L v4 v5 S) (ht : Turns w w' T) (hT : ∀ g ∈ T, ∃ cs, Row w g 23 cs) {v : Value} {gs : List (List Wr)} (hv : GrsIs w' B v gs) (ok : ∀ g ∈ gs, OkL S.n S.sz g) (few : gs.length ≤ 1048576 ∧ ∀ g ∈ gs, g.length ≤ 3518437208883) :
    CrIs (w'.setCell ⟨C, 4, none⟩ v) B C H L v v5 { S with groups := gs } ∧ (w'.frozen? ⟨C, 4, none⟩ = false ∧ w'.cell? ⟨C, 4, none⟩ = some v4) := by
  have hC : Row w' C 67 _ := ht.row h.row (fun hm => by obtain ⟨cs, hr⟩ := hT _ hm; exact Row.ne_type hr h.row (by decide) rfl)
  have hH := h.has.turns ht (fun hm => by obtain ⟨cs, hr⟩ := hT _ hm; exact h.has.not_row _ _ hr)
  have hL := h.loose.turns ht (fun hm => by obtain ⟨cs, hr⟩ := hT _ hm; exact h.loose.not_row _ _ hr)
  have hF := h.fly.aside ht hT
  have hl : Lone w' [C] := fun g ty cs hr hne hm => Row.ne_type hr hC hne (List.mem_singleton.1 hm)
  have h2 : Turns w' (w'.setCell ⟨C, 4, none⟩ v) [C] := (Turns.refl w' [C]).setCell (by simp) v
  exact ⟨⟨by simpa using hC.put 4 v, hH.turns h2 (by simpa using h.neC.1), hL.turns h2 (by simpa using h.neC.2), hv.lone h2 hl, hF.lone h2 hl, h.low, h.ne, h.n, h.sz, ok, h.okF, ⟨few.1, few.2, h.few.2.2⟩⟩, hC.frozen 4, hC.cell 4⟩
set_option maxRecDepth 100000 in
set_option maxHeartbeats 4000000 in
theorem Cached_any (h : CrIs w B C H L v4 v5 S) (A : Option Addr) (c : Nat) (gss : List Gs) (hlen : gss.length ≤ 1048576) (hl2 : ∀ g ∈ gss, g.its.length ≤ 3518437208883) (hG : ∀ wr, Turns w wr [C] → ArgG wr A gss) :
    Calls Try.prog 10 #[.pointer (some ⟨C, 0, none⟩), .slice A gss.length c] w fun e w' => (∃ v, e = .returned v) ∧ (∃ v, CrIs w' B C H L v v5 { S with groups := rightG S.n S.sz gss }) ∧ Turns w w' [C] := by
  obtain ⟨i0, hi, hz0, hz1, hz2⟩ := info_parts grp_info
  have HG := Lib.hid hG
  have HL2 := Lib.hid hl2
  have hBw := h.lt
  have c4 := h.cells.2.2.2.2.1
  have fz := h.row.frozen 4
  have HC0 : Hid (CrIs (w.setCell ⟨C, 4, none⟩ (.slice none 0 0)) B C H L (.slice none 0 0) v5 { S with groups := [] }) := h.put4 (GrsIs.nil w B) (by simp) (by simp)
  have HT0 : Hid (Turns w (w.setCell ⟨C, 4, none⟩ (.slice none 0 0)) [C]) := (Turns.refl w [C]).setCell (by simp) _
  obtain ⟨B0, hB0⟩ : ∃ B0, B0 = w.heap.size := ⟨_, rfl⟩
  have HB0 : Hid (B < B0 ∧ C < B0 ∧ B0 = w.heap.size) := ⟨by omega, by rw [hB0]; exact h.row.lt, hB0⟩
  obtain ⟨ln, hln⟩ : ∃ ln, ln = gss.length := ⟨_, rfl⟩
  have HLn := Lib.hid hln
  rw [← hln] at hlen ⊢
  clear h hG hl2 hln hB0 hBw
  go_enter Try.func10, Try.ntmps10
  go_wp2
  clear c4 fz
  go_loopw [5, 11] (fun gp i wr => ∃ (k : Nat) (v : Value), i = .int .i64 k ∧ k ≤ ln ∧ CrIs wr B C H L v v5 { S with groups := rightG S.n S.sz (gss.take k) } ∧ GrsIs wr B0 v (rightG S.n S.sz (gss.take k)) ∧ Turns w wr [C]) (fun _ i _ => ln - (intOf i).toNat)
  case atStart => exact ⟨0, .slice none 0 0, rfl, by omega, HC0.out, GrsIs.nil _ _, HT0.out⟩
  case round =>
    clear HC0 HT0
    obtain ⟨k, v, rfl, hk, hc, hgr, ht⟩ := hrel
    by_cases hkn : k < ln
    · obtain ⟨g, hg⟩ : ∃ g, gss[k]? = some g := ⟨_, List.getElem?_eq_getElem (by rw [← HLn.out]; exact hkn)⟩
      obtain ⟨⟨b, off, e1, q0⟩, hW⟩ := (HG.out wr ht).at0 k g hg
      subst e1
      have hgl := HL2.out g (List.mem_of_getElem? hg)
      have HSt := Lib.hid (rightG_take S.n S.sz gss k g hg)
      have HW0 : Hid (Writes wr.drew g.A g.its) := hW.keep (fun _ _ h => h)
      have HOk := Lib.hid (rightL_ok S.n S.sz hW)
      have HLe : Hid ((rightL S.n S.sz g.its).length ≤ 3518437208883) := Nat.le_trans (rightL_le S.n S.sz g.its) hgl
      have HRi := Lib.hid (right_any C S.n S.sz g.A g.c g.its hgl hc.sz.2 wr.drew HW0.out hc.cells.1 hc.cells.2.1)
      obtain ⟨vs, hvo, hve⟩ := hgr
      have hgk : (rightG S.n S.sz (gss.take k)).length = k := by unfold rightG; rw [List.length_map, List.length_take, ← HLn.out]; omega
      rw [hgk] at hvo
      obtain ⟨A4, c4, rfl, _, _⟩ := own_shape hvo
      have HGb : Hid (∀ x ∈ blkV (.slice A4 k c4), ∃ cs, Row wr x 23 cs) := fun x hx => (own_blk hvo hx).2.2
      have HGl : Hid (∀ x ∈ blkV (.slice A4 k c4), B0 ≤ x) := fun x hx => (own_blk hvo hx).1
      have HVe := Lib.hid hve
      have HVo := Lib.hid hvo
      have HCr := Lib.hid hc
      have HTr := Lib.hid ht
      have hCn : C ∉ blkV (.slice A4 k c4) := fun hm => by obtain ⟨cs, hr⟩ := HGb.out _ hm; exact Row.ne_type hr hc.row (by decide) rfl
      have k4 : ∀ t : Kept wr (blkV (.slice A4 k c4)), t.u.cell? ⟨C, 4, none⟩ = some (.slice A4 k c4) := fun t => (t.h.row HCr.out.row hCn).cell 4
      generalize g.its.length = gl at *
      clear hW hve hvo hc ht hg hgl HW0
      go_wp2
      (refine region_kept (blkV (.slice A4 k c4)) [0, 1, 2, 3, 4, 5, 6] [7, 8, 9, 10, 11, 12] (by kernel_rfl) (by kernel_rfl) (fun _ _ _ _ _ h => h) ?_; simp only [List.filterMap_cons, List.getElem?_cons_zero, List.getElem?_cons_succ, List.filterMap_nil]; (repeat ((show wpQuiet _ _ _ _ (_ :: _) _); go_big_quiet_step (fail))); refine wpQuiet_nil ?_)
      clear k4 hCn q0
      refine wpSeqS_step ?_
      go_wp2_with fail
      refine HRi.out.mono ?_
      rintro e w4 ⟨v7, rfl, hv7, hb4⟩
      obtain ⟨n7, A7, c7, rfl⟩ := hv7.shape
      have HB4 : Hid (Below wr.heap.size wr w4) := (Below.refl _ _).drew.trans hb4
      have HV7 := Lib.hid hv7
      clear HRi hv7 hb4
      go_wp2_with fail
      refine outQ_normal (Turns.of_below HB4.out _) ?_
      refine wpSeqS_step ?_
      go_wp2_with fail
      refine outQ_normal ((Turns.of_below HB4.out _).alloc _) ?_
      have HB5 : Hid (Below wr.heap.size wr (w4.alloc (.cells #[.slice A7 n7 c7] 23))) := HB4.out.alloc HB4.out.size _
      have HO5 := Lib.hid (own_below HVo.out HB5.out)
      have HS5 := Lib.hid (src_new (w := w4) (t := 23) (cs := [.slice A7 n7 c7]) (sz := 1) rfl)
      have hBs : B0 ≤ (w4.alloc (.cells #[.slice A7 n7 c7] 23)).heap.size := by have h1 := HTr.out.size; have h2 := HB5.out.size; have h3 := HB0.out.2.2; omega
      refine wpSeqS_step (wpList_append_src _ rfl (.tmp 19) (.tmp 23) 35 rfl B0 23 i0 _ 1 24 Try.underlying35 hi hz0 hz1 hz2 rfl (by decide) _ k vs rfl HO5.out (some ⟨w4.heap.size, 0, none⟩) 1 1 _ rfl HS5.out (by intro u hu; rw [List.mem_singleton.1 hu]; rfl) (by unfold maxLen; omega) (by omega) hBs ?_)
      intro v6 w6 hown hgrow hat
      obtain ⟨A6, c6, rfl, _, _⟩ := own_shape hown
      have HT5 : Hid (Turns (w4.alloc (.cells #[.slice A7 n7 c7] 23)) w6 (blkV (.slice A4 k c4))) := turns_own hgrow
      have HT6 : Hid (Turns wr w6 (blkV (.slice A4 k c4))) := (Turns.of_below HB5.out _).trans HT5.out (fun k hk => .inl hk)
      refine wpList_nil (outQ_normal HT6.out ?_)
      have hb45 : Below w4.heap.size w4 (w4.alloc (.cells #[.slice A7 n7 c7] 23)) := (Below.refl _ _).alloc (Nat.le_refl _) _
      have hTb : ∀ x ∈ blkV (.slice A4 k c4), ∃ cs, Row (w4.alloc (.cells #[.slice A7 n7 c7] 23)) x 23 cs := fun x hx => by
        obtain ⟨cs, hr⟩ := HGb.out x hx
        exact ⟨cs, hr.below HB5.out hr.lt⟩
      have hGp : GrsIs w6 B0 (.slice A6 (k + 1) c6) (rightG S.n S.sz (gss.take (k + 1))) := by
        rw [HSt.out]
        have hv7 : WrsIs (w4.alloc (.cells #[.slice A7 n7 c7] 23)) B0 (.slice A7 n7 c7) (rightL S.n S.sz g.its) := (HV7.out.mono (by have h1 := HTr.out.size; have h3 := HB0.out.2.2; show B0 ≤ wr.heap.size; omega)).lone (Turns.of_below hb45 []) (lone_nil _)
        refine GrsIs.push (vs := vs) (u := .slice A7 n7 c7) (fun i x hx => ?_) ?_ HT5.out hTb ?_ hv7
        · obtain ⟨y, hy, hw⟩ := HVe.out i x hx
          exact ⟨y, hy, hw.lone (Turns.of_below HB5.out []) (lone_nil _)⟩
        · have := HVo.out.1; rw [hgk]; omega
        · rw [hgk]; exact hown
      obtain ⟨hcr, fz6, c46⟩ := HCr.out.regroup HT6.out HGb.out (hGp.mono (Nat.le_of_lt HB0.out.1)) (fun x hx => by
        rw [HSt.out] at hx
        rcases List.mem_append.1 hx with hx | hx
        · exact HCr.out.okG x hx
        · rw [List.mem_singleton.1 hx]; exact HOk.out) ⟨by rw [HSt.out, List.length_append, hgk]; simp; omega, fun x hx => by
        rw [HSt.out] at hx
        rcases List.mem_append.1 hx with hx | hx
        · exact HCr.out.few.2.1 x hx
        · rw [List.mem_singleton.1 hx]; exact HLe.out⟩
      have HCr2 := Lib.hid hcr
      have HG2 : Hid (GrsIs (w6.setCell ⟨C, 4, none⟩ (.slice A6 (k + 1) c6)) B0 (.slice A6 (k + 1) c6) (rightG S.n S.sz (gss.take (k + 1)))) := by
        refine hGp.lone ((Turns.refl w6 [C]).setCell (by simp) _) (fun y ty cs hr hne hm => ?_)
        rw [List.mem_singleton.1 hm] at hr
        have hC6 := HT6.out.row HCr.out.row (fun hm => by obtain ⟨cs, hr⟩ := HGb.out _ hm; exact Row.ne_type hr HCr.out.row (by decide) rfl)
        exact Row.ne_type hr hC6 hne rfl
      have HT7 : Hid (Turns w (w6.setCell ⟨C, 4, none⟩ (.slice A6 (k + 1) c6)) [C]) := (HTr.out.trans HT6.out (fun x hx => .inr (by have := HGl.out x hx; have := HB0.out.2.2; omega))).setCell (by simp) _
      clear hown hgrow hat HS5 HO5 HT5 hcr hGp hTb hb45 hBs
      refine wpSeqS_step ?_
      go_wp2_with fail
      refine outQ_normal HT6.out ?_
      refine wpSeqS_step ?_
      go_wp2_with fail
      refine outQ_normal HT6.out ?_
      refine wpSeqS_last ?_
      go_wp2
      go_roundw
      case rel => exact ⟨k + 1, _, by go_num, by omega, HCr2.out, HG2.out, HT7.out⟩
      case measure => simp [intOf]; omega
    · obtain rfl : k = ln := by omega
      have hall : gss.take k = gss := by rw [HLn.out]; exact List.take_length
      rw [hall] at hc
      have HCr := Lib.hid hc
      have HTr := Lib.hid ht
      clear hc hgr ht hall
      go_wp2
      go_end0
      exact ⟨⟨_, rfl⟩, ⟨_, HCr.out⟩, HTr.out⟩
end
end Go.Proofs.Ytomigaldomiefaa

namespace Go.Proofs.Ytomigaldomiefaa
open Go.RowKit Go.MapKept Go.ChangeMaps
open Go.Maps (Keyed)
set_option linter.unusedVariables false
set_option linter.unusedSimpArgs false

def Cr.put (S : Cr) (x : Wr) : Cr := { S with has := updH S.has x.1 x.2, loose := updL S.loose x.1 false }
def Cr.durable (S : Cr) (l : List Wr) : Cr := l.foldl Cr.put S
theorem durable_same (l : List Wr) : ∀ S : Cr, (S.durable l).n = S.n ∧ (S.durable l).sz = S.sz ∧ (S.durable l).groups = S.groups ∧ (S.durable l).fly = S.fly := by
  induction l with
  | nil => intro S; exact ⟨rfl, rfl, rfl, rfl⟩
  | cons x l ih => intro S; exact ih (S.put x)
theorem durable_take (S : Cr) (l : List Wr) (k : Nat) (x : Wr) (h : l[k]? = some x) : S.durable (l.take (k + 1)) = (S.durable (l.take k)).put x := by
  have e : l.take (k + 1) = l.take k ++ [x] := by rw [List.take_add_one, h]; rfl
  unfold Cr.durable; rw [e, List.foldl_append]; rfl
theorem WrsIs.at0 {w : World} {B n c : Nat} {A : Option Addr} {l : List Wr} (h : WrsIs w B (.slice A n c) l) : n = l.length ∧ ∀ (k : Nat) (x : Wr), l[k]? = some x → ∃ g A1 c1, A = some ⟨g, 0, none⟩ ∧ w.cell? ⟨g, k * 3, none⟩ = some (.int .i64 0) ∧ w.cell? ⟨g, k * 3 + 1, none⟩ = some (.int .i64 x.1) ∧ w.cell? ⟨g, k * 3 + 2, none⟩ = some (.slice A1 x.2.length c1) ∧ Cells8 w A1 x.2 := by
  obtain ⟨its, e, ho, hd⟩ := h
  have hn : n = its.length := by
    obtain ⟨A', c', e', _⟩ := own_shape ho
    injection e' with _ e'
  refine ⟨by rw [hn, e, List.length_map], fun k x hx => ?_⟩
  rw [e, List.getElem?_map] at hx
  cases hi : its[k]? with
  | none => rw [hi] at hx; cases hx
  | some y =>
    rw [hi] at hx
    injection hx with hx
    subst hx
    have hlt : k < its.length := (List.getElem?_eq_some_iff.1 hi).1
    obtain ⟨ya, ys, hda⟩ := hd y (List.mem_of_getElem? hi)
    rw [hn] at ho
    rcases ho.2 with ⟨_, h0⟩ | ⟨g, cap, cur, e1, _, hr, h1, h2, h3, h4⟩
    · omega
    · injection e1 with e1 _ _
      have key : ∀ (j : Nat) (u : Value), y.wr[j]? = some u → w.cell? ⟨g, k * 3 + j, none⟩ = some u := fun j u hu => by
        have hj : j < 3 := by have := (List.getElem?_eq_some_iff.1 hu).1; simpa [Ws.wr] using this
        have h5 := wrsV_get its k j y u hi hu
        rw [← h4, List.getElem?_take, if_pos (by omega)] at h5
        rw [(show Row w g _ cur from hr).cell]
        simpa using h5
      refine ⟨g, y.A, y.c, e1, ?_, ?_, key 2 _ rfl, hda.lies⟩
      · have := key 0 _ rfl; rw [ya] at this; simpa using this
      · have := key 1 _ rfl
        rw [this]; congr 2; show y.s = ((y.s.toNat : Nat) : Int); omega
section
variable {w w' : World} {B C H L : Nat} {v4 v5 : Value} {S : Cr}
theorem CrIs.put (h : CrIs w B C H L v4 v5 S) {x : Wr} (hx : x.1 < S.n ∧ x.2.length = S.sz ∧ ∀ u ∈ x.2, u < 256) :
    ∃ w1, (Instr.mapUpdate 64 (.map (some H)) (pv x.1) (.string (textOf x.2))).run Try.prog w = .ok () w1 ∧ CrIs w1 B C H L v4 v5 { S with has := updH S.has x.1 x.2 } ∧ Turns w w1 [H] := by
  obtain ⟨w1, hr, hh, ht⟩ := h.has.set (p := x.1) (by have := h.n; omega) hx.1 hx.2.1 hx.2.2
  exact ⟨w1, hr, h.putH ht hh, ht⟩
theorem CrIs.dropL (h : CrIs w B C H L v4 v5 S) (ty : TypeId) {p : Nat} (hp : p < S.n) :
    ∃ w1, (Builtin.delete_ #[65, 77] ty #[.map (some L), pv p]).run Try.prog w = .ok (.tuple #[]) w1 ∧ CrIs w1 B C H L v4 v5 { S with loose := updL S.loose p false } ∧ Turns w w1 [L] := by
  obtain ⟨w1, hr, hh, ht⟩ := h.loose.drop (ty := ty) (p := p) (by have := h.n; omega)
  exact ⟨w1, hr, h.putL ht hh, ht⟩
set_option maxRecDepth 100000 in
set_option maxHeartbeats 4000000 in
theorem Durable_any (h : CrIs w B C H L v4 v5 S) (A : Option Addr) (c : Nat) (its : List Ws) (hlen : its.length ≤ 3518437208883) (hW : Writes w A its) :
    Calls Try.prog 14 #[.pointer (some ⟨C, 0, none⟩), .slice A its.length c] w fun e w' => (∃ v, e = .returned v) ∧ CrIs w' B C H L v4 v5 (S.durable (rightL S.n S.sz its)) ∧ Turns w w' [H, L] := by
  have HR := Lib.hid (right_any C S.n S.sz A c its hlen h.sz.2 w hW h.cells.1 h.cells.2.1)
  have HOk := Lib.hid (rightL_ok S.n S.sz hW)
  have HLe : Hid ((rightL S.n S.sz its).length ≤ 3518437208883) := Nat.le_trans (rightL_le S.n S.sz its) hlen
  have HC := Lib.hid h
  generalize rightL S.n S.sz its = l at *
  generalize its.length = ni at *
  clear hW h hlen
  go_enter Try.func14, Try.ntmps14
  go_wp2_with fail
  refine HR.out.mono ?_
  rintro e w1 ⟨v, rfl, hv, hb⟩
  obtain ⟨n1, A1, c1, rfl⟩ := hv.shape
  have HA := Lib.hid hv.at0
  obtain ⟨hn1, _⟩ := hv.at0
  have HV : Hid (∀ wr, Turns w1 wr [H, L] → WrsIs wr w.heap.size (.slice A1 n1 c1) l) := fun wr ht => hv.lone ht (fun g ty cs hr hne hm => (HC.out.below hb).lone g ty cs hr hne (List.mem_cons_of_mem _ hm))
  have HC1 := Lib.hid (HC.out.below hb)
  have HB1 := Lib.hid hb
  have hn1l : n1 ≤ 3518437208883 := by rw [hn1]; exact HLe.out
  have HN := Lib.hid hn1
  clear HR hv hb HC hn1
  go_wp2_with fail
  go_loopw [5, 10] (fun bp i wr => ∃ k : Nat, i = .int .i64 k ∧ k ≤ n1 ∧ CrIs wr B C H L v4 v5 (S.durable (l.take k)) ∧ Turns w1 wr [H, L]) (fun _ i _ => n1 - (intOf i).toNat)
  case atStart => exact ⟨0, rfl, by omega, HC1.out, Turns.refl _ _⟩
  case round =>
    clear HC1
    obtain ⟨k, rfl, hk, hc, ht⟩ := hrel
    by_cases hkn : k < n1
    · obtain ⟨⟨p, d⟩, hx⟩ : ∃ x, l[k]? = some x := ⟨_, List.getElem?_eq_getElem (by rw [← HN.out]; exact hkn)⟩
      obtain ⟨g, A2, c2, rfl, q0, q1, q2, hd⟩ := (HV.out wr ht).at0.2 k (p, d) hx
      have HSt := Lib.hid (durable_take S l k (p, d) hx)
      obtain ⟨s1, s2, _, _⟩ := durable_same (l.take k) S
      have HX : Hid (p < (S.durable (l.take k)).n ∧ d.length = (S.durable (l.take k)).sz ∧ ∀ u ∈ d, u < 256) := by
        rw [s1, s2]; exact HOk.out (p, d) (List.mem_of_getElem? hx)
      obtain ⟨wz, hwz⟩ : ∃ wz, wz = wr.alloc (.cells #[.int .i64 0, .int .i64 p, .slice A2 d.length c2] 30) := ⟨_, rfl⟩
      have HBz : Hid (Below wr.heap.size wr wz) := by unfold Hid; rw [hwz]; (repeat (first | (with_reducible refine Below.drew ?_) | (with_reducible refine below_drewN0 ?_ _) | ((with_reducible refine Below.setCell ?_ ?_ _); rotate_left; focus (first | omega | (simp; done) | (simp; omega) | (simp at *; omega))) | ((with_reducible refine Below.alloc ?_ ?_ _); rotate_left; focus (first | omega | (simp; done) | (simp; omega) | (simp at *; omega))) | (with_reducible exact Below.refl _ _)))
      have HRz : Hid (Row wz wr.heap.size 30 #[.int .i64 0, .int .i64 p, .slice A2 d.length c2]) := by unfold Hid; rw [hwz]; exact Row.fresh _ _ _
      have HCz := Lib.hid (hc.below HBz.out)
      have HTz : Hid (Turns w1 wz [H, L]) := ht.then_below HBz.out
      have HD : Hid (∀ t : Kept wz [], Cells8 t.u A2 d) := fun t => (hd.keep (keep_below HBz.out)).keep (fun a v h => t.h.cell h (by simp))
      have kc : ∀ t : Kept wz [], (convert 22 9 (.slice A2 d.length c2)).run Try.prog t.u = .ok (.string (textOf d)) t.u := fun t => conv_text (HD.out t)
      have k1 : ∀ t : Kept wz [], t.u.cell? ⟨C, 2, none⟩ = some (.map (some H)) := fun t => (t.h.row HCz.out.row (by simp)).cell 2
      have k2 : ∀ t : Kept wz [], t.u.cell? ⟨wr.heap.size, 1, none⟩ = some (.int .i64 p) := fun t => (t.h.row HRz.out (by simp)).cell 1
      have k3 : ∀ t : Kept wz [], t.u.cell? ⟨wr.heap.size, 2, none⟩ = some (.slice A2 d.length c2) := fun t => (t.h.row HRz.out (by simp)).cell 2
      have HZ : Hid (wr.heap.size ∉ [H, L]) := fun hm => HCz.out.lone _ _ _ HRz.out (by decide) (List.mem_cons_of_mem _ hm)
      obtain ⟨w4, hup, hc4, ht4⟩ := (HCz.out.drewN 1).put (x := (p, d)) HX.out
      have HUp : Hid ((Instr.mapUpdate 64 (.map (some H)) (.agg #[.int .i64 p]) (.string (textOf d))).run Try.prog wz.drew = .ok () w4) := hup
      have HC4 := Lib.hid hc4
      have HT4 : Hid (Turns wz w4 [H]) := (show Turns wz.drew w4 [H] from ht4) |> fun h => ((Turns.refl wz []).drew).mono (by simp) |>.trans h (fun k hk => .inl hk)
      generalize d.length = dl at *
      generalize hS' : S.durable (l.take k) = S' at *
      clear hc ht hx hd s1 s2 hup hc4 ht4
      go_wp2
      rw [← hwz]
      clear hwz q0 q1 q2
      generalize wr.heap.size = Z at *
      (refine region_kept ([]) [0, 1, 2, 3, 4, 5, 6, 7, 8, 9] [10] (by kernel_rfl) (by kernel_rfl) (fun _ _ _ _ _ h => h) ?_; simp only [List.filterMap_cons, List.getElem?_cons_zero, List.getElem?_cons_succ, List.filterMap_nil]; (repeat ((show wpQuiet _ _ _ _ (_ :: _) _); go_big_quiet_step (fail))); refine wpQuiet_nil ?_)
      clear k1 k2 k3 kc
      have hup := HUp.out
      refine wpSeqS_last ?_
      go_wp2
      clear hup HUp
      have HR4 : Hid (Row w4 Z 30 #[.int .i64 0, .int .i64 p, .slice A2 dl c2]) := HT4.out.row HRz.out (fun hm => HZ.out (by rw [List.mem_singleton.1 hm]; simp))
      have m1 : ∀ t : Kept w4 [], t.u.cell? ⟨C, 3, none⟩ = some (.map (some L)) := fun t => (t.h.row HC4.out.row (by simp)).cell 3
      have m2 : ∀ t : Kept w4 [], t.u.cell? ⟨Z, 1, none⟩ = some (.int .i64 p) := fun t => (t.h.row HR4.out (by simp)).cell 1
      obtain ⟨w5, hdl, hc5, ht5⟩ := (HC4.out.drewN 1).dropL 0 (p := p) HX.out.1
      have HDl : Hid ((Builtin.delete_ #[65, 77] 0 #[.map (some L), .agg #[.int .i64 p]]).run Try.prog w4.drew = .ok (.tuple #[]) w5) := hdl
      have HC5 : Hid (CrIs w5 B C H L v4 v5 (S.durable (l.take (k + 1)))) := by rw [HSt.out]; exact hc5
      have HT5 : Hid (Turns w1 w5 [H, L]) := (HTz.out.trans HT4.out (fun k hk => .inl (by rw [List.mem_singleton.1 hk]; simp))).trans ((((Turns.refl w4 []).drew).mono (by simp)).trans (show Turns w4.drew w5 [L] from ht5) (fun k hk => .inl hk)) (fun k hk => .inl (by rw [List.mem_singleton.1 hk]; simp))
      clear hdl hc5 ht5
      (refine region_kept ([]) [0, 1, 2, 3, 4, 5, 6] [7] (by kernel_rfl) (by kernel_rfl) (fun _ _ _ _ _ h => h) ?_; simp only [List.filterMap_cons, List.getElem?_cons_zero, List.getElem?_cons_succ, List.filterMap_nil]; (repeat ((show wpQuiet _ _ _ _ (_ :: _) _); go_big_quiet_step (fail))); refine wpQuiet_nil ?_)
      clear m1 m2
      have hdl := HDl.out
      refine wpSeqS_last ?_
      go_wp2
      clear hdl HDl
      go_roundw
      case rel => exact ⟨k + 1, by go_num, by omega, HC5.out, HT5.out⟩
      case measure => simp [intOf]; omega
    · obtain rfl : k = n1 := by omega
      have hall : l.take k = l := by rw [HN.out]; exact List.take_length
      rw [hall] at hc
      have HCr := Lib.hid hc
      have HTr : Hid (Turns w wr [H, L]) := (Turns.of_below HB1.out _).trans ht (fun k hk => .inl hk)
      clear hc ht hall
      go_wp2
      go_end0
      exact ⟨⟨_, rfl⟩, HCr.out, HTr.out⟩
end
end Go.Proofs.Ytomigaldomiefaa
