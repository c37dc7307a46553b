/- crash: Flight, Loose, Levels, nought; a state that is turned. -/
import Derived.Test.YtomigaldomiefaaCrRight
namespace Go.Proofs.Ytomigaldomiefaa
open Go.RowKit Go.MapKept Go.ChangeMaps
open Go.Maps (Keyed)
set_option linter.unusedVariables false
set_option linter.unusedSimpArgs false

theorem zero_string (w : World) : (zeroValue 9).run Try.prog w = .ok (.string .empty) w := by kernel_rfl
theorem zero_bool (w : World) : (zeroValue 4).run Try.prog w = .ok (.bool false) w := by kernel_rfl
theorem spotH_under : Try.prog.underlying 64 = some (.map 77 9) := Try.underlying64
theorem spotL_under : Try.prog.underlying 65 = some (.map 77 4) := Try.underlying65
theorem rightL_ok (n sz : Nat) {w : World} {A : Option Addr} {its : List Ws} (h : Writes w A its) : OkL n sz (rightL n sz its) := fun y hy => by
  unfold rightL at hy
  obtain ⟨x, hx, rfl⟩ := List.mem_map.1 hy
  obtain ⟨hm, hd⟩ := List.mem_filter.1 hx
  have hd := of_decide_eq_true hd
  obtain ⟨i, hi⟩ := List.mem_iff_getElem?.1 hm
  exact ⟨by show x.s.toNat < n; omega, hd.2.2, (h.at0 i x hi).2.small⟩
theorem rightL_le (n sz : Nat) (its : List Ws) : (rightL n sz its).length ≤ its.length := by
  unfold rightL; rw [List.length_map]; exact List.length_filter_le _ _
theorem WrsIs.shape {w : World} {B : Nat} {v : Value} {l : List Wr} (h : WrsIs w B v l) : ∃ n A c, v = .slice A n c := by
  obtain ⟨its, _, h2, _⟩ := h
  obtain ⟨A, c, e, _⟩ := own_shape h2
  exact ⟨_, A, c, e⟩
section
variable {w w' : World} {B C H L : Nat} {v4 v5 : Value} {S : Cr}
theorem CrIs.lt (h : CrIs w B C H L v4 v5 S) : B < w.heap.size := by have := h.low.1; have := h.row.lt; omega
theorem CrIs.loneC (h : CrIs w B C H L v4 v5 S) : Lone w [C] := fun g ty cs hr hne hm => h.lone g ty cs hr hne (by rw [List.mem_singleton.1 hm]; simp)
theorem CrIs.neC (h : CrIs w B C H L v4 v5 S) : H ≠ C ∧ L ≠ C := ⟨fun e => by subst e; exact h.has.not_row _ _ h.row, fun e => by subst e; exact h.loose.not_row _ _ h.row⟩
theorem CrIs.put5 (h : CrIs w B C H L v4 v5 S) {v : Value} {l : List Wr} (hv : WrsIs w B v l) (ok : OkL S.n S.sz l) (few : l.length ≤ 3518437208883) : CrIs (w.setCell ⟨C, 5, none⟩ v) B C H L v4 v { S with fly := l } := by
  have ht : Turns w (w.setCell ⟨C, 5, none⟩ v) [C] := (Turns.refl w [C]).setCell (by simp) v
  exact ⟨by simpa using h.row.put 5 v, h.has.turns ht (by simpa using h.neC.1), h.loose.turns ht (by simpa using h.neC.2), h.grs.lone ht h.loneC, hv.lone ht h.loneC, h.low, h.ne, h.n, h.sz, h.okG, ok, ⟨h.few.1, h.few.2.1, few⟩⟩
theorem CrIs.put4 (h : CrIs w B C H L v4 v5 S) {v : Value} {l : List (List Wr)} (hv : GrsIs w B v l) (ok : ∀ g ∈ l, OkL S.n S.sz g) (few : l.length ≤ 1048576 ∧ ∀ g ∈ l, g.length ≤ 3518437208883) : CrIs (w.setCell ⟨C, 4, none⟩ v) B C H L v v5 { S with groups := l } := by
  have ht : Turns w (w.setCell ⟨C, 4, none⟩ v) [C] := (Turns.refl w [C]).setCell (by simp) v
  exact ⟨by simpa using h.row.put 4 v, h.has.turns ht (by simpa using h.neC.1), h.loose.turns ht (by simpa using h.neC.2), hv.lone ht h.loneC, h.fly.lone ht h.loneC, h.low, h.ne, h.n, h.sz, ok, h.okF, ⟨few.1, few.2, h.few.2.2⟩⟩
/-- The loose map has turned. -/
theorem CrIs.putL (h : CrIs w B C H L v4 v5 S) (ht : Turns w w' [L]) {loose : Nat → Bool} (hl : LooseIs w' L S.n loose) : CrIs w' B C H L v4 v5 { S with loose := loose } := by
  have hT : Lone w [L] := fun g ty cs hr hne hm => h.loose.not_row ty cs (List.mem_singleton.1 hm ▸ hr)
  exact ⟨ht.row h.row (by simpa using h.neC.2.symm), h.has.turns ht (by simpa using h.ne), hl, h.grs.lone ht hT, h.fly.lone ht hT, h.low, h.ne, h.n, h.sz, h.okG, h.okF, h.few⟩
theorem CrIs.putH (h : CrIs w B C H L v4 v5 S) (ht : Turns w w' [H]) {has : Nat → Option (List Nat)} (hl : HasIs w' H S.n S.sz has) : CrIs w' B C H L v4 v5 { S with has := has } := by
  have hT : Lone w [H] := fun g ty cs hr hne hm => h.has.not_row ty cs (List.mem_singleton.1 hm ▸ hr)
  exact ⟨ht.row h.row (by simpa using h.neC.1.symm), hl, h.loose.turns ht (by simpa using h.ne.symm), h.grs.lone ht hT, h.fly.lone ht hT, h.low, h.ne, h.n, h.sz, h.okG, h.okF, h.few⟩
theorem small_R64 {p : Nat} (h : p < 4294967296) : R64 (p : Int) := by unfold R64; omega
theorem HasIs.look {n sz : Nat} {has : Nat → Option (List Nat)} (h : HasIs w H n sz has) {p : Nat} (hp : p < 4294967296) :
    (Instr.lookup 64 (.map (some H)) (pv p) true).run Try.prog w = .ok (.tuple #[.string (textOf ((has p).getD [])), .bool (has p).isSome]) w := by
  obtain ⟨⟨m, f, h1, h2⟩, _⟩ := h
  rw [(h1.look spotKeyed spotH_under (zero_string w) (spot_key (small_R64 hp))).2]
  cases hh : has p with
  | none =>
    have : f (pv p) = none := by
      cases hf : f (pv p) with
      | none => rfl
      | some v =>
        obtain ⟨q, d, e1, e2, _⟩ := (h2 _ _).1 hf
        have := pv_inj e2
        obtain rfl : p = q := by omega
        rw [hh] at e1; cases e1
    rw [this]; rfl
  | some d => rw [(h2 _ _).2 ⟨p, d, hh, rfl, rfl⟩]; rfl
theorem LooseIs.look {n : Nat} {loose : Nat → Bool} (h : LooseIs w L n loose) {p : Nat} (hp : p < 4294967296) :
    (Instr.lookup 65 (.map (some L)) (pv p) false).run Try.prog w = .ok (.bool (loose p)) w := by
  obtain ⟨⟨m, f, h1, h2⟩, _⟩ := h
  rw [(h1.look spotKeyed spotL_under (zero_bool w) (spot_key (small_R64 hp))).1]
  cases hh : loose p with
  | false =>
    have : f (pv p) = none := by
      cases hf : f (pv p) with
      | none => rfl
      | some v =>
        obtain ⟨q, e1, e2, _⟩ := (h2 _ _).1 hf
        have := pv_inj e2
        obtain rfl : p = q := by omega
        rw [hh] at e1; cases e1
    rw [this]; rfl
  | true => rw [(h2 _ _).2 ⟨p, hh, rfl, rfl⟩]; rfl
def updH (has : Nat → Option (List Nat)) (p : Nat) (d : List Nat) : Nat → Option (List Nat) := fun q => if q = p then some d else has q
def updL (loose : Nat → Bool) (p : Nat) (b : Bool) : Nat → Bool := fun q => if q = p then b else loose q
theorem HasIs.set {n sz : Nat} {has : Nat → Option (List Nat)} (h : HasIs w H n sz has) {p : Nat} (hp : p < 4294967296) (hn : p < n) {d : List Nat} (hd : d.length = sz) (h256 : ∀ u ∈ d, u < 256) :
    ∃ w', (Instr.mapUpdate 64 (.map (some H)) (pv p) (.string (textOf d))).run Try.prog w = .ok () w' ∧ HasIs w' H n sz (updH has p d) ∧ Turns w w' [H] := by
  obtain ⟨⟨m, f, h1, h2⟩, h3⟩ := h
  obtain ⟨w', hr, hm, hg⟩ := h1.update (val := .string (textOf d)) spotKeyed spotH_under (spot_key (small_R64 hp))
  refine ⟨w', hr, ⟨⟨_, _, hm, fun key v => ?_⟩, fun q e hq => ?_⟩, Turns.of_grown hg⟩
  · by_cases he : key = pv p
    · subst he
      rw [updK_same]
      constructor
      · intro e; injection e with e; exact ⟨p, d, by simp [updH], rfl, e.symm⟩
      · rintro ⟨q, e, h4, h5, rfl⟩
        have := pv_inj h5
        obtain rfl : p = q := by omega
        simp [updH] at h4; rw [h4]
    · rw [updK_ne _ _ _ he, h2]
      constructor
      · rintro ⟨q, e, h4, rfl, rfl⟩
        exact ⟨q, e, by unfold updH; rw [if_neg (fun e => he (by rw [e]))]; exact h4, rfl, rfl⟩
      · rintro ⟨q, e, h4, rfl, rfl⟩
        exact ⟨q, e, by unfold updH at h4; rw [if_neg (fun e => he (by rw [e]))] at h4; exact h4, rfl, rfl⟩
  · unfold updH at hq
    by_cases e1 : q = p
    · rw [if_pos e1] at hq; injection hq with hq; subst hq; subst e1; exact ⟨hn, hd, h256⟩
    · rw [if_neg e1] at hq; exact h3 q e hq
theorem LooseIs.set {n : Nat} {loose : Nat → Bool} (h : LooseIs w L n loose) {p : Nat} (hp : p < 4294967296) (hn : p < n) :
    ∃ w', (Instr.mapUpdate 65 (.map (some L)) (pv p) (.bool true)).run Try.prog w = .ok () w' ∧ LooseIs w' L n (updL loose p true) ∧ Turns w w' [L] := by
  obtain ⟨⟨m, f, h1, h2⟩, h3⟩ := h
  obtain ⟨w', hr, hm, hg⟩ := h1.update (val := .bool true) spotKeyed spotL_under (spot_key (small_R64 hp))
  refine ⟨w', hr, ⟨⟨_, _, hm, fun key v => ?_⟩, fun q hq => ?_⟩, Turns.of_grown hg⟩
  · by_cases he : key = pv p
    · subst he
      rw [updK_same]
      constructor
      · intro e; injection e with e; exact ⟨p, by simp [updL], rfl, e.symm⟩
      · rintro ⟨q, h4, h5, rfl⟩; rfl
    · rw [updK_ne _ _ _ he, h2]
      constructor
      · rintro ⟨q, h4, rfl, rfl⟩
        exact ⟨q, by unfold updL; rw [if_neg (fun e => he (by rw [e]))]; exact h4, rfl, rfl⟩
      · rintro ⟨q, h4, rfl, rfl⟩
        exact ⟨q, by unfold updL at h4; rw [if_neg (fun e => he (by rw [e]))] at h4; exact h4, rfl, rfl⟩
  · unfold updL at hq
    by_cases e1 : q = p
    · subst e1; exact hn
    · rw [if_neg e1] at hq; exact h3 q hq
theorem LooseIs.drop {n : Nat} {loose : Nat → Bool} {ty : TypeId} (h : LooseIs w L n loose) {p : Nat} (hp : p < 4294967296) :
    ∃ w', (Builtin.delete_ #[65, 77] ty #[.map (some L), pv p]).run Try.prog w = .ok (.tuple #[]) w' ∧ LooseIs w' L n (updL loose p false) ∧ Turns w w' [L] := by
  obtain ⟨⟨m, f, h1, h2⟩, h3⟩ := h
  obtain ⟨w', hr, hm, hg⟩ := h1.delete (ty := ty) spotKeyed spotL_under (spot_key (small_R64 hp))
  refine ⟨w', hr, ⟨⟨_, _, hm, fun key v => ?_⟩, fun q hq => ?_⟩, Turns.of_grown hg⟩
  · by_cases he : key = pv p
    · subst he
      rw [updK_same]
      constructor
      · intro e; cases e
      · rintro ⟨q, h4, h5, rfl⟩
        have := pv_inj h5
        obtain rfl : p = q := by omega
        simp [updL] at h4
    · rw [updK_ne _ _ _ he, h2]
      constructor
      · rintro ⟨q, h4, rfl, rfl⟩
        exact ⟨q, by unfold updL; rw [if_neg (fun e => he (by rw [e]))]; exact h4, rfl, rfl⟩
      · rintro ⟨q, h4, rfl, rfl⟩
        exact ⟨q, by unfold updL at h4; rw [if_neg (fun e => he (by rw [e]))] at h4; exact h4, rfl, rfl⟩
  · unfold updL at hq
    by_cases e1 : q = p
    · rw [if_pos e1] at hq; cases hq
    · rw [if_neg e1] at hq; exact h3 q hq
theorem Levels_any (h : CrIs w B C H L v4 v5 S) : Calls Try.prog 18 #[.pointer (some ⟨C, 0, none⟩)] w fun e w' => e = .returned (.int .i64 (S.groups.length + 1 : Nat)) ∧ w = w' := by
  obtain ⟨_, _, _, _, c4, _⟩ := h.cells
  have hf := h.few.1
  obtain ⟨vs, ho, _⟩ := h.grs
  obtain ⟨A, c, rfl, _, _⟩ := own_shape ho
  generalize S.groups.length = g at *
  have hw : IntKind.i64.wrap ((g : Int) + 1) = ((g + 1 : Nat) : Int) := by rw [IntKind.wrap_i64]; omega
  clear h ho
  go_enter Try.func18, Try.ntmps18
  go_wp2
  go_ret
  exact ⟨by simp, rfl⟩
theorem Loose_any (h : CrIs w B C H L v4 v5 S) (p : Int) : Calls Try.prog 21 #[.pointer (some ⟨C, 0, none⟩), .int .i64 p] w fun e w' => (∃ v, e = .returned v) ∧ CrIs w' B C H L v4 v5 { S with loose := fun q => S.loose q || (decide (0 ≤ p ∧ p < S.n) && decide (q = p.toNat)) } ∧ Turns w w' [L] := by
  obtain ⟨c0, _, _, c3, _, _⟩ := h.cells
  have HTh := Lib.hid (there_any C S.n p w c0)
  have hn := h.n
  have HH := Lib.hid h
  by_cases hp : 0 ≤ p ∧ p < S.n
  · rw [decide_eq_true hp] at HTh
    obtain ⟨q, rfl⟩ := Int.eq_ofNat_of_zero_le hp.1
    obtain ⟨w', hr, hl, ht⟩ := h.loose.set (p := q) (by omega) (by omega)
    have HX : Hid (CrIs w' B C H L v4 v5 { S with loose := fun x => S.loose x || (decide (0 ≤ (q : Int) ∧ (q : Int) < S.n) && decide (x = (q : Int).toNat)) } ∧ Turns w w' [L]) := by
      refine ⟨h.putL ht ?_, ht⟩
      have e : (fun x => S.loose x || (decide (0 ≤ (q : Int) ∧ (q : Int) < S.n) && decide (x = (q : Int).toNat))) = updL S.loose q true := by
        funext x
        unfold updL
        rw [decide_eq_true hp]
        by_cases hx : x = q <;> simp [hx]
      rw [e]; exact hl
    clear hl ht h hp hn c0
    go_enter Try.func21, Try.ntmps21
    go_wp2_with fail
    refine HTh.out.mono ?_
    rintro e w1 ⟨rfl, rfl⟩
    clear HTh
    go_wp2
    go_end0
    exact ⟨⟨_, rfl⟩, HX.out⟩
  · rw [decide_eq_false hp] at HTh ⊢
    have HX : Hid (CrIs w B C H L v4 v5 { S with loose := fun x => S.loose x || (false && decide (x = p.toNat)) } ∧ Turns w w [L]) := by
      refine ⟨?_, Turns.refl _ _⟩
      have e : (fun x => S.loose x || (false && decide (x = p.toNat))) = S.loose := by funext x; simp
      rw [e]; exact h
    clear h hp hn c0 c3
    go_enter Try.func21, Try.ntmps21
    go_wp2_with fail
    refine HTh.out.mono ?_
    rintro e w1 ⟨rfl, rfl⟩
    clear HTh
    go_wp2
    go_end0
    exact ⟨⟨_, rfl⟩, HX.out⟩
theorem Flight_any (h : CrIs w B C H L v4 v5 S) (A : Option Addr) (c : Nat) (its : List Ws) (hlen : its.length ≤ 3518437208883) (hW : Writes w A its) : Calls Try.prog 15 #[.pointer (some ⟨C, 0, none⟩), .slice A its.length c] w fun e w' => (∃ v, e = .returned v) ∧ (∃ v, CrIs w' B C H L v4 v { S with fly := rightL S.n S.sz its }) ∧ Turns w w' [C] := by
  obtain ⟨c0, c1, _, _, _, _⟩ := h.cells
  have HR := Lib.hid (right_any C S.n S.sz A c its hlen h.sz.2 w hW c0 c1)
  have HX : Hid (∀ w1 v, Below w.heap.size w w1 → WrsIs w1 w.heap.size v (rightL S.n S.sz its) → (w1.frozen? ⟨C, 5, none⟩ = false ∧ w1.cell? ⟨C, 5, none⟩ = some v5) ∧ CrIs (w1.setCell ⟨C, 5, none⟩ v) B C H L v4 v { S with fly := rightL S.n S.sz its } ∧ Turns w (w1.setCell ⟨C, 5, none⟩ v) [C]) := fun w1 v hb hv => by
    have h1 := h.below hb
    exact ⟨⟨h1.row.frozen 5, h1.cells.2.2.2.2.2⟩, h1.put5 (hv.mono (Nat.le_of_lt h.lt)) (rightL_ok _ _ hW) (Nat.le_trans (rightL_le _ _ _) hlen), (Turns.of_below hb _).setCell (by simp) v⟩
  generalize its.length = ln at *
  clear h hW c0 c1
  go_enter Try.func15, Try.ntmps15
  go_wp2_with fail
  refine HR.out.mono ?_
  rintro e w1 ⟨v, rfl, hv, hb⟩
  obtain ⟨n1, A1, c1, rfl⟩ := hv.shape
  obtain ⟨⟨fz, c5⟩, hx⟩ := HX.out w1 _ hb hv
  have HX1 := Lib.hid hx
  clear HR HX hv hb hx
  go_wp2
  go_end0
  exact ⟨⟨_, rfl⟩, ⟨_, HX1.out.1⟩, HX1.out.2⟩
end
end Go.Proofs.Ytomigaldomiefaa
