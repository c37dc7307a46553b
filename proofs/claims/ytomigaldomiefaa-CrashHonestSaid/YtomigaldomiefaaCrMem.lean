/- crash: what a state is in memory. -/
import Derived.Test.YtomigaldomiefaaCrArg
namespace Go.Proofs.Ytomigaldomiefaa
open Go.RowKit Go.MapKept Go.ChangeMaps
open Go.Maps (Keyed)
set_option linter.unusedVariables false
set_option linter.unusedSimpArgs false

theorem wrsV_one (l : List Ws) : ∀ u ∈ wrsV l, u.oneCell' = true := by
  intro u hu
  obtain ⟨x, _, hx⟩ := List.mem_flatMap.1 hu
  simp [Ws.wr] at hx
  rcases hx with rfl | rfl | rfl <;> rfl
theorem wrsV_length (l : List Ws) : (wrsV l).length = l.length * 3 := by
  induction l with
  | nil => rfl
  | cons x l ih => unfold wrsV at ih ⊢; rw [List.flatMap_cons, List.length_append, ih, List.length_cons]; simp [Ws.wr]; omega
theorem wrsV_get : ∀ (l : List Ws) (i j : Nat) (x : Ws) (u : Value), l[i]? = some x → x.wr[j]? = some u → (wrsV l)[i * 3 + j]? = some u
  | y :: l, 0, j, x, u, hx, hu => by
    simp at hx; subst hx
    unfold wrsV
    rw [List.flatMap_cons, List.getElem?_append_left (by have := (List.getElem?_eq_some_iff.1 hu).1; omega)]
    simpa using hu
  | y :: l, i + 1, j, x, u, hx, hu => by
    have := wrsV_get l i j x u (by simpa using hx) hu
    unfold wrsV at this ⊢
    rw [List.flatMap_cons, List.getElem?_append_right (by simp [Ws.wr]; omega)]
    rw [← this]; congr 1; simp [Ws.wr]; omega
abbrev Ws.key (x : Ws) : Wr := (x.s.toNat, x.l)
/-- No row but a state's is turned. -/
def Lone (w : World) (T : List Nat) : Prop := ∀ g ty cs, Row w g ty cs → ty ≠ 67 → g ∉ T
/-- Writes of a state's own. -/
def WrsIs (w : World) (B : Nat) (v : Value) (l : List Wr) : Prop :=
  ∃ its : List Ws, l = its.map Ws.key ∧ w.ownsRow B 30 3 v its.length (wrsV its) ∧ ∀ x ∈ its, x.a = 0 ∧ 0 ≤ x.s ∧ DatIs w B (.slice x.A x.l.length x.c) x.l
/-- Groups of a state's own. -/
def GrsIs (w : World) (B : Nat) (v : Value) (gs : List (List Wr)) : Prop :=
  ∃ vs : List Value, w.ownsRow B 23 1 v gs.length vs ∧ ∀ (i : Nat) (g : List Wr), gs[i]? = some g → ∃ u, vs[i]? = some u ∧ WrsIs w B u g
section
variable {w w' : World} {B : Nat} {T : List Nat}
theorem own_lone {e : TypeId} {size : Nat} {v : Value} {n : Nat} {xs : List Value} (he : e ≠ 67) (h : w.ownsRow B e size v n xs) (ht : Turns w w' T) (hT : Lone w T) : w'.ownsRow B e size v n xs :=
  ht.own h fun g hg => by
    rcases h.2 with ⟨e1, _⟩ | ⟨g', cap, cur, e1, _, h1, _⟩
    · rw [e1] at hg; cases hg
    · rw [e1] at hg
      obtain rfl : g' = g := by simpa [Value.ownBlock] using hg
      exact hT g' e cur h1 he
theorem DatIs.lone {v : Value} {l : List Nat} (h : DatIs w B v l) (ht : Turns w w' T) (hT : Lone w T) : DatIs w' B v l := ⟨h.small, h.short, own_lone (by decide) h.own ht hT⟩
theorem WrsIs.lone {v : Value} {l : List Wr} (h : WrsIs w B v l) (ht : Turns w w' T) (hT : Lone w T) : WrsIs w' B v l := by
  obtain ⟨its, h1, h2, h3⟩ := h
  exact ⟨its, h1, own_lone (by decide) h2 ht hT, fun x hx => ⟨(h3 x hx).1, (h3 x hx).2.1, (h3 x hx).2.2.lone ht hT⟩⟩
theorem GrsIs.lone {v : Value} {l : List (List Wr)} (h : GrsIs w B v l) (ht : Turns w w' T) (hT : Lone w T) : GrsIs w' B v l := by
  obtain ⟨vs, h1, h2⟩ := h
  exact ⟨vs, own_lone (by decide) h1 ht hT, fun i g hg => by obtain ⟨u, h3, h4⟩ := h2 i g hg; exact ⟨u, h3, h4.lone ht hT⟩⟩
theorem lone_nil (w : World) : Lone w [] := fun _ _ _ _ _ h => by cases h
theorem WrsIs.mono {B' : Nat} {v : Value} {l : List Wr} (h : WrsIs w B v l) (hb : B' ≤ B) : WrsIs w B' v l := by
  obtain ⟨its, h1, h2, h3⟩ := h
  exact ⟨its, h1, own_mono h2 hb, fun x hx => ⟨(h3 x hx).1, (h3 x hx).2.1, (h3 x hx).2.2.small, (h3 x hx).2.2.short, own_mono (h3 x hx).2.2.own hb⟩⟩
theorem GrsIs.mono {B' : Nat} {v : Value} {l : List (List Wr)} (h : GrsIs w B v l) (hb : B' ≤ B) : GrsIs w B' v l := by
  obtain ⟨vs, h1, h2⟩ := h
  exact ⟨vs, own_mono h1 hb, fun i g hg => by obtain ⟨u, h3, h4⟩ := h2 i g hg; exact ⟨u, h3, h4.mono hb⟩⟩
theorem WrsIs.nil (w : World) (B : Nat) : WrsIs w B (.slice none 0 0) [] := ⟨[], rfl, World.ownsRow_nil _ _ _ _, by simp⟩
theorem GrsIs.nil (w : World) (B : Nat) : GrsIs w B (.slice none 0 0) [] := ⟨[], World.ownsRow_nil _ _ _ _, by simp⟩
end
/-- What lasts, as a map. -/
def HasIs (w : World) (H n sz : Nat) (has : Nat → Option (List Nat)) : Prop :=
  (∃ m f, MapIs Try.prog 77 w H m f ∧ ∀ key v, f key = some v ↔ ∃ (p : Nat) (d : List Nat), has p = some d ∧ key = pv p ∧ v = .string (textOf d)) ∧ ∀ p d, has p = some d → p < n ∧ d.length = sz ∧ ∀ u ∈ d, u < 256
/-- What is loose, as a map. -/
def LooseIs (w : World) (L n : Nat) (loose : Nat → Bool) : Prop :=
  (∃ m f, MapIs Try.prog 77 w L m f ∧ ∀ key v, f key = some v ↔ ∃ p : Nat, loose p = true ∧ key = pv p ∧ v = .bool true) ∧ ∀ p, loose p = true → p < n
def OkL (n sz : Nat) (l : List Wr) : Prop := ∀ x ∈ l, x.1 < n ∧ x.2.length = sz ∧ ∀ u ∈ x.2, u < 256
/-- A state in memory. -/
structure CrIs (w : World) (B C H L : Nat) (v4 v5 : Value) (S : Cr) : Prop where
  row : Row w C 67 #[.int .i64 S.n, .int .i64 S.sz, .map (some H), .map (some L), v4, v5]
  has : HasIs w H S.n S.sz S.has
  loose : LooseIs w L S.n S.loose
  grs : GrsIs w B v4 S.groups
  fly : WrsIs w B v5 S.fly
  low : B ≤ C ∧ B ≤ H ∧ B ≤ L
  ne : H ≠ L
  n : 1 ≤ S.n ∧ S.n < 4294967296
  sz : 1 ≤ S.sz ∧ S.sz ≤ 65536
  okG : ∀ g ∈ S.groups, OkL S.n S.sz g
  okF : OkL S.n S.sz S.fly
  few : S.groups.length ≤ 1048576 ∧ (∀ g ∈ S.groups, g.length ≤ 3518437208883) ∧ S.fly.length ≤ 3518437208883
section
variable {w w' : World} {B C H L : Nat} {v4 v5 : Value} {S : Cr} {T : List Nat}
theorem HasIs.lt {n sz : Nat} {has : Nat → Option (List Nat)} (h : HasIs w H n sz has) : H < w.heap.size := by obtain ⟨⟨m, f, h, _⟩, _⟩ := h; exact h.lt
theorem LooseIs.lt {n : Nat} {loose : Nat → Bool} (h : LooseIs w L n loose) : L < w.heap.size := by obtain ⟨⟨m, f, h, _⟩, _⟩ := h; exact h.lt
theorem HasIs.not_row {n sz : Nat} {has : Nat → Option (List Nat)} (h : HasIs w H n sz has) (ty : TypeId) (cs : Array Value) : ¬ Row w H ty cs := fun hr => by
  obtain ⟨⟨m, f, ⟨es, clock, hb, _⟩, _⟩, _⟩ := h
  unfold Row at hr
  rw [hb] at hr
  cases hr
theorem LooseIs.not_row {n : Nat} {loose : Nat → Bool} (h : LooseIs w L n loose) (ty : TypeId) (cs : Array Value) : ¬ Row w L ty cs := fun hr => by
  obtain ⟨⟨m, f, ⟨es, clock, hb, _⟩, _⟩, _⟩ := h
  unfold Row at hr
  rw [hb] at hr
  cases hr
theorem HasIs.turns {n sz : Nat} {has : Nat → Option (List Nat)} (h : HasIs w H n sz has) (ht : Turns w w' T) (hn : H ∉ T) : HasIs w' H n sz has := by
  obtain ⟨⟨m, f, h1, h2⟩, h3⟩ := h
  exact ⟨⟨m, f, h1.turns ht hn, h2⟩, h3⟩
theorem LooseIs.turns {n : Nat} {loose : Nat → Bool} (h : LooseIs w L n loose) (ht : Turns w w' T) (hn : L ∉ T) : LooseIs w' L n loose := by
  obtain ⟨⟨m, f, h1, h2⟩, h3⟩ := h
  exact ⟨⟨m, f, h1.turns ht hn, h2⟩, h3⟩
theorem CrIs.lone (h : CrIs w B C H L v4 v5 S) : Lone w [C, H, L] := fun g ty cs hr hne hm => by
  rcases List.mem_cons.1 hm with rfl | hm
  · exact Row.ne_type hr h.row hne rfl
  rcases List.mem_cons.1 hm with rfl | hm
  · exact h.has.not_row _ _ hr
  · exact h.loose.not_row ty cs (List.mem_singleton.1 hm ▸ hr)
/-- What is no state's block has turned. -/
theorem CrIs.keep (h : CrIs w B C H L v4 v5 S) (ht : Turns w w' []) : CrIs w' B C H L v4 v5 S :=
  ⟨ht.row h.row (by simp), h.has.turns ht (by simp), h.loose.turns ht (by simp), h.grs.lone ht (lone_nil w), h.fly.lone ht (lone_nil w), h.low, h.ne, h.n, h.sz, h.okG, h.okF, h.few⟩
theorem CrIs.below (h : CrIs w B C H L v4 v5 S) (hb : Below w.heap.size w w') : CrIs w' B C H L v4 v5 S := h.keep (Turns.of_below hb [])
theorem CrIs.drewN (h : CrIs w B C H L v4 v5 S) (k : Nat) : CrIs (w.drewN k) B C H L v4 v5 S := h.keep ((Turns.refl w []).drewN k)
theorem CrIs.cells (h : CrIs w B C H L v4 v5 S) : w.cell? ⟨C, 0, none⟩ = some (.int .i64 S.n) ∧ w.cell? ⟨C, 1, none⟩ = some (.int .i64 S.sz) ∧ w.cell? ⟨C, 2, none⟩ = some (.map (some H)) ∧ w.cell? ⟨C, 3, none⟩ = some (.map (some L)) ∧ w.cell? ⟨C, 4, none⟩ = some v4 ∧ w.cell? ⟨C, 5, none⟩ = some v5 :=
  ⟨h.row.cell 0, h.row.cell 1, h.row.cell 2, h.row.cell 3, h.row.cell 4, h.row.cell 5⟩
end
/-- Those that may be. -/
def rightL (n sz : Nat) (its : List Ws) : List Wr := (its.filter fun x => decide (0 ≤ x.s ∧ x.s < (n : Int) ∧ x.l.length = sz)).map Ws.key
theorem Wide_any (n sz : Nat) (hn : 1 ≤ n ∧ n < 4294967296) (hs : 1 ≤ sz ∧ sz ≤ 65536) (w : World) :
    Calls Try.prog 33 #[.int .i64 n, .int .i64 sz] w fun e w' => ∃ C H L, e = .returned (.pointer (some ⟨C, 0, none⟩)) ∧ CrIs w' w.heap.size C H L (.slice none 0 0) (.slice none 0 0) (cr0 n sz) ∧ Below w.heap.size w w' := by
  have hmm := @run_makeMap Try.prog
  go_enter Try.func33, Try.ntmps33
  go_wp2
  clear hmm
  go_ret
  refine ⟨_, w.heap.size, w.heap.size + 1, rfl, ⟨?_, ⟨⟨0, fun _ => none, ?_, by simp [cr0]⟩, by simp [cr0]⟩, ⟨⟨0, fun _ => none, ?_, by simp [cr0]⟩, by simp [cr0]⟩, GrsIs.nil _ _, WrsIs.nil _ _, by simp; omega, by simp, hn, hs, by simp [cr0], by simp [cr0, OkL], by simp [cr0]⟩, by (repeat (first | (with_reducible refine Below.drew ?_) | (with_reducible refine below_drewN0 ?_ _) | ((with_reducible refine Below.setCell ?_ ?_ _); rotate_left; focus (first | omega | (simp; done) | (simp; omega) | (simp at *; omega))) | ((with_reducible refine Below.alloc ?_ ?_ _); rotate_left; focus (first | omega | (simp; done) | (simp; omega) | (simp at *; omega))) | (with_reducible exact Below.refl _ _)))⟩
  · have h1 := Row.fresh ((w.alloc (.map #[] 0)).alloc (.map #[] 0)) 67 #[.int .i64 n, .int .i64 sz, .map (some w.heap.size), .map (some (w.heap.size + 1)), .slice none 0 0, .slice none 0 0]
    rw [World.size_alloc, World.size_alloc] at h1
    exact h1
  · have h1 := MapIs.fresh Try.prog 77 w
    have h2 := h1.turns (((Turns.refl _ []).alloc (.map #[] 0))) (by simp)
    exact h2.turns ((Turns.refl _ []).alloc _) (by simp)
  · have h1 := MapIs.fresh Try.prog 77 (w.alloc (.map #[] 0))
    rw [World.size_alloc] at h1
    exact h1.turns ((Turns.refl _ []).alloc _) (by simp)
theorem New_yes (n sz : Nat) (hn : 1 ≤ n ∧ n ≤ 16384) (hs : 1 ≤ sz ∧ sz ≤ 512) (w : World) :
    Calls Try.prog 9 #[.int .i64 n, .int .i64 sz] w fun e w' => ∃ C H L, e = .returned (.tuple #[.pointer (some ⟨C, 0, none⟩), .int .i64 0]) ∧ CrIs w' w.heap.size C H L (.slice none 0 0) (.slice none 0 0) (cr0 n sz) ∧ Below w.heap.size w w' := by
  have HW := Lib.hid (Wide_any n sz ⟨hn.1, by omega⟩ ⟨hs.1, by omega⟩ w)
  have h1 : ¬ (n : Int) < 1 := by omega
  have h2 : ¬ (n : Int) > 16384 := by omega
  have h3 : ¬ (sz : Int) < 1 := by omega
  have h4 : ¬ (sz : Int) > 512 := by omega
  clear hn hs
  go_enter Try.func9, Try.ntmps9
  go_wp2_with fail
  refine HW.out.mono ?_
  rintro e w1 ⟨C, H, L, rfl, hc, hb⟩
  have HC := Lib.hid hc
  have HB := Lib.hid hb
  clear HW hc hb
  go_wp2
  go_ret2
  exact ⟨C, H, L, rfl, HC.out, HB.out⟩
theorem there_any (C n : Nat) (p : Int) (w : World) (hc : w.cell? ⟨C, 0, none⟩ = some (.int .i64 n)) : Calls Try.prog 41 #[.pointer (some ⟨C, 0, none⟩), .int .i64 p] w fun e w' => e = .returned (.bool (decide (0 ≤ p ∧ p < n))) ∧ w = w' := by
  have e1 : ¬ 0 ≤ p → decide (0 ≤ p ∧ p < (n : Int)) = false := fun h => decide_eq_false (by omega)
  have e2 : 0 ≤ p → p < n → decide (0 ≤ p ∧ p < (n : Int)) = true := fun h h' => decide_eq_true ⟨h, h'⟩
  have e3 : ¬ p < n → decide (0 ≤ p ∧ p < (n : Int)) = false := fun h => decide_eq_false (by omega)
  by_cases h0 : p ≥ 0
  · by_cases h1 : p < n
    · rw [e2 h0 h1]
      clear e1 e2 e3
      go_enter Try.func41, Try.ntmps41
      go_wp2
      go_ret
      exact ⟨by simp, rfl⟩
    · rw [e3 h1]
      clear e1 e2 e3
      go_enter Try.func41, Try.ntmps41
      go_wp2
      go_ret
      exact ⟨by simp, rfl⟩
  · rw [e1 (by omega)]
    clear e1 e2 e3
    go_enter Try.func41, Try.ntmps41
    go_wp2
    go_ret
    exact ⟨rfl, rfl⟩
end Go.Proofs.Ytomigaldomiefaa
