/- CrashHonest: a list of bytes per place that is written; its closure put. -/
import Derived.Test.YtomigaldomiefaaCrHonestP
import Derived.Test.YtomigaldomiefaaCrReader
namespace Go.Proofs.Ytomigaldomiefaa
open Go.RowKit Go.Shelf Go.MapKept Go.ChangeMaps
attribute [local go_sem] Oper.semAt_some
attribute [local simp, local go_sem] wide_fn
set_option linter.unusedVariables false
set_option linter.unusedSimpArgs false

/-- Lists of bytes, one per place, in a row of their own; none of it in some blocks. -/
structure BufIs (w : World) (X n : Nat) (T : List Nat) (h : Nat → List Nat) : Prop where
  row : ∃ cs : Array Value, Row w X 22 cs ∧ cs.size = n ∧ ∀ p, p < n → ∃ A c, cs[p]? = some (.slice A (h p).length c) ∧ Cells8 w A (h p) ∧ ∀ a, A = some a → a.block ∉ X :: T
  free : X ∉ T
section
variable {w w' : World} {X n : Nat} {T : List Nat} {h : Nat → List Nat}
theorem BufIs.turns {T' : List Nat} (hb : BufIs w X n T h) (ht : Turns w w' T') (hs : ∀ x ∈ T', x ∈ T) : BufIs w' X n T h := by
  obtain ⟨⟨cs, h1, h2, h3⟩, h4⟩ := hb
  refine ⟨⟨cs, ht.row h1 (fun hm => h4 (hs X hm)), h2, fun p hp => ?_⟩, h4⟩
  obtain ⟨A, c, h5, h6, h7⟩ := h3 p hp
  refine ⟨A, c, h5, fun i hi => ?_, h7⟩
  obtain ⟨b, off, e, hc⟩ := h6 i hi
  exact ⟨b, off, e, ht.cell hc (fun hm => h7 _ e (List.mem_cons_of_mem _ (hs _ hm)))⟩
theorem BufIs.below (hb : BufIs w X n T h) (hw : Below w.heap.size w w') : BufIs w' X n T h := hb.turns (Turns.of_below hw []) (by simp)
theorem BufIs.at (hb : BufIs w X n T h) {p : Nat} (hp : p < n) : ∃ A c, w.cell? ⟨X, p, none⟩ = some (.slice A (h p).length c) ∧ Cells8 w A (h p) := by
  obtain ⟨⟨cs, h1, h2, h3⟩, h4⟩ := hb
  obtain ⟨A, c, h5, h6, _⟩ := h3 p hp
  exact ⟨A, c, by rw [h1.cell]; exact h5, h6⟩
theorem BufIs.frozen (hb : BufIs w X n T h) (p : Nat) : w.frozen? ⟨X, p, none⟩ = false := by
  obtain ⟨⟨cs, h1, _⟩, _⟩ := hb
  exact h1.frozen p
theorem BufIs.put (hb : BufIs w X n T h) {p : Nat} (hp : p < n) {A : Option Addr} {c : Nat} {l : List Nat} (hl : Cells8 w A l) (hA : ∀ a, A = some a → a.block ∉ X :: T) :
    BufIs (w.setCell ⟨X, p, none⟩ (.slice A l.length c)) X n T (fun q => if q = p then l else h q) := by
  obtain ⟨⟨cs, h1, h2, h3⟩, h4⟩ := hb
  have keep : ∀ (A : Option Addr) (l : List Nat) (u : Value), Cells8 w A l → (∀ a, A = some a → a.block ∉ X :: T) → Cells8 (w.setCell ⟨X, p, none⟩ u) A l := fun A l u hl hA i hi => by
    obtain ⟨b, off, e, hc⟩ := hl i hi
    have hbx : b ≠ X := fun e2 => hA _ e (by rw [e2]; simp)
    exact ⟨b, off, e, ((Turns.refl w [X]).setCell (p := ⟨X, p, none⟩) (by simp) u).cell hc (by simpa using hbx)⟩
  refine ⟨⟨cs.set p (.slice A l.length c) (by omega), ?_, by simp [h2], fun q hq => ?_⟩, h4⟩
  · have := h1.put p (.slice A l.length c)
    rw [Array.setIfInBounds_def, dif_pos (by omega)] at this
    exact this
  · by_cases e : q = p
    · subst e
      rw [if_pos rfl]
      exact ⟨A, c, by simp, keep A l _ hl hA, hA⟩
    · obtain ⟨A', c', h5, h6, h7⟩ := h3 q hq
      rw [if_neg e]
      exact ⟨A', c', by rw [Array.getElem?_set_ne _ (Ne.symm e)]; exact h5, keep A' (h q) _ h6 h7, h7⟩
theorem BufIs.reads (hb : BufIs w X n T h) : RdsAt w (some ⟨X, 0, none⟩) ((List.range n).map h) := fun i d hd => by
  rw [List.getElem?_map] at hd
  cases hr : (List.range n)[i]? with
  | none => rw [hr] at hd; cases hd
  | some j =>
    rw [hr] at hd
    injection hd with hd
    obtain ⟨hi, e⟩ := List.getElem?_eq_some_iff.1 hr
    rw [List.length_range] at hi
    rw [List.getElem_range] at e
    subst e; subst hd
    obtain ⟨A, c, h1, h2⟩ := hb.at hi
    exact ⟨X, 0, A, c, rfl, by rw [Nat.zero_add]; exact h1, h2⟩
end
theorem rdOf_range (n : Nat) (h : Nat → List Nat) (p : Nat) (hp : p < n) : rdOf ((List.range n).map h) p = h p := by
  unfold rdOf
  rw [List.getD_eq_getElem?_getD, List.getElem?_map, List.getElem?_range hp]; rfl
set_option maxRecDepth 100000 in
set_option maxHeartbeats 2000000 in
theorem put_any (X n Zn Zh : Nat) (T : List Nat) (h : Nat → List Nat) (x : Ws) (w : World) (hb : BufIs w X n T h) (z1 : w.cell? ⟨Zn, 0, none⟩ = some (.int .i64 n)) (z2 : w.cell? ⟨Zh, 0, none⟩ = some (.slice (some ⟨X, 0, none⟩) n n)) (hx : Cells8 w x.A x.l) (hA : 0 < x.l.length → ∀ a, x.A = some a → a.block ∉ X :: T) :
    Calls Try.prog 13 #[.agg #[.int .i64 x.a, .int .i64 x.s, .slice x.A x.l.length x.c], .pointer (some ⟨Zn, 0, none⟩), .pointer (some ⟨Zh, 0, none⟩)] w fun e w' => (∃ v, e = .returned v) ∧ BufIs w' X n T (putH n h x) ∧ Turns w w' [X] := by
  obtain ⟨xa, xs, xA, xc, xl⟩ := x
  simp only at hx hA ⊢
  obtain ⟨w1, hw1⟩ : ∃ w1, w1 = w.alloc (.cells #[.int .i64 xa, .int .i64 xs, .slice xA xl.length xc] 30) := ⟨_, rfl⟩
  have HB1 : Hid (Below w.heap.size w w1) := by unfold Hid; rw [hw1]; (repeat (first | (with_reducible refine Below.drew ?_) | (with_reducible refine below_drewN0 ?_ _) | ((with_reducible refine Below.setCell ?_ ?_ _); rotate_left; focus (first | omega | (simp; done) | (simp; omega) | (simp at *; omega))) | ((with_reducible refine Below.alloc ?_ ?_ _); rotate_left; focus (first | omega | (simp; done) | (simp; omega) | (simp at *; omega))) | (with_reducible exact Below.refl _ _)))
  have HR1 : Hid (Row w1 w.heap.size 30 #[.int .i64 xa, .int .i64 xs, .slice xA xl.length xc]) := by unfold Hid; rw [hw1]; exact Row.fresh _ _ _
  have HBf := Lib.hid (hb.below HB1.out)
  have HX := Lib.hid (hx.keep (keep_below HB1.out))
  have HA := Lib.hid hA
  have HW1 := Lib.hid hw1
  have z1' := keep_below HB1.out _ _ z1
  have z2' := keep_below HB1.out _ _ z2
  have r1 := HR1.out.cell 1
  have r2 := HR1.out.cell 2
  simp only [List.getElem?_toArray, List.getElem?_cons_zero, List.getElem?_cons_succ] at r1 r2
  obtain ⟨m, hm⟩ : ∃ m, m = xl.length := ⟨_, rfl⟩
  have HM := Lib.hid hm
  have HNo : Hid (¬ (0 ≤ xs ∧ xs < (n : Int) ∧ m = 2) → putH n h ⟨xa, xs, xA, xc, xl⟩ = h) := fun hc => by
    funext p
    unfold putH
    rw [if_neg (fun h2 => hc ⟨h2.1.1, h2.1.2.1, by rw [hm]; exact h2.1.2.2⟩)]
  rw [← hm] at r2 HW1 ⊢
  clear hb hx hA hw1 z1 z2 hm
  by_cases q1 : 0 ≤ xs
  · by_cases q2 : xs < (n : Int)
    · by_cases q3 : m = 2
      · have HS : Hid (putH n h ⟨xa, xs, xA, xc, xl⟩ = fun q => if q = xs.toNat then xl else h q) := by
          funext p
          unfold putH
          by_cases e : p = xs.toNat
          · rw [if_pos ⟨⟨q1, q2, by rw [← HM.out]; exact q3⟩, e⟩, if_pos e]
          · rw [if_neg (fun h2 => e h2.2), if_neg e]
        obtain ⟨s, rfl⟩ := Int.eq_ofNat_of_zero_le q1
        have hs : s < n := by omega
        obtain ⟨A0, c0, y1, _⟩ := HBf.out.at hs
        have y2 := HBf.out.frozen s
        have HBp := HBf.out.put hs (c := xc) HX.out (fun a e => by
          exact HA.out (by rw [← HM.out]; omega) a e)
        rw [← HM.out] at HBp
        have HBp := Lib.hid HBp
        have HT : Hid (Turns w (w1.setCell ⟨X, s, none⟩ (.slice xA m xc)) [X]) := (Turns.of_below HB1.out [X]).setCell (by simp) _
        generalize (h s).length = hl at *
        subst q3
        rw [HW1.out] at z1' z2' r1 r2 y1 y2
        go_enter Try.func13, Try.ntmps13
        go_wp2
        go_end0
        rw [← HW1.out]
        exact ⟨⟨_, rfl⟩, by rw [HS.out]; exact HBp.out, HT.out⟩
      · have HE := Lib.hid (HNo.out (fun h => q3 h.2.2))
        have q4 : ¬ (m : Int) = 2 := by omega
        rw [HW1.out] at z1' z2' r1 r2
        go_enter Try.func13, Try.ntmps13
        go_wp2
        go_end0
        rw [← HW1.out]
        exact ⟨⟨_, rfl⟩, by rw [HE.out]; exact HBf.out, Turns.of_below HB1.out _⟩
    · have HE := Lib.hid (HNo.out (fun h => q2 h.2.1))
      rw [HW1.out] at z1' z2' r1 r2
      go_enter Try.func13, Try.ntmps13
      go_wp2
      go_end0
      rw [← HW1.out]
      exact ⟨⟨_, rfl⟩, by rw [HE.out]; exact HBf.out, Turns.of_below HB1.out _⟩
  · have HE := Lib.hid (HNo.out (fun h => q1 h.1))
    rw [HW1.out] at z1' z2' r1 r2
    go_enter Try.func13, Try.ntmps13
    go_wp2
    go_end0
    rw [← HW1.out]
    exact ⟨⟨_, rfl⟩, by rw [HE.out]; exact HBf.out, Turns.of_below HB1.out _⟩
end Go.Proofs.Ytomigaldomiefaa
