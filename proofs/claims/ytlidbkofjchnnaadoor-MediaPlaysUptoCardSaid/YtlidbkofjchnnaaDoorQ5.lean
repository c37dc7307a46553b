/- What follows is laid together from several texts of mine, in their order. -/
import Derived.Test.YtlidbkofjchnnaaDoorQ4

namespace Go.Proofs.YtlidbkofjchnnaaDoor
open Go.RowKit
set_option linter.unusedVariables false
set_option linter.unusedSimpArgs false

/-- A block; a flash. -/
structure Bk where
  pg : Nat → Option (List Nat)
  next : Nat
  half : Bool
  one : Bool
  failed : Bool
structure Fl where
  off : Bool
  armed : Nat
  nb : Nat
  pages : Nat
  chunks : Nat
  b : Nat → Bk
/-- How many pages a block has. -/
def hasOf (pages : Nat) (x : Bk) : Nat := if x.one then pages / 2 else pages
def Fl.has (S : Fl) (k : Nat) : Nat := hasOf S.pages (S.b k)
def bkCells (pages P : Nat) (x : Bk) : List Value := [.slice (some ⟨P, 0, none⟩) pages pages, .int .i64 x.next, .bool x.half, .bool x.one, .bool x.failed]
def PgIs (w : World) (v : Value) : Option (List Nat) → Prop
  | none => v = .slice none 0 0
  | some l => w.ownsRow 0 5 1 v l.length (intsV .u8 l)
/-- A page's bytes, of so many chunks. -/
def Raw (c : Nat) (l : List Nat) : Prop := l.length = 73 * c ∧ ∀ u ∈ l, u < 256
structure WfB (pages chunks : Nat) (x : Bk) : Prop where
  next : x.next ≤ hasOf pages x
  none : ∀ j, x.next ≤ j → x.pg j = none
  raw : ∀ j l, x.pg j = some l → Raw chunks l
structure Fl.Ok (S : Fl) : Prop where
  nb : 1 ≤ S.nb ∧ S.nb ≤ 1024
  pages : 2 ≤ S.pages ∧ S.pages ≤ 256 ∧ S.pages % 2 = 0
  chunks : 1 ≤ S.chunks ∧ S.chunks ≤ 8
  armed : S.armed < 9223372036854775808
  wf : ∀ i, i < S.nb → WfB S.pages S.chunks (S.b i)
structure FlIs (w : World) (B F L : Nat) (P : Nat → Nat) (S : Fl) : Prop where
  hF : B ≤ F
  hL : B ≤ L
  hP : ∀ i, i < S.nb → B ≤ P i
  row : ∃ s p r e : Int, Row w F 42 (fcells S.off S.armed s [.slice (some ⟨L, 0, none⟩) S.nb S.nb, .int .i64 S.pages, .int .i64 S.chunks, .int .i64 p, .int .i64 r, .int .i64 e])
  bl : ∃ cur, Row w L 89 cur ∧ cur.size = S.nb * 5 ∧ ∀ i, i < S.nb → ∀ j v, (bkCells S.pages (P i) (S.b i))[j]? = some v → cur[i * 5 + j]? = some v
  pg : ∀ i, i < S.nb → ∃ cur, Row w (P i) 46 cur ∧ cur.size = S.pages ∧ ∀ j, j < S.pages → ∃ v, cur[j]? = some v ∧ PgIs w v ((S.b i).pg j)
  inj : ∀ i j, i < S.nb → j < S.nb → P i = P j → i = j
  ok : S.Ok
/-- The blocks of memory that a flash may turn. -/
def flS (F L : Nat) (P : Nat → Nat) (n : Nat) : List Nat := F :: L :: (List.range n).map P
section
variable {w : World} {B F L : Nat} {P : Nat → Nat} {S : Fl}
theorem FlIs.cells (h : FlIs w B F L P S) {k : Nat} (hk : k < S.nb) : w.cell? ⟨L, k * 5, none⟩ = some (.slice (some ⟨P k, 0, none⟩) S.pages S.pages) ∧ w.cell? ⟨L, k * 5 + 1, none⟩ = some (.int .i64 (S.b k).next) ∧ w.cell? ⟨L, k * 5 + 2, none⟩ = some (.bool (S.b k).half) ∧ w.cell? ⟨L, k * 5 + 3, none⟩ = some (.bool (S.b k).one) ∧ w.cell? ⟨L, k * 5 + 4, none⟩ = some (.bool (S.b k).failed) := by
  obtain ⟨cur, hr, _, hc⟩ := h.bl
  refine ⟨?_, ?_, ?_, ?_, ?_⟩
  all_goals rw [hr.cell]
  · exact hc k hk 0 _ rfl
  · exact hc k hk 1 _ rfl
  · exact hc k hk 2 _ rfl
  · exact hc k hk 3 _ rfl
  · exact hc k hk 4 _ rfl
theorem FlIs.fcell (h : FlIs w B F L P S) : w.cell? ⟨F, 0, none⟩ = some (.bool S.off) ∧ w.cell? ⟨F, 3, none⟩ = some (.slice (some ⟨L, 0, none⟩) S.nb S.nb) ∧ w.cell? ⟨F, 4, none⟩ = some (.int .i64 S.pages) ∧ w.cell? ⟨F, 5, none⟩ = some (.int .i64 S.chunks) := by
  obtain ⟨s, p, r, e, hr⟩ := h.row
  exact ⟨hr.cell 0, hr.cell 3, hr.cell 4, hr.cell 5⟩
theorem FlIs.keep {w' : World} (h : FlIs w B F L P S) (ht : Turns w w' []) : FlIs w' B F L P S := by
  refine ⟨h.hF, h.hL, h.hP, ?_, ?_, ?_, h.inj, h.ok⟩
  · obtain ⟨s, p, r, e, hr⟩ := h.row
    exact ⟨s, p, r, e, ht.row hr (by simp)⟩
  · obtain ⟨cur, hr, h2⟩ := h.bl
    exact ⟨cur, ht.row hr (by simp), h2⟩
  · intro i hi
    obtain ⟨cur, hr, hs, h2⟩ := h.pg i hi
    refine ⟨cur, ht.row hr (by simp), hs, fun j hj => ?_⟩
    obtain ⟨v, hv, hp⟩ := h2 j hj
    refine ⟨v, hv, ?_⟩
    cases hx : (S.b i).pg j with
    | none => rw [hx] at hp; exact hp
    | some l => rw [hx] at hp; exact ht.own hp (fun g hg => by simp)
theorem block_in (h : FlIs w B F L P S) (k : Nat) (hk : k < S.nb) : Calls Tryd.prog 39 #[.pointer (some ⟨F, 0, none⟩), .int .i64 k] w fun e w' => e = .returned (.pointer (some ⟨L, k * 5, none⟩)) ∧ w = w' := by
  obtain ⟨_, c3, _, _⟩ := h.fcell
  have hn := h.ok.nb
  have hki : (k : Int) < S.nb := by omega
  generalize S.nb = n at *
  clear h
  go_enter Tryd.func39, Tryd.ntmps39
  go_wp2
  go_ret
  exact ⟨by simp, rfl⟩
theorem block_out (h : FlIs w B F L P S) (k : Int) (hk : k < 0 ∨ S.nb ≤ k) : Calls Tryd.prog 39 #[.pointer (some ⟨F, 0, none⟩), .int .i64 k] w fun e w' => e = .returned (.pointer none) ∧ w = w' := by
  obtain ⟨_, c3, _, _⟩ := h.fcell
  have hn := h.ok.nb
  generalize S.nb = n at *
  clear h
  by_cases h0 : k < 0
  · clear hk
    go_enter Tryd.func39, Tryd.ntmps39
    go_wp2
    go_ret
    exact ⟨rfl, rfl⟩
  · have hki : ¬ k < n := by omega
    clear hk
    go_enter Tryd.func39, Tryd.ntmps39
    go_wp2
    go_ret
    exact ⟨rfl, rfl⟩
theorem many_any (h : FlIs w B F L P S) (k : Nat) (hk : k < S.nb) : Calls Tryd.prog 62 #[.pointer (some ⟨F, 0, none⟩), .pointer (some ⟨L, k * 5, none⟩)] w fun e w' => e = .returned (.int .i64 (S.has k : Nat)) ∧ w = w' := by
  obtain ⟨_, _, c4, _⟩ := h.fcell
  obtain ⟨_, _, _, d3, _⟩ := h.cells hk
  have hp := h.ok.pages
  unfold Fl.has hasOf
  generalize S.pages = n at *
  generalize (S.b k).one = o at *
  clear h
  cases o
  · go_enter Tryd.func62, Tryd.ntmps62
    go_wp2
    go_ret
    exact ⟨rfl, rfl⟩
  · obtain ⟨m, hm⟩ : ∃ m, m = n / 2 := ⟨_, rfl⟩
    rw [if_pos rfl, ← hm]
    have hd : (n : Int) / 2 = (m : Int) := by omega
    clear hm
    go_enter Tryd.func62, Tryd.ntmps62
    go_wp2
    go_ret
    exact ⟨rfl, rfl⟩
set_option maxHeartbeats 1000000 in
theorem page_in (h : FlIs w B F L P S) (k : Nat) (hk : k < S.nb) (p : Int) : Calls Tryd.prog 46 #[.pointer (some ⟨F, 0, none⟩), .pointer (some ⟨L, k * 5, none⟩), .int .i64 p] w fun e w' => e = .returned (.bool (decide (0 ≤ p ∧ p < S.has k))) ∧ w = w' := by
  have HM := Lib.hid (many_any h k hk)
  generalize S.has k = n at *
  clear h
  by_cases h0 : p < 0
  · rw [decide_eq_false (by omega)]
    have h0' : ¬ 0 ≤ p := by omega
    clear HM
    go_enter Tryd.func46, Tryd.ntmps46
    go_wp2
    go_ret
    exact ⟨rfl, rfl⟩
  · have h0' : 0 ≤ p := by omega
    by_cases h1 : p < n
    · rw [decide_eq_true (by omega)]
      go_enter Tryd.func46, Tryd.ntmps46
      go_wp2_with fail
      refine HM.out.mono ?_
      rintro e w' ⟨rfl, rfl⟩
      clear HM
      go_wp2
      go_ret
      exact ⟨rfl, rfl⟩
    · rw [decide_eq_false (by omega)]
      go_enter Tryd.func46, Tryd.ntmps46
      go_wp2_with fail
      refine HM.out.mono ?_
      rintro e w' ⟨rfl, rfl⟩
      clear HM
      go_wp2
      go_ret
      exact ⟨by rw [decide_eq_false (by omega)]; rfl, rfl⟩
theorem page_out (F : Nat) (p : Int) (w : World) : Calls Tryd.prog 46 #[.pointer (some ⟨F, 0, none⟩), .pointer none, .int .i64 p] w fun e w' => e = .returned (.bool false) ∧ w = w' := by
  go_enter Tryd.func46, Tryd.ntmps46
  go_wp2
  go_ret
  exact ⟨rfl, rfl⟩
theorem FlOff (h : FlIs w B F L P S) : Calls Tryd.prog 11 #[.pointer (some ⟨F, 0, none⟩)] w fun e w' => e = .returned (.bool S.off) ∧ w = w' := by
  obtain ⟨s, p, r, e, hr⟩ := h.row
  exact Off_any F _ _ _ _ w hr
/-- What there is against changing a block: 4 (down), 1 (no such), 7 (it fails), 0. -/
def mayE (off is failed : Bool) : Nat := if off then 4 else if !is then 1 else if failed then 7 else 0
theorem may_in (h : FlIs w B F L P S) (k : Nat) (hk : k < S.nb) (is : Bool) : Calls Tryd.prog 118 #[.pointer (some ⟨F, 0, none⟩), .pointer (some ⟨L, k * 5, none⟩), .bool is] w fun e w' => e = .returned (.int .i64 (mayE S.off is (S.b k).failed : Nat)) ∧ w = w' := by
  have HO := Lib.hid (FlOff h)
  obtain ⟨_, _, _, _, d4⟩ := h.cells hk
  generalize S.off = o at *
  generalize (S.b k).failed = f at *
  clear h
  cases o <;> cases is <;> cases f
  all_goals
    go_enter Tryd.func118, Tryd.ntmps118
    go_wp2_with fail
    refine HO.out.mono ?_
    rintro e w' ⟨rfl, rfl⟩
    clear HO
    go_wp2
    go_ret
    exact ⟨rfl, rfl⟩
theorem may_out (h : FlIs w B F L P S) : Calls Tryd.prog 118 #[.pointer (some ⟨F, 0, none⟩), .pointer none, .bool false] w fun e w' => e = .returned (.int .i64 (mayE S.off false false : Nat)) ∧ w = w' := by
  have HO := Lib.hid (FlOff h)
  generalize S.off = o at *
  clear h
  cases o
  all_goals
    go_enter Tryd.func118, Tryd.ntmps118
    go_wp2_with fail
    refine HO.out.mono ?_
    rintro e w' ⟨rfl, rfl⟩
    clear HO
    go_wp2
    go_ret
    exact ⟨rfl, rfl⟩
theorem Next_in (h : FlIs w B F L P S) (k : Nat) (hk : k < S.nb) : Calls Tryd.prog 59 #[.pointer (some ⟨F, 0, none⟩), .int .i64 k] w fun e w' => e = .returned (.int .i64 (if (S.b k).half then -1 else ((S.b k).next : Int))) ∧ w = w' := by
  have HB := Lib.hid (block_in h k hk)
  obtain ⟨_, d1, d2, _, _⟩ := h.cells hk
  generalize (S.b k).half = o at *
  generalize (S.b k).next = n at *
  clear h
  cases o
  all_goals
    go_enter Tryd.func59, Tryd.ntmps59
    go_wp2_with fail
    refine HB.out.mono ?_
    rintro e w' ⟨rfl, rfl⟩
    clear HB
    go_wp2
    go_ret
    exact ⟨rfl, rfl⟩
theorem Next_out (h : FlIs w B F L P S) (k : Int) (hk : k < 0 ∨ S.nb ≤ k) : Calls Tryd.prog 59 #[.pointer (some ⟨F, 0, none⟩), .int .i64 k] w fun e w' => e = .returned (.int .i64 (-1)) ∧ w = w' := by
  have HB := Lib.hid (block_out h k hk)
  clear h
  go_enter Tryd.func59, Tryd.ntmps59
  go_wp2_with fail
  refine HB.out.mono ?_
  rintro e w' ⟨rfl, rfl⟩
  clear HB
  go_wp2
  go_ret
  exact ⟨rfl, rfl⟩
theorem One_in (h : FlIs w B F L P S) (k : Nat) (hk : k < S.nb) : Calls Tryd.prog 61 #[.pointer (some ⟨F, 0, none⟩), .int .i64 k] w fun e w' => e = .returned (.bool (S.b k).one) ∧ w = w' := by
  have HB := Lib.hid (block_in h k hk)
  obtain ⟨_, _, _, d3, _⟩ := h.cells hk
  generalize (S.b k).one = o at *
  clear h
  go_enter Tryd.func61, Tryd.ntmps61
  go_wp2_with fail
  refine HB.out.mono ?_
  rintro e w' ⟨rfl, rfl⟩
  clear HB
  go_wp2
  go_ret
  exact ⟨rfl, rfl⟩
theorem One_out (h : FlIs w B F L P S) (k : Int) (hk : k < 0 ∨ S.nb ≤ k) : Calls Tryd.prog 61 #[.pointer (some ⟨F, 0, none⟩), .int .i64 k] w fun e w' => e = .returned (.bool false) ∧ w = w' := by
  have HB := Lib.hid (block_out h k hk)
  clear h
  go_enter Tryd.func61, Tryd.ntmps61
  go_wp2_with fail
  refine HB.out.mono ?_
  rintro e w' ⟨rfl, rfl⟩
  clear HB
  go_wp2
  go_ret
  exact ⟨rfl, rfl⟩
theorem Shape_any (h : FlIs w B F L P S) : Calls Tryd.prog 33 #[.pointer (some ⟨F, 0, none⟩)] w fun e w' => e = .returned (.tuple #[.int .i64 S.nb, .int .i64 S.pages, .int .i64 S.chunks]) ∧ ∃ n, w' = w.drewN n := by
  obtain ⟨_, c3, c4, c5⟩ := h.fcell
  generalize S.nb = n at *
  generalize S.pages = m at *
  generalize S.chunks = k at *
  clear h
  go_enter Tryd.func33, Tryd.ntmps33
  go_wp2
  go_quiet (fail)
  go_wp2
  refine bodyPost_ret (v := .tuple #[.int .i64 n, .int .i64 m, .int .i64 k]) (by simp [results, Tryd.results33, go_sem]) rfl ⟨rfl, _, rfl⟩
end
end Go.Proofs.YtlidbkofjchnnaaDoor
namespace Go.Proofs.YtlidbkofjchnnaaDoor
open Go.RowKit
set_option linter.unusedVariables false
set_option linter.unusedSimpArgs false

def Fl.setB (S : Fl) (k : Nat) (x : Bk) : Fl := { S with b := fun i => if i = k then x else S.b i }
theorem Fl.setB_self (S : Fl) (k : Nat) (x : Bk) : (S.setB k x).b k = x := by simp [Fl.setB]
theorem Fl.setB_ne (S : Fl) {k i : Nat} (x : Bk) (h : i ≠ k) : (S.setB k x).b i = S.b i := by simp [Fl.setB, h]
/-- Blocks of memory that hold no bytes. -/
def NoB (w : World) (T : List Nat) : Prop := ∀ g ∈ T, ∃ t cs, t ≠ 5 ∧ Row w g t cs
section
variable {w w' : World} {B F L : Nat} {P : Nat → Nat} {S : Fl}
theorem PgIs.turns {T : List Nat} {v : Value} {x : Option (List Nat)} (hp : PgIs w v x) (ht : Turns w w' T) (hn : NoB w T) : PgIs w' v x := by
  cases x with
  | none => exact hp
  | some l =>
    refine ht.own hp fun g hg hm => ?_
    obtain ⟨t, cs, h1, h2⟩ := hn g hm
    rcases hp.2 with ⟨rfl, _⟩ | ⟨g2, cap, cur, rfl, _, hr, _⟩
    · cases hg
    · have e : g2 = g := by injection hg
      subst e
      exact Row.ne_type (show Row w g2 5 cur from hr) h2 (Ne.symm h1) rfl
theorem FlIs.rowF (h : FlIs w B F L P S) : ∃ cs, Row w F 42 cs := by obtain ⟨s, p, r, e, hr⟩ := h.row; exact ⟨_, hr⟩
theorem FlIs.rowL (h : FlIs w B F L P S) : ∃ cs, Row w L 89 cs := by obtain ⟨cur, hr, _⟩ := h.bl; exact ⟨_, hr⟩
theorem FlIs.rowP (h : FlIs w B F L P S) {i : Nat} (hi : i < S.nb) : ∃ cs, Row w (P i) 46 cs := by obtain ⟨cur, hr, _⟩ := h.pg i hi; exact ⟨_, hr⟩
theorem FlIs.ne (h : FlIs w B F L P S) : F ≠ L ∧ (∀ i, i < S.nb → F ≠ P i) ∧ ∀ i, i < S.nb → L ≠ P i := by
  obtain ⟨_, hF⟩ := h.rowF
  obtain ⟨_, hL⟩ := h.rowL
  refine ⟨hF.ne_type hL (by decide), fun i hi => ?_, fun i hi => ?_⟩
  · obtain ⟨_, hP⟩ := h.rowP hi
    exact hF.ne_type hP (by decide)
  · obtain ⟨_, hP⟩ := h.rowP hi
    exact hL.ne_type hP (by decide)
theorem FlIs.noF (h : FlIs w B F L P S) : NoB w [F] := fun g hg => by
  obtain rfl : g = F := by simpa using hg
  obtain ⟨_, hF⟩ := h.rowF
  exact ⟨_, _, by decide, hF⟩
theorem FlIs.noL (h : FlIs w B F L P S) : NoB w [L] := fun g hg => by
  obtain rfl : g = L := by simpa using hg
  obtain ⟨_, hF⟩ := h.rowL
  exact ⟨_, _, by decide, hF⟩
theorem FlIs.noP (h : FlIs w B F L P S) {i : Nat} (hi : i < S.nb) : NoB w [P i] := fun g hg => by
  obtain rfl : g = P i := by simpa using hg
  obtain ⟨_, hF⟩ := h.rowP hi
  exact ⟨_, _, by decide, hF⟩
/-- The flash's own cells turned. -/
theorem FlIs.flash (h : FlIs w B F L P S) (ht : Turns w w' [F]) (o : Bool) (a : Nat) (ha : a < 9223372036854775808)
    (hr : ∃ s p r e : Int, Row w' F 42 (fcells o a s [.slice (some ⟨L, 0, none⟩) S.nb S.nb, .int .i64 S.pages, .int .i64 S.chunks, .int .i64 p, .int .i64 r, .int .i64 e])) : FlIs w' B F L P { S with off := o, armed := a } := by
  have hne := h.ne
  refine ⟨h.hF, h.hL, h.hP, hr, ?_, ?_, h.inj, ⟨h.ok.nb, h.ok.pages, h.ok.chunks, ha, h.ok.wf⟩⟩
  · obtain ⟨cur, hr, h2⟩ := h.bl
    exact ⟨cur, ht.row hr (by simpa using Ne.symm hne.1), h2⟩
  · intro i hi
    obtain ⟨cur, hr, hs, h2⟩ := h.pg i hi
    refine ⟨cur, ht.row hr (by simpa using Ne.symm (hne.2.1 i hi)), hs, fun j hj => ?_⟩
    obtain ⟨v, hv, hp⟩ := h2 j hj
    exact ⟨v, hv, hp.turns ht h.noF⟩
/-- One of a block's own cells turned. -/
theorem FlIs.put (h : FlIs w B F L P S) {k j : Nat} (hk : k < S.nb) (hj : j < 5) (v : Value) (x : Bk) (hx : bkCells S.pages (P k) x = (bkCells S.pages (P k) (S.b k)).set j v) (hpg : x.pg = (S.b k).pg) (hwf : WfB S.pages S.chunks x) :
    FlIs (w.setCell ⟨L, k * 5 + j, none⟩ v) B F L P (S.setB k x) := by
  have hne := h.ne
  have ht : Turns w (w.setCell ⟨L, k * 5 + j, none⟩ v) [L] := (Turns.refl _ _).setCell (by simp) _
  refine ⟨h.hF, h.hL, h.hP, ?_, ?_, ?_, h.inj, ⟨h.ok.nb, h.ok.pages, h.ok.chunks, h.ok.armed, ?_⟩⟩
  · obtain ⟨s, p, r, e, hr⟩ := h.row
    exact ⟨s, p, r, e, ht.row hr (by simpa using hne.1)⟩
  · obtain ⟨cur, hr, hs, hc⟩ := h.bl
    refine ⟨_, hr.put (k * 5 + j) v, by rw [Array.size_setIfInBounds]; exact hs, fun i hi m u hu => ?_⟩
    have hm5 : m < 5 := by
      have := (List.getElem?_eq_some_iff.1 hu).1
      simpa [bkCells] using this
    have hi' : i < S.nb := hi
    by_cases e : i = k
    · subst e
      rw [Fl.setB_self] at hu
      change (bkCells S.pages (P i) x)[m]? = some u at hu
      rw [hx, List.getElem?_set] at hu
      rw [Array.getElem?_setIfInBounds]
      by_cases ej : j = m
      · subst ej
        rw [if_pos rfl, if_pos (by simpa [bkCells] using hj)] at hu
        rw [if_pos rfl, if_pos (by omega)]
        exact hu
      · rw [if_neg ej] at hu
        rw [if_neg (by omega)]
        exact hc i hi' m u hu
    · rw [Fl.setB_ne _ _ e] at hu
      rw [Array.getElem?_setIfInBounds, if_neg (by omega)]
      exact hc i hi' m u hu
  · intro i hi
    obtain ⟨cur, hr, hs, h2⟩ := h.pg i hi
    refine ⟨cur, ht.row hr (by simpa using Ne.symm (hne.2.2 i hi)), hs, fun m hm => ?_⟩
    obtain ⟨u, hu, hp⟩ := h2 m hm
    refine ⟨u, hu, ?_⟩
    have e : ((S.setB k x).b i).pg m = (S.b i).pg m := by
      by_cases e : i = k
      · subst e; rw [Fl.setB_self, hpg]
      · rw [Fl.setB_ne _ _ e]
    rw [e]
    exact hp.turns ht h.noL
  · intro i hi
    by_cases e : i = k
    · subst e; rw [Fl.setB_self]; exact hwf
    · rw [Fl.setB_ne _ _ e]; exact h.ok.wf i hi
/-- One of a block's pages turned. -/
theorem FlIs.putPage (h : FlIs w B F L P S) {k p : Nat} (hk : k < S.nb) (hp : p < S.pages) (v : Value) (l : Option (List Nat)) (hv : PgIs w v l) (x : Bk) (hx : bkCells S.pages (P k) x = bkCells S.pages (P k) (S.b k)) (hpg : x.pg = fun j => if j = p then l else (S.b k).pg j) (hwf : WfB S.pages S.chunks x) :
    FlIs (w.setCell ⟨P k, p, none⟩ v) B F L P (S.setB k x) := by
  have hne := h.ne
  have ht : Turns w (w.setCell ⟨P k, p, none⟩ v) [P k] := (Turns.refl _ _).setCell (by simp) _
  refine ⟨h.hF, h.hL, h.hP, ?_, ?_, ?_, h.inj, ⟨h.ok.nb, h.ok.pages, h.ok.chunks, h.ok.armed, ?_⟩⟩
  · obtain ⟨s, q, r, e, hr⟩ := h.row
    exact ⟨s, q, r, e, ht.row hr (by simpa using hne.2.1 k hk)⟩
  · obtain ⟨cur, hr, hs, hc⟩ := h.bl
    refine ⟨cur, ht.row hr (by simpa using hne.2.2 k hk), hs, fun i hi m u hu => hc i hi m u ?_⟩
    by_cases e : i = k
    · subst e
      rw [Fl.setB_self] at hu
      change (bkCells S.pages (P i) x)[m]? = some u at hu
      rw [hx] at hu; exact hu
    · rw [Fl.setB_ne _ _ e] at hu; exact hu
  · intro i hi
    obtain ⟨cur, hr, hs, h2⟩ := h.pg i hi
    by_cases e : i = k
    · subst e
      refine ⟨_, hr.put p v, by rw [Array.size_setIfInBounds]; exact hs, fun m hm => ?_⟩
      rw [Fl.setB_self, hpg, Array.getElem?_setIfInBounds]
      by_cases em : p = m
      · subst em
        rw [if_pos rfl, if_pos (by rw [hs]; exact hp)]
        exact ⟨v, rfl, by simp only [if_true]; exact hv.turns ht (h.noP hi)⟩
      · obtain ⟨u, hu, hq⟩ := h2 m hm
        rw [if_neg em]
        exact ⟨u, hu, by simp only [if_neg (Ne.symm em)]; exact hq.turns ht (h.noP hi)⟩
    · refine ⟨cur, ht.row hr ?_, hs, fun m hm => ?_⟩
      · intro hm
        exact e (h.inj i k hi hk (by simpa using hm))
      · obtain ⟨u, hu, hq⟩ := h2 m hm
        rw [Fl.setB_ne _ _ e]
        exact ⟨u, hu, hq.turns ht (h.noP hk)⟩
  · intro i hi
    by_cases e : i = k
    · subst e; rw [Fl.setB_self]; exact hwf
    · rw [Fl.setB_ne _ _ e]; exact h.ok.wf i hi
end
end Go.Proofs.YtlidbkofjchnnaaDoor

namespace Go.Proofs.YtlidbkofjchnnaaDoor
open Go.RowKit
set_option linter.unusedVariables false
set_option linter.unusedSimpArgs false

/-- A step is done, or in its place the power goes. -/
def Fl.step (S : Fl) : Fl := if S.armed = 1 then { S with off := true, armed := 0 } else { S with armed := S.armed - 1 }
/-- A page's bytes. -/
def Fl.raw (S : Fl) (k p : Nat) : List Nat := ((S.b k).pg p).getD (List.replicate (73 * S.chunks) 255)
section
variable {w : World} {B F L : Nat} {P : Nat → Nat} {S : Fl}
theorem Fl.raw_ok (h : S.Ok) {k : Nat} (hk : k < S.nb) (p : Nat) : Raw S.chunks (S.raw k p) := by
  unfold Fl.raw
  cases hx : (S.b k).pg p with
  | none => exact ⟨by simp, fun u hu => by simp at hu; omega⟩
  | some l => exact (h.wf k hk).raw p l hx
theorem FlIs.off_eq {a : Nat} (h : FlIs w B F L P { S with armed := a }) (o : Bool) (e : S.off = o) : FlIs w B F L P { S with off := o, armed := a } := by subst e; exact h
theorem step_fl (h : FlIs w B F L P S) : Calls Tryd.prog 119 #[.pointer (some ⟨F, 0, none⟩)] w fun e w' => e = .returned (.bool (decide (S.armed ≠ 1))) ∧ FlIs w' B F L P S.step ∧ Turns w w' [F] := by
  obtain ⟨s, p, r, e, hr⟩ := h.row
  unfold Fl.step
  by_cases ha : S.armed = 1
  · rw [if_pos ha, decide_eq_false (by omega)]
    rw [ha] at hr
    exact (step_cut F S.off s _ w hr).mono fun e w' ⟨he, hr', ht⟩ => ⟨he, h.flash ht true 0 (by omega) ⟨s, p, r, _, hr'⟩, ht⟩
  · rw [if_neg ha, decide_eq_true ha]
    exact (step_done F S.off S.armed s _ ha h.ok.armed w hr).mono fun e w' ⟨he, ⟨s', hr'⟩, ht⟩ => ⟨he, h.flash ht S.off (S.armed - 1) (by have := h.ok.armed; omega) ⟨s', p, r, _, hr'⟩, ht⟩
theorem On_fl (h : FlIs w B F L P S) : Calls Tryd.prog 13 #[.pointer (some ⟨F, 0, none⟩)] w fun e w' => e = .returned (.tuple #[]) ∧ FlIs w' B F L P { S with off := false } ∧ Turns w w' [F] := by
  obtain ⟨s, p, r, e, hr⟩ := h.row
  exact (On_any F S.off S.armed s _ w hr).mono fun e w' ⟨he, hr', ht⟩ => ⟨he, h.flash ht false S.armed h.ok.armed ⟨s, p, r, _, hr'⟩, ht⟩
theorem Arm_fl (h : FlIs w B F L P S) (n : Int) (hn : n < 9223372036854775808) : Calls Tryd.prog 9 #[.pointer (some ⟨F, 0, none⟩), .int .i64 n] w fun e w' => e = .returned (.tuple #[]) ∧ FlIs w' B F L P { S with armed := (max n 1).toNat } ∧ Turns w w' [F] := by
  obtain ⟨s, p, r, e, hr⟩ := h.row
  have hm : (((max n 1).toNat : Nat) : Int) = max n 1 := by omega
  have ha : (max n 1).toNat < 9223372036854775808 := by omega
  exact (Arm_any F n S.off S.armed s _ w hr).mono fun e w' ⟨he, hr', ht⟩ => ⟨he, h.flash ht S.off (max n 1).toNat ha ⟨s, p, r, _, by rw [hm]; exact hr'⟩, ht⟩
theorem Add_fl (h : FlIs w B F L P S) (j : Nat) (hj : j = 6 ∨ j = 7 ∨ j = 8) : Calls Tryd.prog 41 #[.pointer (some ⟨F, j, none⟩), .int .i64 1] w fun e w' => (∃ v, e = .returned v) ∧ FlIs w' B F L P S ∧ Turns w w' [F] := by
  obtain ⟨s, p, r, q, hr⟩ := h.row
  have ht : ∀ m, Turns w (w.setCell ⟨F, j, none⟩ (.int .i64 m)) [F] := fun m => (Turns.refl _ _).setCell (by simp) _
  rcases hj with rfl | rfl | rfl
  · refine (Add_any F 6 p 1 w (hr.cell 6) (hr.frozen 6)).mono fun e w' ⟨he, hw⟩ => ?_
    subst hw
    refine ⟨⟨_, he⟩, h.flash (ht _) S.off S.armed h.ok.armed ⟨s, IntKind.i64.wrap (p + 1), r, q, ?_⟩, ht _⟩
    have := hr.put 6 (.int .i64 (IntKind.i64.wrap (p + 1)))
    simpa [fcells] using this
  · refine (Add_any F 7 r 1 w (hr.cell 7) (hr.frozen 7)).mono fun e w' ⟨he, hw⟩ => ?_
    subst hw
    refine ⟨⟨_, he⟩, h.flash (ht _) S.off S.armed h.ok.armed ⟨s, p, IntKind.i64.wrap (r + 1), q, ?_⟩, ht _⟩
    have := hr.put 7 (.int .i64 (IntKind.i64.wrap (r + 1)))
    simpa [fcells] using this
  · refine (Add_any F 8 q 1 w (hr.cell 8) (hr.frozen 8)).mono fun e w' ⟨he, hw⟩ => ?_
    subst hw
    refine ⟨⟨_, he⟩, h.flash (ht _) S.off S.armed h.ok.armed ⟨s, p, r, IntKind.i64.wrap (q + 1), ?_⟩, ht _⟩
    have := hr.put 8 (.int .i64 (IntKind.i64.wrap (q + 1)))
    simpa [fcells] using this
set_option maxRecDepth 100000 in
set_option maxHeartbeats 1000000 in
theorem raw_any (h : FlIs w B F L P S) (k p : Nat) (hk : k < S.nb) (hp : p < S.pages) : Calls Tryd.prog 47 #[.pointer (some ⟨F, 0, none⟩), .pointer (some ⟨L, k * 5, none⟩), .int .i64 p] w fun e w' => ∃ A c, e = .returned (.slice A (73 * S.chunks) c) ∧ w'.ownsRow w.heap.size 5 1 (.slice A (73 * S.chunks) c) (73 * S.chunks) (intsV .u8 (S.raw k p)) ∧ Below w.heap.size w w' := by
  obtain ⟨_, _, _, c5⟩ := h.fcell
  obtain ⟨d0, _⟩ := h.cells hk
  obtain ⟨cur, hr, hs, hc⟩ := h.pg k hk
  obtain ⟨v, hv, hpv⟩ := hc p hp
  have cp : w.cell? ⟨P k, p, none⟩ = some v := (hr.cell p).trans hv
  have hch := h.ok.chunks
  have hpp := h.ok.pages
  have hraw := Fl.raw_ok h.ok hk p
  have hpi : (p : Int) < S.pages := by omega
  have HRw := Lib.hid (show S.raw k p = ((S.b k).pg p).getD (List.replicate (73 * S.chunks) 255) from rfl)
  have HRk := Lib.hid hraw
  generalize S.raw k p = l at *
  cases hx : (S.b k).pg p with
  | none =>
    rw [hx] at hpv HRw
    obtain rfl : v = .slice none 0 0 := hpv
    obtain ⟨n, hn⟩ : ∃ n, n = 73 * S.chunks := ⟨_, rfl⟩
    have HRp : Hid (∀ w1, Src w1 1 (some ⟨w.heap.size, 0, none⟩) 1 [.int .u8 255] → Calls Tryd.prog 64 #[.slice (some ⟨w.heap.size, 0, none⟩) 1 1, .int .i64 n] w1 fun e w' => ∃ g, e = .returned (.slice (some ⟨g, 0, none⟩) n n) ∧ w'.ownsRow w1.heap.size 5 1 (.slice (some ⟨g, 0, none⟩) n n) n (intsV .u8 (List.replicate n 255)) ∧ Below w1.heap.size w1 w') := fun w1 h1 => Repeat_any _ 1 n (by omega) w1 h1
    have HS1 : Hid (Src (w.alloc (.cells #[.int .u8 255] 5)) 1 (some ⟨w.heap.size, 0, none⟩) 1 [.int .u8 255]) := src_one
    have HB1 : Hid (Below w.heap.size w (w.alloc (.cells #[.int .u8 255] 5))) := (Below.refl _ _).alloc (Nat.le_refl _) _
    have HR1 := Lib.hid (HRp.out _ HS1.out)
    have c5' := keep_below HB1.out _ _ c5
    have hw : IntKind.i64.wrap ((S.chunks : Int) * 73) = (n : Int) := by rw [IntKind.wrap_i64]; omega
    have HL : Hid (l = List.replicate n 255) := by unfold Hid; rw [HRw.out, hn]; rfl
    rw [← hn]
    generalize S.chunks = ch at *
    generalize S.pages = pp at *
    clear h hr hc hraw hx HRw HRk HRp hn
    go_enter Tryd.func47, Tryd.ntmps47
    go_wp2_with fail
    refine HR1.out.mono ?_
    rintro e w' ⟨g, rfl, ho, hb⟩
    have HO : Hid (w'.ownsRow w.heap.size 5 1 (.slice (some ⟨g, 0, none⟩) n n) n (intsV .u8 l)) := by unfold Hid; rw [HL.out]; exact own_mono ho HB1.out.size
    have HB : Hid (Below w.heap.size w w') := HB1.out.trans (hb.mono HB1.out.size)
    clear HR1 HS1 HB1 ho hb HL
    go_wp2
    go_ret
    exact ⟨_, _, rfl, HO.out, HB.out⟩
  | some l' =>
    rw [hx] at hpv HRw
    obtain rfl : l = l' := HRw.out
    have hown : w.ownsRow 0 5 1 v l.length (intsV .u8 l) := hpv
    rw [HRk.out.1] at hown
    obtain ⟨g, c, rfl, _, _, hlc, hcm⟩ := own_at hown (by omega)
    obtain ⟨n, hn⟩ : ∃ n, n = 73 * S.chunks := ⟨_, rfl⟩
    rw [← hn] at hown cp
    have HC := Lib.hid (CloneB_any (some ⟨g, 0, none⟩) n c (intsV .u8 l) (by unfold reachBytes; omega) w (Src.of_own hown) (intsV_one .u8 l))
    rw [← hn]
    generalize S.pages = pp at *
    clear h hr hc hraw hx HRw HRk hown hlc hcm hn hpv
    go_enter Tryd.func47, Tryd.ntmps47
    go_wp2_with fail
    refine HC.out.mono ?_
    rintro e w' ⟨A', c', rfl, ho, hb⟩
    have HO := Lib.hid ho
    have HB := Lib.hid hb
    clear HC ho hb
    go_wp2
    go_ret
    exact ⟨_, _, rfl, HO.out, HB.out⟩
end
end Go.Proofs.YtlidbkofjchnnaaDoor
namespace Go.Proofs.YtlidbkofjchnnaaDoor
open Go.RowKit
set_option linter.unusedVariables false
set_option linter.unusedSimpArgs false

section
variable {w : World} {B F L : Nat} {P : Nat → Nat} {S : Fl}
/-- What Read leaves. -/
def FReadPost (w : World) (B F L : Nat) (P : Nat → Nat) (S : Fl) (k : Nat) (p : Int) (e : Ending) (w' : World) : Prop :=
  FlIs w' B F L P S ∧ Turns w w' [F] ∧ (S.off = true → e = .returned (.tuple #[.slice none 0 0, .int .i64 4])) ∧
    (S.off = false → ¬ (0 ≤ p ∧ p < S.has k) → e = .returned (.tuple #[.slice none 0 0, .int .i64 1])) ∧
    (S.off = false → (0 ≤ p ∧ p < S.has k) → (S.b k).half = true → e = .returned (.tuple #[.slice none 0 0, .int .i64 8])) ∧
    (S.off = false → (0 ≤ p ∧ p < S.has k) → (S.b k).half = false → ∃ A c, e = .returned (.tuple #[.slice A (73 * S.chunks) c, .int .i64 0]) ∧ w'.ownsRow w.heap.size 5 1 (.slice A (73 * S.chunks) c) (73 * S.chunks) (intsV .u8 (S.raw k p.toNat)))
theorem has_le (h : S.Ok) (k : Nat) : S.has k ≤ S.pages := by unfold Fl.has hasOf; split <;> omega
set_option maxHeartbeats 1000000 in
theorem FRead_any (h : FlIs w B F L P S) (k : Nat) (hk : k < S.nb) (p : Int) : Calls Tryd.prog 117 #[.pointer (some ⟨F, 0, none⟩), .int .i64 k, .int .i64 p] w (FReadPost w B F L P S k p) := by
  have HB := Lib.hid (block_in h k hk)
  have HOf := Lib.hid (FlOff h)
  have HPg := Lib.hid (page_in h k hk p)
  have HAd := Lib.hid (Add_fl h 7 (by omega))
  obtain ⟨_, _, d2, _, _⟩ := h.cells hk
  have HH := Lib.hid h
  have hhas := has_le h.ok k
  clear h
  unfold FReadPost
  obtain ⟨o, ho⟩ : ∃ o, o = S.off := ⟨_, rfl⟩
  have HOo := Lib.hid ho
  rw [← ho] at HOf ⊢
  obtain ⟨hf, hhf⟩ : ∃ x, x = (S.b k).half := ⟨_, rfl⟩
  rw [← hhf] at d2 ⊢
  cases o
  · by_cases hp : 0 ≤ p ∧ p < S.has k
    · rw [decide_eq_true hp] at HPg
      cases hf
      · obtain ⟨q, rfl⟩ : ∃ q : Nat, p = q := ⟨p.toNat, by omega⟩
        have hq : q < S.pages := by omega
        have HRw : Hid (∀ w1, FlIs w1 B F L P S → Calls Tryd.prog 47 #[.pointer (some ⟨F, 0, none⟩), .pointer (some ⟨L, k * 5, none⟩), .int .i64 q] w1 fun e w' => ∃ A c, e = .returned (.slice A (73 * S.chunks) c) ∧ w'.ownsRow w1.heap.size 5 1 (.slice A (73 * S.chunks) c) (73 * S.chunks) (intsV .u8 (S.raw k q)) ∧ Below w1.heap.size w1 w') := fun w1 h1 => raw_any h1 k q hk hq
        have HPp := Lib.hid hp
        clear ho hhf hp hhas
        go_enter Tryd.func117, Tryd.ntmps117
        go_wp2_with fail
        refine HB.out.mono ?_
        rintro e w' ⟨rfl, rfl⟩
        go_wp2_with fail
        refine HOf.out.mono ?_
        rintro e w' ⟨rfl, rfl⟩
        go_wp2_with fail
        refine HPg.out.mono ?_
        rintro e w' ⟨rfl, rfl⟩
        go_wp2_with fail
        refine HAd.out.mono ?_
        rintro e w1 ⟨⟨v, rfl⟩, h1, ht⟩
        have H1 := Lib.hid h1
        have HT := Lib.hid ht
        have HR1 := Lib.hid (HRw.out w1 h1)
        clear HB HOf HPg HAd h1 ht HRw
        go_wp2_with fail
        refine HR1.out.mono ?_
        rintro e w2 ⟨A, c, rfl, ho, hb⟩
        have HB2 := Lib.hid hb
        have HO2 := Lib.hid ho
        clear HR1 ho hb
        go_wp2
        refine bodyPost_ret (v := .tuple #[.slice A (73 * S.chunks) c, .int .i64 0]) (by simp [results, Tryd.results117, go_sem]) rfl ⟨H1.out.keep (Turns.of_below HB2.out _), HT.out.then_below HB2.out, fun h => by (cases h), fun _ h => absurd HPp.out h, fun _ _ h => by (cases h), fun _ _ _ => ⟨A, c, rfl, own_mono HO2.out HT.out.size⟩⟩
      · have HPp := Lib.hid hp
        clear ho hhf hp hhas HAd
        go_enter Tryd.func117, Tryd.ntmps117
        go_wp2_with fail
        refine HB.out.mono ?_
        rintro e w' ⟨rfl, rfl⟩
        go_wp2_with fail
        refine HOf.out.mono ?_
        rintro e w' ⟨rfl, rfl⟩
        go_wp2_with fail
        refine HPg.out.mono ?_
        rintro e w' ⟨rfl, rfl⟩
        clear HB HOf HPg
        go_wp2
        refine bodyPost_ret (v := .tuple #[.slice none 0 0, .int .i64 8]) (by simp [results, Tryd.results117, go_sem]) rfl ⟨HH.out, Turns.refl _ _, fun h => by (cases h), fun _ h => absurd HPp.out h, fun _ _ _ => rfl, fun _ _ h => by (cases h)⟩
    · rw [decide_eq_false hp] at HPg
      have HPp := Lib.hid hp
      clear ho hhf hp hhas HAd
      go_enter Tryd.func117, Tryd.ntmps117
      go_wp2_with fail
      refine HB.out.mono ?_
      rintro e w' ⟨rfl, rfl⟩
      go_wp2_with fail
      refine HOf.out.mono ?_
      rintro e w' ⟨rfl, rfl⟩
      go_wp2_with fail
      refine HPg.out.mono ?_
      rintro e w' ⟨rfl, rfl⟩
      clear HB HOf HPg
      go_wp2
      refine bodyPost_ret (v := .tuple #[.slice none 0 0, .int .i64 1]) (by simp [results, Tryd.results117, go_sem]) rfl ⟨HH.out, Turns.refl _ _, fun h => by (cases h), fun _ _ => rfl, fun _ h => absurd h HPp.out, fun _ h => absurd h HPp.out⟩
  · clear ho hhf hhas HAd HPg
    go_enter Tryd.func117, Tryd.ntmps117
    go_wp2_with fail
    refine HB.out.mono ?_
    rintro e w' ⟨rfl, rfl⟩
    go_wp2_with fail
    refine HOf.out.mono ?_
    rintro e w' ⟨rfl, rfl⟩
    clear HB HOf
    go_wp2
    refine bodyPost_ret (v := .tuple #[.slice none 0 0, .int .i64 4]) (by simp [results, Tryd.results117, go_sem]) rfl ⟨HH.out, Turns.refl _ _, fun _ => rfl, fun h => by (cases h), fun h => by (cases h), fun h => by (cases h)⟩
theorem FlIs.frozenL (h : FlIs w B F L P S) (i : Nat) : w.frozen? ⟨L, i, none⟩ = false := by obtain ⟨_, hr⟩ := h.rowL; exact hr.frozen i
theorem FlIs.frozenP (h : FlIs w B F L P S) {k : Nat} (hk : k < S.nb) (i : Nat) : w.frozen? ⟨P k, i, none⟩ = false := by obtain ⟨_, hr⟩ := h.rowP hk; exact hr.frozen i
/-- A mode, of a block that is erased: no answer but 0. -/
theorem Mode_fl (h : FlIs w B F L P S) (k : Nat) (hk : k < S.nb) (one : Bool) (ho : S.off = false) (hf : (S.b k).failed = false) (hh : (S.b k).half = false) (hn : (S.b k).next = 0) :
    Calls Tryd.prog 115 #[.pointer (some ⟨F, 0, none⟩), .int .i64 k, .bool one] w fun e w' => e = .returned (.int .i64 0) ∧ FlIs w' B F L P (S.setB k { S.b k with one := one }) ∧ Turns w w' [L] := by
  have HB := Lib.hid (block_in h k hk)
  have HM := Lib.hid (may_in h k hk true)
  obtain ⟨_, d1, d2, d3, _⟩ := h.cells hk
  have f3 := h.frozenL (k * 5 + 3)
  have hwf := h.ok.wf k hk
  have HF : Hid (FlIs (w.setCell ⟨L, k * 5 + 3, none⟩ (.bool one)) B F L P (S.setB k { S.b k with one := one })) := h.put hk (by omega) _ _ rfl rfl ⟨by show (S.b k).next ≤ _; rw [hn]; omega, hwf.none, hwf.raw⟩
  have HT : Hid (Turns w (w.setCell ⟨L, k * 5 + 3, none⟩ (.bool one)) [L]) := (Turns.refl _ _).setCell (by simp) _
  rw [ho, hf] at HM
  rw [hh] at d2
  rw [hn] at d1
  clear h ho hf hh hn hwf
  go_enter Tryd.func115, Tryd.ntmps115
  go_wp2_with fail
  refine HB.out.mono ?_
  rintro e w' ⟨rfl, rfl⟩
  go_wp2_with fail
  refine HM.out.mono ?_
  rintro e w' ⟨rfl, rfl⟩
  clear HB HM
  go_wp2
  go_ret
  exact ⟨rfl, HF.out, HT.out⟩
theorem Fail_in (h : FlIs w B F L P S) (k : Nat) (hk : k < S.nb) : Calls Tryd.prog 20 #[.pointer (some ⟨F, 0, none⟩), .int .i64 k] w fun e w' => e = .returned (.bool true) ∧ FlIs w' B F L P (S.setB k { S.b k with failed := true }) ∧ Turns w w' [L] := by
  have HB := Lib.hid (block_in h k hk)
  obtain ⟨_, _, _, _, d4⟩ := h.cells hk
  have f4 := h.frozenL (k * 5 + 4)
  have hwf := h.ok.wf k hk
  have HF : Hid (FlIs (w.setCell ⟨L, k * 5 + 4, none⟩ (.bool true)) B F L P (S.setB k { S.b k with failed := true })) := h.put hk (by omega) _ _ rfl rfl ⟨hwf.next, hwf.none, hwf.raw⟩
  have HT : Hid (Turns w (w.setCell ⟨L, k * 5 + 4, none⟩ (.bool true)) [L]) := (Turns.refl _ _).setCell (by simp) _
  clear h hwf
  go_enter Tryd.func20, Tryd.ntmps20
  go_wp2_with fail
  refine HB.out.mono ?_
  rintro e w' ⟨rfl, rfl⟩
  clear HB
  go_wp2
  go_ret
  exact ⟨rfl, HF.out, HT.out⟩
theorem Fail_out (h : FlIs w B F L P S) (k : Int) (hk : k < 0 ∨ S.nb ≤ k) : Calls Tryd.prog 20 #[.pointer (some ⟨F, 0, none⟩), .int .i64 k] w fun e w' => e = .returned (.bool false) ∧ w = w' := by
  have HB := Lib.hid (block_out h k hk)
  clear h
  go_enter Tryd.func20, Tryd.ntmps20
  go_wp2_with fail
  refine HB.out.mono ?_
  rintro e w' ⟨rfl, rfl⟩
  clear HB
  go_wp2
  go_ret
  exact ⟨rfl, rfl⟩
end
end Go.Proofs.YtlidbkofjchnnaaDoor

namespace Go.Proofs.YtlidbkofjchnnaaDoor
open Go.RowKit
set_option linter.unusedVariables false
set_option linter.unusedSimpArgs false

theorem cells_put {nb pages : Nat} {P : Nat → Nat} {b : Nat → Bk} {cur : Array Value} (hs : cur.size = nb * 5) (hc : ∀ i, i < nb → ∀ j v, (bkCells pages (P i) (b i))[j]? = some v → cur[i * 5 + j]? = some v)
    {k j : Nat} (hk : k < nb) (hj : j < 5) (v : Value) (x : Bk) (hx : bkCells pages (P k) x = (bkCells pages (P k) (b k)).set j v) :
    ∀ i, i < nb → ∀ m u, (bkCells pages (P i) (if i = k then x else b i))[m]? = some u → (cur.setIfInBounds (k * 5 + j) v)[i * 5 + m]? = some u := by
  intro i hi m u hu
  have hm5 : m < 5 := by
    have := (List.getElem?_eq_some_iff.1 hu).1
    simpa [bkCells] using this
  by_cases e : i = k
  · subst e
    rw [if_pos rfl, hx, List.getElem?_set] at hu
    rw [Array.getElem?_setIfInBounds]
    by_cases ej : j = m
    · subst ej
      rw [if_pos rfl, if_pos (by simpa [bkCells] using hj)] at hu
      rw [if_pos rfl, if_pos (by omega)]
      exact hu
    · rw [if_neg ej] at hu
      rw [if_neg (by omega)]
      exact hc i hi m u hu
  · rw [if_neg e] at hu
    rw [Array.getElem?_setIfInBounds, if_neg (by omega)]
    exact hc i hi m u hu
section
variable {w w' : World} {B F L : Nat} {P : Nat → Nat} {S : Fl}
theorem FlIs.no3 (h : FlIs w B F L P S) {k : Nat} (hk : k < S.nb) : NoB w [F, L, P k] := fun g hg => by
  rcases List.mem_cons.1 hg with rfl | hg
  · exact h.noF g (by simp)
  · rcases List.mem_cons.1 hg with rfl | hg
    · exact h.noL g (by simp)
    · exact h.noP hk g hg
/-- A flash of which one block was turned. -/
theorem FlIs.prog (h : FlIs w B F L P S) {k : Nat} (hk : k < S.nb) (ht : Turns w w' [F, L, P k]) (o : Bool) (a : Nat) (ha : a < 9223372036854775808)
    (hr : ∃ s p r e : Int, Row w' F 42 (fcells o a s [.slice (some ⟨L, 0, none⟩) S.nb S.nb, .int .i64 S.pages, .int .i64 S.chunks, .int .i64 p, .int .i64 r, .int .i64 e])) (x : Bk)
    (hL : ∃ cur, Row w' L 89 cur ∧ cur.size = S.nb * 5 ∧ ∀ i, i < S.nb → ∀ j v, (bkCells S.pages (P i) (if i = k then x else S.b i))[j]? = some v → cur[i * 5 + j]? = some v)
    (hP : ∃ cur, Row w' (P k) 46 cur ∧ cur.size = S.pages ∧ ∀ j, j < S.pages → ∃ v, cur[j]? = some v ∧ PgIs w' v (x.pg j)) (hwf : WfB S.pages S.chunks x) :
    FlIs w' B F L P { S.setB k x with off := o, armed := a } := by
  have hne := h.ne
  refine ⟨h.hF, h.hL, h.hP, hr, hL, ?_, h.inj, ⟨h.ok.nb, h.ok.pages, h.ok.chunks, ha, ?_⟩⟩
  · intro i hi
    have hi' : i < S.nb := hi
    by_cases e : i = k
    · subst e
      obtain ⟨cur, hr, hs, h2⟩ := hP
      exact ⟨cur, hr, hs, fun j hj => by
        obtain ⟨v, hv, hp⟩ := h2 j hj
        exact ⟨v, hv, by simpa [Fl.setB] using hp⟩⟩
    · obtain ⟨cur, hr, hs, h2⟩ := h.pg i hi'
      refine ⟨cur, ht.row hr ?_, hs, fun j hj => ?_⟩
      · simp only [List.mem_cons, List.not_mem_nil, or_false, not_or]
        exact ⟨Ne.symm (hne.2.1 i hi'), Ne.symm (hne.2.2 i hi'), fun he => e (h.inj i k hi' hk he)⟩
      · obtain ⟨v, hv, hp⟩ := h2 j hj
        refine ⟨v, hv, ?_⟩
        have := hp.turns ht (h.no3 hk)
        simpa [Fl.setB, e] using this
  · intro i hi
    by_cases e : i = k
    · subst e
      have : (S.setB i x).b i = x := Fl.setB_self _ _ _
      show WfB S.pages S.chunks ((S.setB i x).b i)
      rw [this]; exact hwf
    · show WfB S.pages S.chunks ((S.setB k x).b i)
      rw [Fl.setB_ne _ _ e]; exact h.ok.wf i hi
end
/-- A page of which j chunks are written. -/
def part (r : List Nat) (ch j : Nat) : List Nat := r.take (73 * j) ++ List.replicate (73 * (ch - j)) 255
theorem part_length (r : List Nat) (ch j : Nat) (h : r.length = 73 * ch) (hj : j ≤ ch) : (part r ch j).length = 73 * ch := by unfold part; rw [List.length_append, List.length_take, List.length_replicate, h]; omega
theorem part_raw {r : List Nat} {ch : Nat} (h : Raw ch r) {j : Nat} (hj : j ≤ ch) : Raw ch (part r ch j) := by
  refine ⟨part_length r ch j h.1 hj, fun u hu => ?_⟩
  unfold part at hu
  rw [List.mem_append] at hu
  rcases hu with h1 | h1
  · exact h.2 u (List.mem_of_mem_take h1)
  · rw [List.mem_replicate] at h1; omega
theorem part_zero (r : List Nat) (ch : Nat) : part r ch 0 = List.replicate (73 * ch) 255 := by unfold part; simp
theorem part_all (r : List Nat) (ch : Nat) (h : r.length = 73 * ch) : part r ch ch = r := by unfold part; rw [List.take_of_length_le (by omega)]; simp
theorem splice_mid {α : Type} (A M Z : List α) : splice (A ++ Z) A.length M = A ++ (M ++ Z.drop M.length) := by
  unfold splice
  rw [List.take_left, List.drop_append, List.drop_of_length_le (by omega), List.nil_append, Nat.add_sub_cancel_left]
theorem part_splice (r : List Nat) (ch j : Nat) (h : r.length = 73 * ch) (hj : j < ch) : splice (intsV .u8 (part r ch j)) (73 * j) (intsV .u8 ((r.drop (73 * j)).take 73)) = intsV .u8 (part r ch (j + 1)) := by
  have h1 : (r.take (73 * j)).length = 73 * j := by rw [List.length_take, h]; omega
  have h2 : ((r.drop (73 * j)).take 73).length = 73 := by rw [List.length_take, List.length_drop, h]; omega
  have hz : (List.replicate (73 * (ch - j)) 255).drop 73 = List.replicate (73 * (ch - (j + 1))) 255 := by rw [List.drop_replicate]; congr 1; omega
  have hp : part r ch (j + 1) = r.take (73 * j) ++ ((r.drop (73 * j)).take 73 ++ (List.replicate (73 * (ch - j)) 255).drop 73) := by
    unfold part
    rw [hz, ← List.append_assoc]
    congr 1
    rw [show 73 * (j + 1) = 73 * j + 73 by omega, List.take_add]
  have hs := splice_mid (intsV .u8 (r.take (73 * j))) (intsV .u8 ((r.drop (73 * j)).take 73)) (intsV .u8 (List.replicate (73 * (ch - j)) 255))
  rw [intsV_length, intsV_length, h1, h2, ← intsV_append] at hs
  rw [hp, intsV_append, intsV_append]
  refine hs.trans ?_
  congr 2
  exact (List.map_drop ..).symm
end Go.Proofs.YtlidbkofjchnnaaDoor
namespace Go.Proofs.YtlidbkofjchnnaaDoor
open Go.RowKit
set_option linter.unusedVariables false
set_option linter.unusedSimpArgs false

theorem own_exact {w : World} {B g n : Nat} {e : TypeId} {xs : List Value} (h : w.ownsRow B e 1 (.slice (some ⟨g, 0, none⟩) n n) n xs) : Row w g e xs.toArray ∧ B ≤ g := by
  obtain ⟨hB, cur, hr, hs, _, _, ht⟩ := own_row h
  refine ⟨?_, hB⟩
  have : cur = xs.toArray := by
    apply Array.ext'
    rw [← ht, List.take_of_length_le (by simp [hs])]
  rw [← this]; exact hr
section
variable {w : World} {B F L : Nat} {P : Nat → Nat} {S : Fl}
set_option maxRecDepth 100000 in
set_option maxHeartbeats 1000000 in
theorem raw_new (h : FlIs w B F L P S) (k p : Nat) (hk : k < S.nb) (hp : p < S.pages) (hx : (S.b k).pg p = none) : Calls Tryd.prog 47 #[.pointer (some ⟨F, 0, none⟩), .pointer (some ⟨L, k * 5, none⟩), .int .i64 p] w fun e w' => ∃ g, e = .returned (.slice (some ⟨g, 0, none⟩) (73 * S.chunks) (73 * S.chunks)) ∧ Row w' g 5 (intsV .u8 (List.replicate (73 * S.chunks) 255)).toArray ∧ w.heap.size ≤ g ∧ Below w.heap.size w w' := by
  obtain ⟨_, _, _, c5⟩ := h.fcell
  obtain ⟨d0, _⟩ := h.cells hk
  obtain ⟨cur, hr, hs, hc⟩ := h.pg k hk
  obtain ⟨v, hv, hpv⟩ := hc p hp
  have cp : w.cell? ⟨P k, p, none⟩ = some v := (hr.cell p).trans hv
  have hch := h.ok.chunks
  have hpp := h.ok.pages
  have hpi : (p : Int) < S.pages := by omega
  rw [hx] at hpv
  obtain rfl : v = .slice none 0 0 := hpv
  obtain ⟨n, hn⟩ : ∃ n, n = 73 * S.chunks := ⟨_, rfl⟩
  have HRp : Hid (∀ w1, Src w1 1 (some ⟨w.heap.size, 0, none⟩) 1 [.int .u8 255] → Calls Tryd.prog 64 #[.slice (some ⟨w.heap.size, 0, none⟩) 1 1, .int .i64 n] w1 fun e w' => ∃ g, e = .returned (.slice (some ⟨g, 0, none⟩) n n) ∧ w'.ownsRow w1.heap.size 5 1 (.slice (some ⟨g, 0, none⟩) n n) n (intsV .u8 (List.replicate n 255)) ∧ Below w1.heap.size w1 w') := fun w1 h1 => Repeat_any _ 1 n (by omega) w1 h1
  have HS1 : Hid (Src (w.alloc (.cells #[.int .u8 255] 5)) 1 (some ⟨w.heap.size, 0, none⟩) 1 [.int .u8 255]) := src_one
  have HB1 : Hid (Below w.heap.size w (w.alloc (.cells #[.int .u8 255] 5))) := (Below.refl _ _).alloc (Nat.le_refl _) _
  have HR1 := Lib.hid (HRp.out _ HS1.out)
  have c5' := keep_below HB1.out _ _ c5
  have hw : IntKind.i64.wrap ((S.chunks : Int) * 73) = (n : Int) := by rw [IntKind.wrap_i64]; omega
  rw [← hn]
  generalize S.chunks = ch at *
  generalize S.pages = pp at *
  clear h hr hc hx HRp hn
  go_enter Tryd.func47, Tryd.ntmps47
  go_wp2_with fail
  refine HR1.out.mono ?_
  rintro e w' ⟨g, rfl, ho, hb⟩
  have HO := Lib.hid (own_exact (own_mono ho HB1.out.size))
  have HB : Hid (Below w.heap.size w w') := HB1.out.trans (hb.mono HB1.out.size)
  clear HR1 HS1 HB1 ho hb
  go_wp2
  go_ret
  exact ⟨_, rfl, HO.out.1, HO.out.2, HB.out⟩
/-- A block of which j chunks of a page are written. -/
def progB (S : Fl) (k : Nat) (r : List Nat) (j : Nat) : Bk := if j = 0 then S.b k else { S.b k with pg := fun i => if i = (S.b k).next then some (part r S.chunks j) else (S.b k).pg i, next := (S.b k).next + 1 }
def curL (cur : Array Value) (k m j : Nat) : Array Value := if j = 0 then cur else cur.setIfInBounds (k * 5 + 1) (.int .i64 (m + 1 : Nat))
def curP (cur : Array Value) (m g n j : Nat) : Array Value := if j = 0 then cur else cur.setIfInBounds m (.slice (some ⟨g, 0, none⟩) n n)
theorem prog_rebuild (h : FlIs w B F L P S) {k : Nat} (hk : k < S.nb) (hn : (S.b k).next < S.has k) (hh : (S.b k).half = false) {r : List Nat} (hr : Raw S.chunks r) {j : Nat} (hj : j ≤ S.chunks) {cL cP : Array Value} {g : Nat}
    (hLs : cL.size = S.nb * 5) (hLc : ∀ i, i < S.nb → ∀ j v, (bkCells S.pages (P i) (S.b i))[j]? = some v → cL[i * 5 + j]? = some v)
    (hPs : cP.size = S.pages) (hPc : ∀ j, j < S.pages → ∃ v, cP[j]? = some v ∧ PgIs w v ((S.b k).pg j))
    {w' : World} (ht : Turns w w' [F, L, P k]) (o : Bool) (a : Nat) (ha : a < 9223372036854775808)
    (hF : ∃ s p r e : Int, Row w' F 42 (fcells o a s [.slice (some ⟨L, 0, none⟩) S.nb S.nb, .int .i64 S.pages, .int .i64 S.chunks, .int .i64 p, .int .i64 r, .int .i64 e]))
    (hL : Row w' L 89 (curL cL k (S.b k).next j)) (hP : Row w' (P k) 46 (curP cP (S.b k).next g (73 * S.chunks) j)) (hg : Row w' g 5 (intsV .u8 (part r S.chunks j)).toArray) :
    FlIs w' B F L P { S.setB k (progB S k r j) with off := o, armed := a } := by
  have hwf := h.ok.wf k hk
  have hhas := has_le h.ok k
  have hch := h.ok.chunks
  have hpp := h.ok.pages
  by_cases h0 : j = 0
  · subst h0
    rw [curL, if_pos rfl] at hL
    rw [curP, if_pos rfl] at hP
    rw [progB, if_pos rfl]
    refine h.prog hk ht o a ha hF _ ⟨_, hL, hLs, fun i hi j v hv => hLc i hi j v ?_⟩ ⟨_, hP, hPs, fun j hj => ?_⟩ hwf
    · by_cases e : i = k
      · rw [if_pos e] at hv; rw [e] at hv ⊢; exact hv
      · rw [if_neg e] at hv; exact hv
    · obtain ⟨v, hv, hp⟩ := hPc j hj
      exact ⟨v, hv, hp.turns ht (h.no3 hk)⟩
  · rw [curL, if_neg h0] at hL
    rw [curP, if_neg h0] at hP
    rw [progB, if_neg h0]
    refine h.prog hk ht o a ha hF _ ⟨_, hL, by rw [Array.size_setIfInBounds]; exact hLs, cells_put hLs hLc hk (by omega) _ _ rfl⟩ ⟨_, hP, by rw [Array.size_setIfInBounds]; exact hPs, fun i hi => ?_⟩ ⟨?_, ?_, ?_⟩
    · rw [Array.getElem?_setIfInBounds]
      by_cases e : (S.b k).next = i
      · rw [if_pos e, if_pos (by omega)]
        refine ⟨_, rfl, ?_⟩
        simp only [e, if_true]
        have hl := part_length r S.chunks j hr.1 hj
        show w'.ownsRow 0 5 1 _ (part r S.chunks j).length _
        rw [hl]
        exact own_of_row hg hl (Nat.zero_le _) (by unfold maxLen; omega)
      · rw [if_neg e]
        obtain ⟨v, hv, hp⟩ := hPc i hi
        exact ⟨v, hv, by simp only [if_neg (Ne.symm e)]; exact hp.turns ht (h.no3 hk)⟩
    · show (S.b k).next + 1 ≤ hasOf S.pages _
      exact hn
    · intro i hi
      have hi' : (S.b k).next + 1 ≤ i := hi
      show (if i = (S.b k).next then _ else (S.b k).pg i) = none
      rw [if_neg (by omega)]
      exact hwf.none i (by omega)
    · intro i l hl
      have hl' : (if i = (S.b k).next then some (part r S.chunks j) else (S.b k).pg i) = some l := hl
      by_cases e : i = (S.b k).next
      · rw [if_pos e] at hl'
        injection hl' with hl'
        subst hl'
        exact part_raw hr hj
      · rw [if_neg e] at hl'
        exact hwf.raw i l hl'
end
end Go.Proofs.YtlidbkofjchnnaaDoor
