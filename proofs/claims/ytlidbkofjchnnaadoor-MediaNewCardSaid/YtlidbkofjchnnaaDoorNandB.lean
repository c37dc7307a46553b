/- nand: what a flash is in memory; its functions that only read. -/
import Derived.Test.YtlidbkofjchnnaaDoorNand
namespace Go.Proofs.YtlidbkofjchnnaaDoor
open Go.RowKit
set_option linter.unusedVariables false
set_option linter.unusedSimpArgs false

/-- A block; a flash. -/
structure Bk where
  pg : Nat → Option (List Nat)
  next : Nat
  half : Bool
  one : Bool
  failed : Bool
structure Fl where
  off : Bool
  armed : Nat
  nb : Nat
  pages : Nat
  chunks : Nat
  b : Nat → Bk
/-- How many pages a block has. -/
def hasOf (pages : Nat) (x : Bk) : Nat := if x.one then pages / 2 else pages
def Fl.has (S : Fl) (k : Nat) : Nat := hasOf S.pages (S.b k)
def bkCells (pages P : Nat) (x : Bk) : List Value := [.slice (some ⟨P, 0, none⟩) pages pages, .int .i64 x.next, .bool x.half, .bool x.one, .bool x.failed]
def PgIs (w : World) (v : Value) : Option (List Nat) → Prop
  | none => v = .slice none 0 0
  | some l => w.ownsRow 0 5 1 v l.length (intsV .u8 l)
/-- A page's bytes, of so many chunks. -/
def Raw (c : Nat) (l : List Nat) : Prop := l.length = 73 * c ∧ ∀ u ∈ l, u < 256
structure WfB (pages chunks : Nat) (x : Bk) : Prop where
  next : x.next ≤ hasOf pages x
  none : ∀ j, x.next ≤ j → x.pg j = none
  raw : ∀ j l, x.pg j = some l → Raw chunks l
structure Fl.Ok (S : Fl) : Prop where
  nb : 1 ≤ S.nb ∧ S.nb ≤ 1024
  pages : 2 ≤ S.pages ∧ S.pages ≤ 256 ∧ S.pages % 2 = 0
  chunks : 1 ≤ S.chunks ∧ S.chunks ≤ 8
  armed : S.armed < 9223372036854775808
  wf : ∀ i, i < S.nb → WfB S.pages S.chunks (S.b i)
structure FlIs (w : World) (B F L : Nat) (P : Nat → Nat) (S : Fl) : Prop where
  hF : B ≤ F
  hL : B ≤ L
  hP : ∀ i, i < S.nb → B ≤ P i
  row : ∃ s p r e : Int, Row w F 42 (fcells S.off S.armed s [.slice (some ⟨L, 0, none⟩) S.nb S.nb, .int .i64 S.pages, .int .i64 S.chunks, .int .i64 p, .int .i64 r, .int .i64 e])
  bl : ∃ cur, Row w L 89 cur ∧ cur.size = S.nb * 5 ∧ ∀ i, i < S.nb → ∀ j v, (bkCells S.pages (P i) (S.b i))[j]? = some v → cur[i * 5 + j]? = some v
  pg : ∀ i, i < S.nb → ∃ cur, Row w (P i) 46 cur ∧ cur.size = S.pages ∧ ∀ j, j < S.pages → ∃ v, cur[j]? = some v ∧ PgIs w v ((S.b i).pg j)
  inj : ∀ i j, i < S.nb → j < S.nb → P i = P j → i = j
  ok : S.Ok
/-- The blocks of memory that a flash may turn. -/
def flS (F L : Nat) (P : Nat → Nat) (n : Nat) : List Nat := F :: L :: (List.range n).map P
section
variable {w : World} {B F L : Nat} {P : Nat → Nat} {S : Fl}
theorem FlIs.cells (h : FlIs w B F L P S) {k : Nat} (hk : k < S.nb) : w.cell? ⟨L, k * 5, none⟩ = some (.slice (some ⟨P k, 0, none⟩) S.pages S.pages) ∧ w.cell? ⟨L, k * 5 + 1, none⟩ = some (.int .i64 (S.b k).next) ∧ w.cell? ⟨L, k * 5 + 2, none⟩ = some (.bool (S.b k).half) ∧ w.cell? ⟨L, k * 5 + 3, none⟩ = some (.bool (S.b k).one) ∧ w.cell? ⟨L, k * 5 + 4, none⟩ = some (.bool (S.b k).failed) := by
  obtain ⟨cur, hr, _, hc⟩ := h.bl
  refine ⟨?_, ?_, ?_, ?_, ?_⟩
  all_goals rw [hr.cell]
  · exact hc k hk 0 _ rfl
  · exact hc k hk 1 _ rfl
  · exact hc k hk 2 _ rfl
  · exact hc k hk 3 _ rfl
  · exact hc k hk 4 _ rfl
theorem FlIs.fcell (h : FlIs w B F L P S) : w.cell? ⟨F, 0, none⟩ = some (.bool S.off) ∧ w.cell? ⟨F, 3, none⟩ = some (.slice (some ⟨L, 0, none⟩) S.nb S.nb) ∧ w.cell? ⟨F, 4, none⟩ = some (.int .i64 S.pages) ∧ w.cell? ⟨F, 5, none⟩ = some (.int .i64 S.chunks) := by
  obtain ⟨s, p, r, e, hr⟩ := h.row
  exact ⟨hr.cell 0, hr.cell 3, hr.cell 4, hr.cell 5⟩
theorem FlIs.keep {w' : World} (h : FlIs w B F L P S) (ht : Turns w w' []) : FlIs w' B F L P S := by
  refine ⟨h.hF, h.hL, h.hP, ?_, ?_, ?_, h.inj, h.ok⟩
  · obtain ⟨s, p, r, e, hr⟩ := h.row
    exact ⟨s, p, r, e, ht.row hr (by simp)⟩
  · obtain ⟨cur, hr, h2⟩ := h.bl
    exact ⟨cur, ht.row hr (by simp), h2⟩
  · intro i hi
    obtain ⟨cur, hr, hs, h2⟩ := h.pg i hi
    refine ⟨cur, ht.row hr (by simp), hs, fun j hj => ?_⟩
    obtain ⟨v, hv, hp⟩ := h2 j hj
    refine ⟨v, hv, ?_⟩
    cases hx : (S.b i).pg j with
    | none => rw [hx] at hp; exact hp
    | some l => rw [hx] at hp; exact ht.own hp (fun g hg => by simp)
theorem block_in (h : FlIs w B F L P S) (k : Nat) (hk : k < S.nb) : Calls Tryd.prog 39 #[.pointer (some ⟨F, 0, none⟩), .int .i64 k] w fun e w' => e = .returned (.pointer (some ⟨L, k * 5, none⟩)) ∧ w = w' := by
  obtain ⟨_, c3, _, _⟩ := h.fcell
  have hn := h.ok.nb
  have hki : (k : Int) < S.nb := by omega
  generalize S.nb = n at *
  clear h
  go_enter Tryd.func39, Tryd.ntmps39
  go_wp2
  go_ret
  exact ⟨by simp, rfl⟩
theorem block_out (h : FlIs w B F L P S) (k : Int) (hk : k < 0 ∨ S.nb ≤ k) : Calls Tryd.prog 39 #[.pointer (some ⟨F, 0, none⟩), .int .i64 k] w fun e w' => e = .returned (.pointer none) ∧ w = w' := by
  obtain ⟨_, c3, _, _⟩ := h.fcell
  have hn := h.ok.nb
  generalize S.nb = n at *
  clear h
  by_cases h0 : k < 0
  · clear hk
    go_enter Tryd.func39, Tryd.ntmps39
    go_wp2
    go_ret
    exact ⟨rfl, rfl⟩
  · have hki : ¬ k < n := by omega
    clear hk
    go_enter Tryd.func39, Tryd.ntmps39
    go_wp2
    go_ret
    exact ⟨rfl, rfl⟩
theorem many_any (h : FlIs w B F L P S) (k : Nat) (hk : k < S.nb) : Calls Tryd.prog 62 #[.pointer (some ⟨F, 0, none⟩), .pointer (some ⟨L, k * 5, none⟩)] w fun e w' => e = .returned (.int .i64 (S.has k : Nat)) ∧ w = w' := by
  obtain ⟨_, _, c4, _⟩ := h.fcell
  obtain ⟨_, _, _, d3, _⟩ := h.cells hk
  have hp := h.ok.pages
  unfold Fl.has hasOf
  generalize S.pages = n at *
  generalize (S.b k).one = o at *
  clear h
  cases o
  · go_enter Tryd.func62, Tryd.ntmps62
    go_wp2
    go_ret
    exact ⟨rfl, rfl⟩
  · obtain ⟨m, hm⟩ : ∃ m, m = n / 2 := ⟨_, rfl⟩
    rw [if_pos rfl, ← hm]
    have hd : (n : Int) / 2 = (m : Int) := by omega
    clear hm
    go_enter Tryd.func62, Tryd.ntmps62
    go_wp2
    go_ret
    exact ⟨rfl, rfl⟩
set_option maxHeartbeats 1000000 in
theorem page_in (h : FlIs w B F L P S) (k : Nat) (hk : k < S.nb) (p : Int) : Calls Tryd.prog 46 #[.pointer (some ⟨F, 0, none⟩), .pointer (some ⟨L, k * 5, none⟩), .int .i64 p] w fun e w' => e = .returned (.bool (decide (0 ≤ p ∧ p < S.has k))) ∧ w = w' := by
  have HM := Lib.hid (many_any h k hk)
  generalize S.has k = n at *
  clear h
  by_cases h0 : p < 0
  · rw [decide_eq_false (by omega)]
    have h0' : ¬ 0 ≤ p := by omega
    clear HM
    go_enter Tryd.func46, Tryd.ntmps46
    go_wp2
    go_ret
    exact ⟨rfl, rfl⟩
  · have h0' : 0 ≤ p := by omega
    by_cases h1 : p < n
    · rw [decide_eq_true (by omega)]
      go_enter Tryd.func46, Tryd.ntmps46
      go_wp2_with fail
      refine HM.out.mono ?_
      rintro e w' ⟨rfl, rfl⟩
      clear HM
      go_wp2
      go_ret
      exact ⟨rfl, rfl⟩
    · rw [decide_eq_false (by omega)]
      go_enter Tryd.func46, Tryd.ntmps46
      go_wp2_with fail
      refine HM.out.mono ?_
      rintro e w' ⟨rfl, rfl⟩
      clear HM
      go_wp2
      go_ret
      exact ⟨by rw [decide_eq_false (by omega)]; rfl, rfl⟩
theorem page_out (F : Nat) (p : Int) (w : World) : Calls Tryd.prog 46 #[.pointer (some ⟨F, 0, none⟩), .pointer none, .int .i64 p] w fun e w' => e = .returned (.bool false) ∧ w = w' := by
  go_enter Tryd.func46, Tryd.ntmps46
  go_wp2
  go_ret
  exact ⟨rfl, rfl⟩
theorem FlOff (h : FlIs w B F L P S) : Calls Tryd.prog 11 #[.pointer (some ⟨F, 0, none⟩)] w fun e w' => e = .returned (.bool S.off) ∧ w = w' := by
  obtain ⟨s, p, r, e, hr⟩ := h.row
  exact Off_any F _ _ _ _ w hr
/-- What there is against changing a block: 4 (down), 1 (no such), 7 (it fails), 0. -/
def mayE (off is failed : Bool) : Nat := if off then 4 else if !is then 1 else if failed then 7 else 0
theorem may_in (h : FlIs w B F L P S) (k : Nat) (hk : k < S.nb) (is : Bool) : Calls Tryd.prog 118 #[.pointer (some ⟨F, 0, none⟩), .pointer (some ⟨L, k * 5, none⟩), .bool is] w fun e w' => e = .returned (.int .i64 (mayE S.off is (S.b k).failed : Nat)) ∧ w = w' := by
  have HO := Lib.hid (FlOff h)
  obtain ⟨_, _, _, _, d4⟩ := h.cells hk
  generalize S.off = o at *
  generalize (S.b k).failed = f at *
  clear h
  cases o <;> cases is <;> cases f
  all_goals
    go_enter Tryd.func118, Tryd.ntmps118
    go_wp2_with fail
    refine HO.out.mono ?_
    rintro e w' ⟨rfl, rfl⟩
    clear HO
    go_wp2
    go_ret
    exact ⟨rfl, rfl⟩
theorem may_out (h : FlIs w B F L P S) : Calls Tryd.prog 118 #[.pointer (some ⟨F, 0, none⟩), .pointer none, .bool false] w fun e w' => e = .returned (.int .i64 (mayE S.off false false : Nat)) ∧ w = w' := by
  have HO := Lib.hid (FlOff h)
  generalize S.off = o at *
  clear h
  cases o
  all_goals
    go_enter Tryd.func118, Tryd.ntmps118
    go_wp2_with fail
    refine HO.out.mono ?_
    rintro e w' ⟨rfl, rfl⟩
    clear HO
    go_wp2
    go_ret
    exact ⟨rfl, rfl⟩
theorem Next_in (h : FlIs w B F L P S) (k : Nat) (hk : k < S.nb) : Calls Tryd.prog 59 #[.pointer (some ⟨F, 0, none⟩), .int .i64 k] w fun e w' => e = .returned (.int .i64 (if (S.b k).half then -1 else ((S.b k).next : Int))) ∧ w = w' := by
  have HB := Lib.hid (block_in h k hk)
  obtain ⟨_, d1, d2, _, _⟩ := h.cells hk
  generalize (S.b k).half = o at *
  generalize (S.b k).next = n at *
  clear h
  cases o
  all_goals
    go_enter Tryd.func59, Tryd.ntmps59
    go_wp2_with fail
    refine HB.out.mono ?_
    rintro e w' ⟨rfl, rfl⟩
    clear HB
    go_wp2
    go_ret
    exact ⟨rfl, rfl⟩
theorem Next_out (h : FlIs w B F L P S) (k : Int) (hk : k < 0 ∨ S.nb ≤ k) : Calls Tryd.prog 59 #[.pointer (some ⟨F, 0, none⟩), .int .i64 k] w fun e w' => e = .returned (.int .i64 (-1)) ∧ w = w' := by
  have HB := Lib.hid (block_out h k hk)
  clear h
  go_enter Tryd.func59, Tryd.ntmps59
  go_wp2_with fail
  refine HB.out.mono ?_
  rintro e w' ⟨rfl, rfl⟩
  clear HB
  go_wp2
  go_ret
  exact ⟨rfl, rfl⟩
theorem One_in (h : FlIs w B F L P S) (k : Nat) (hk : k < S.nb) : Calls Tryd.prog 61 #[.pointer (some ⟨F, 0, none⟩), .int .i64 k] w fun e w' => e = .returned (.bool (S.b k).one) ∧ w = w' := by
  have HB := Lib.hid (block_in h k hk)
  obtain ⟨_, _, _, d3, _⟩ := h.cells hk
  generalize (S.b k).one = o at *
  clear h
  go_enter Tryd.func61, Tryd.ntmps61
  go_wp2_with fail
  refine HB.out.mono ?_
  rintro e w' ⟨rfl, rfl⟩
  clear HB
  go_wp2
  go_ret
  exact ⟨rfl, rfl⟩
theorem One_out (h : FlIs w B F L P S) (k : Int) (hk : k < 0 ∨ S.nb ≤ k) : Calls Tryd.prog 61 #[.pointer (some ⟨F, 0, none⟩), .int .i64 k] w fun e w' => e = .returned (.bool false) ∧ w = w' := by
  have HB := Lib.hid (block_out h k hk)
  clear h
  go_enter Tryd.func61, Tryd.ntmps61
  go_wp2_with fail
  refine HB.out.mono ?_
  rintro e w' ⟨rfl, rfl⟩
  clear HB
  go_wp2
  go_ret
  exact ⟨rfl, rfl⟩
theorem Shape_any (h : FlIs w B F L P S) : Calls Tryd.prog 33 #[.pointer (some ⟨F, 0, none⟩)] w fun e w' => e = .returned (.tuple #[.int .i64 S.nb, .int .i64 S.pages, .int .i64 S.chunks]) ∧ ∃ n, w' = w.drewN n := by
  obtain ⟨_, c3, c4, c5⟩ := h.fcell
  generalize S.nb = n at *
  generalize S.pages = m at *
  generalize S.chunks = k at *
  clear h
  go_enter Tryd.func33, Tryd.ntmps33
  go_wp2
  go_quiet (fail)
  go_wp2
  refine bodyPost_ret (v := .tuple #[.int .i64 n, .int .i64 m, .int .i64 k]) (by simp [results, Tryd.results33, go_sem]) rfl ⟨rfl, _, rfl⟩
end
end Go.Proofs.YtlidbkofjchnnaaDoor
namespace Go.Proofs.YtlidbkofjchnnaaDoor
open Go.RowKit
set_option linter.unusedVariables false
set_option linter.unusedSimpArgs false

def Fl.setB (S : Fl) (k : Nat) (x : Bk) : Fl := { S with b := fun i => if i = k then x else S.b i }
theorem Fl.setB_self (S : Fl) (k : Nat) (x : Bk) : (S.setB k x).b k = x := by simp [Fl.setB]
theorem Fl.setB_ne (S : Fl) {k i : Nat} (x : Bk) (h : i ≠ k) : (S.setB k x).b i = S.b i := by simp [Fl.setB, h]
/-- Blocks of memory that hold no bytes. -/
def NoB (w : World) (T : List Nat) : Prop := ∀ g ∈ T, ∃ t cs, t ≠ 5 ∧ Row w g t cs
section
variable {w w' : World} {B F L : Nat} {P : Nat → Nat} {S : Fl}
theorem PgIs.turns {T : List Nat} {v : Value} {x : Option (List Nat)} (hp : PgIs w v x) (ht : Turns w w' T) (hn : NoB w T) : PgIs w' v x := by
  cases x with
  | none => exact hp
  | some l =>
    refine ht.own hp fun g hg hm => ?_
    obtain ⟨t, cs, h1, h2⟩ := hn g hm
    rcases hp.2 with ⟨rfl, _⟩ | ⟨g2, cap, cur, rfl, _, hr, _⟩
    · cases hg
    · have e : g2 = g := by injection hg
      subst e
      exact Row.ne_type (show Row w g2 5 cur from hr) h2 (Ne.symm h1) rfl
theorem FlIs.rowF (h : FlIs w B F L P S) : ∃ cs, Row w F 42 cs := by obtain ⟨s, p, r, e, hr⟩ := h.row; exact ⟨_, hr⟩
theorem FlIs.rowL (h : FlIs w B F L P S) : ∃ cs, Row w L 89 cs := by obtain ⟨cur, hr, _⟩ := h.bl; exact ⟨_, hr⟩
theorem FlIs.rowP (h : FlIs w B F L P S) {i : Nat} (hi : i < S.nb) : ∃ cs, Row w (P i) 46 cs := by obtain ⟨cur, hr, _⟩ := h.pg i hi; exact ⟨_, hr⟩
theorem FlIs.ne (h : FlIs w B F L P S) : F ≠ L ∧ (∀ i, i < S.nb → F ≠ P i) ∧ ∀ i, i < S.nb → L ≠ P i := by
  obtain ⟨_, hF⟩ := h.rowF
  obtain ⟨_, hL⟩ := h.rowL
  refine ⟨hF.ne_type hL (by decide), fun i hi => ?_, fun i hi => ?_⟩
  · obtain ⟨_, hP⟩ := h.rowP hi
    exact hF.ne_type hP (by decide)
  · obtain ⟨_, hP⟩ := h.rowP hi
    exact hL.ne_type hP (by decide)
theorem FlIs.noF (h : FlIs w B F L P S) : NoB w [F] := fun g hg => by
  obtain rfl : g = F := by simpa using hg
  obtain ⟨_, hF⟩ := h.rowF
  exact ⟨_, _, by decide, hF⟩
theorem FlIs.noL (h : FlIs w B F L P S) : NoB w [L] := fun g hg => by
  obtain rfl : g = L := by simpa using hg
  obtain ⟨_, hF⟩ := h.rowL
  exact ⟨_, _, by decide, hF⟩
theorem FlIs.noP (h : FlIs w B F L P S) {i : Nat} (hi : i < S.nb) : NoB w [P i] := fun g hg => by
  obtain rfl : g = P i := by simpa using hg
  obtain ⟨_, hF⟩ := h.rowP hi
  exact ⟨_, _, by decide, hF⟩
/-- The flash's own cells turned. -/
theorem FlIs.flash (h : FlIs w B F L P S) (ht : Turns w w' [F]) (o : Bool) (a : Nat) (ha : a < 9223372036854775808)
    (hr : ∃ s p r e : Int, Row w' F 42 (fcells o a s [.slice (some ⟨L, 0, none⟩) S.nb S.nb, .int .i64 S.pages, .int .i64 S.chunks, .int .i64 p, .int .i64 r, .int .i64 e])) : FlIs w' B F L P { S with off := o, armed := a } := by
  have hne := h.ne
  refine ⟨h.hF, h.hL, h.hP, hr, ?_, ?_, h.inj, ⟨h.ok.nb, h.ok.pages, h.ok.chunks, ha, h.ok.wf⟩⟩
  · obtain ⟨cur, hr, h2⟩ := h.bl
    exact ⟨cur, ht.row hr (by simpa using Ne.symm hne.1), h2⟩
  · intro i hi
    obtain ⟨cur, hr, hs, h2⟩ := h.pg i hi
    refine ⟨cur, ht.row hr (by simpa using Ne.symm (hne.2.1 i hi)), hs, fun j hj => ?_⟩
    obtain ⟨v, hv, hp⟩ := h2 j hj
    exact ⟨v, hv, hp.turns ht h.noF⟩
/-- One of a block's own cells turned. -/
theorem FlIs.put (h : FlIs w B F L P S) {k j : Nat} (hk : k < S.nb) (hj : j < 5) (v : Value) (x : Bk) (hx : bkCells S.pages (P k) x = (bkCells S.pages (P k) (S.b k)).set j v) (hpg : x.pg = (S.b k).pg) (hwf : WfB S.pages S.chunks x) :
    FlIs (w.setCell ⟨L, k * 5 + j, none⟩ v) B F L P (S.setB k x) := by
  have hne := h.ne
  have ht : Turns w (w.setCell ⟨L, k * 5 + j, none⟩ v) [L] := (Turns.refl _ _).setCell (by simp) _
  refine ⟨h.hF, h.hL, h.hP, ?_, ?_, ?_, h.inj, ⟨h.ok.nb, h.ok.pages, h.ok.chunks, h.ok.armed, ?_⟩⟩
  · obtain ⟨s, p, r, e, hr⟩ := h.row
    exact ⟨s, p, r, e, ht.row hr (by simpa using hne.1)⟩
  · obtain ⟨cur, hr, hs, hc⟩ := h.bl
    refine ⟨_, hr.put (k * 5 + j) v, by rw [Array.size_setIfInBounds]; exact hs, fun i hi m u hu => ?_⟩
    have hm5 : m < 5 := by
      have := (List.getElem?_eq_some_iff.1 hu).1
      simpa [bkCells] using this
    have hi' : i < S.nb := hi
    by_cases e : i = k
    · subst e
      rw [Fl.setB_self] at hu
      change (bkCells S.pages (P i) x)[m]? = some u at hu
      rw [hx, List.getElem?_set] at hu
      rw [Array.getElem?_setIfInBounds]
      by_cases ej : j = m
      · subst ej
        rw [if_pos rfl, if_pos (by simpa [bkCells] using hj)] at hu
        rw [if_pos rfl, if_pos (by omega)]
        exact hu
      · rw [if_neg ej] at hu
        rw [if_neg (by omega)]
        exact hc i hi' m u hu
    · rw [Fl.setB_ne _ _ e] at hu
      rw [Array.getElem?_setIfInBounds, if_neg (by omega)]
      exact hc i hi' m u hu
  · intro i hi
    obtain ⟨cur, hr, hs, h2⟩ := h.pg i hi
    refine ⟨cur, ht.row hr (by simpa using Ne.symm (hne.2.2 i hi)), hs, fun m hm => ?_⟩
    obtain ⟨u, hu, hp⟩ := h2 m hm
    refine ⟨u, hu, ?_⟩
    have e : ((S.setB k x).b i).pg m = (S.b i).pg m := by
      by_cases e : i = k
      · subst e; rw [Fl.setB_self, hpg]
      · rw [Fl.setB_ne _ _ e]
    rw [e]
    exact hp.turns ht h.noL
  · intro i hi
    by_cases e : i = k
    · subst e; rw [Fl.setB_self]; exact hwf
    · rw [Fl.setB_ne _ _ e]; exact h.ok.wf i hi
/-- One of a block's pages turned. -/
theorem FlIs.putPage (h : FlIs w B F L P S) {k p : Nat} (hk : k < S.nb) (hp : p < S.pages) (v : Value) (l : Option (List Nat)) (hv : PgIs w v l) (x : Bk) (hx : bkCells S.pages (P k) x = bkCells S.pages (P k) (S.b k)) (hpg : x.pg = fun j => if j = p then l else (S.b k).pg j) (hwf : WfB S.pages S.chunks x) :
    FlIs (w.setCell ⟨P k, p, none⟩ v) B F L P (S.setB k x) := by
  have hne := h.ne
  have ht : Turns w (w.setCell ⟨P k, p, none⟩ v) [P k] := (Turns.refl _ _).setCell (by simp) _
  refine ⟨h.hF, h.hL, h.hP, ?_, ?_, ?_, h.inj, ⟨h.ok.nb, h.ok.pages, h.ok.chunks, h.ok.armed, ?_⟩⟩
  · obtain ⟨s, q, r, e, hr⟩ := h.row
    exact ⟨s, q, r, e, ht.row hr (by simpa using hne.2.1 k hk)⟩
  · obtain ⟨cur, hr, hs, hc⟩ := h.bl
    refine ⟨cur, ht.row hr (by simpa using hne.2.2 k hk), hs, fun i hi m u hu => hc i hi m u ?_⟩
    by_cases e : i = k
    · subst e
      rw [Fl.setB_self] at hu
      change (bkCells S.pages (P i) x)[m]? = some u at hu
      rw [hx] at hu; exact hu
    · rw [Fl.setB_ne _ _ e] at hu; exact hu
  · intro i hi
    obtain ⟨cur, hr, hs, h2⟩ := h.pg i hi
    by_cases e : i = k
    · subst e
      refine ⟨_, hr.put p v, by rw [Array.size_setIfInBounds]; exact hs, fun m hm => ?_⟩
      rw [Fl.setB_self, hpg, Array.getElem?_setIfInBounds]
      by_cases em : p = m
      · subst em
        rw [if_pos rfl, if_pos (by rw [hs]; exact hp)]
        exact ⟨v, rfl, by simp only [if_true]; exact hv.turns ht (h.noP hi)⟩
      · obtain ⟨u, hu, hq⟩ := h2 m hm
        rw [if_neg em]
        exact ⟨u, hu, by simp only [if_neg (Ne.symm em)]; exact hq.turns ht (h.noP hi)⟩
    · refine ⟨cur, ht.row hr ?_, hs, fun m hm => ?_⟩
      · intro hm
        exact e (h.inj i k hi hk (by simpa using hm))
      · obtain ⟨u, hu, hq⟩ := h2 m hm
        rw [Fl.setB_ne _ _ e]
        exact ⟨u, hu, hq.turns ht (h.noP hk)⟩
  · intro i hi
    by_cases e : i = k
    · subst e; rw [Fl.setB_self]; exact hwf
    · rw [Fl.setB_ne _ _ e]; exact h.ok.wf i hi
end
end Go.Proofs.YtlidbkofjchnnaaDoor
