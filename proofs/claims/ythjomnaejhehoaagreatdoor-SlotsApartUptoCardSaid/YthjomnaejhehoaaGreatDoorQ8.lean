/- What follows is laid together from several texts of mine, in their order. -/
import Derived.Test.YthjomnaejhehoaaGreatDoorQ7
import Derived.Test.YthjomnaejhehoaaGreatDoorQ3
import Derived.Laws.LoneSync

namespace Go.Proofs.YthjomnaejhehoaaGreatDoor
open Go.RowKit
set_option linter.unusedVariables false
set_option linter.unusedSimpArgs false

theorem Add_any (b off : Nat) (x y : Int) (w : World) (hc : w.cell? ⟨b, off, none⟩ = some (.int .i64 x)) (hz : w.frozen? ⟨b, off, none⟩ = false) :
    Calls Tryz.prog 79 #[.pointer (some ⟨b, off, none⟩), .int .i64 y] w fun e w' => e = .returned (.int .i64 (IntKind.i64.wrap (x + y))) ∧ w' = w.setCell ⟨b, off, none⟩ (.int .i64 (IntKind.i64.wrap (x + y))) := by
  have hadd := run_call_add (P := Tryz.prog) Tryz.func88 (by kernel_rfl) (by kernel_rfl) (by kernel_rfl) .i64 (by kernel_rfl) (y := y) (s := IntKind.i64.wrap (x + y)) hc hz (by simp [go_sem])
  generalize IntKind.i64.wrap (x + y) = s at *
  go_enter Tryz.func79, Tryz.ntmps79
  go_wp2
  go_ret
  exact ⟨rfl, rfl⟩
theorem Load_any (b off : Nat) (x : Int) (w : World) (hc : w.cell? ⟨b, off, none⟩ = some (.int .i64 x)) :
    Calls Tryz.prog 53 #[.pointer (some ⟨b, off, none⟩)] w fun e w' => e = .returned (.int .i64 x) ∧ w = w' := by
  have hld := run_call_load (P := Tryz.prog) Tryz.func69 (by kernel_rfl) (by kernel_rfl) (by kernel_rfl) .i64 (by kernel_rfl) hc
  go_enter Tryz.func53, Tryz.ntmps53
  go_wp2
  go_ret
  exact ⟨rfl, rfl⟩
/-- A flash's nine cells. -/
def fcells (o : Bool) (a s : Int) (r : List Value) : Array Value := (.bool o :: .int .i64 a :: .int .i64 s :: r).toArray
theorem Off_any (F : Nat) (o : Bool) (a s : Int) (r : List Value) (w : World) (hr : Row w F 46 (fcells o a s r)) :
    Calls Tryz.prog 33 #[.pointer (some ⟨F, 0, none⟩)] w fun e w' => e = .returned (.bool o) ∧ w = w' := by
  have c0 : w.cell? ⟨F, 0, none⟩ = some (.bool o) := hr.cell 0
  clear hr
  go_enter Tryz.func33, Tryz.ntmps33
  go_wp2
  go_ret
  exact ⟨rfl, rfl⟩
theorem On_any (F : Nat) (o : Bool) (a s : Int) (r : List Value) (w : World) (hr : Row w F 46 (fcells o a s r)) :
    Calls Tryz.prog 25 #[.pointer (some ⟨F, 0, none⟩)] w fun e w' => e = .returned (.tuple #[]) ∧ Row w' F 46 (fcells false a s r) ∧ Turns w w' [F] := by
  have c0 : w.cell? ⟨F, 0, none⟩ = some (.bool o) := hr.cell 0
  have f0 := hr.frozen 0
  have HR : Hid (Row (w.setCell ⟨F, 0, none⟩ (.bool false)) F 46 (fcells false a s r)) := by
    have := hr.put 0 (.bool false)
    simpa [fcells, Hid] using this
  have HT : Hid (Turns w (w.setCell ⟨F, 0, none⟩ (.bool false)) [F]) := (Turns.refl _ _).setCell (by simp) _
  clear hr
  go_enter Tryz.func25, Tryz.ntmps25
  go_wp2
  go_end0
  exact ⟨rfl, HR.out, HT.out⟩
theorem Arm_any (F : Nat) (n : Int) (o : Bool) (a s : Int) (r : List Value) (w : World) (hr : Row w F 46 (fcells o a s r)) :
    Calls Tryz.prog 18 #[.pointer (some ⟨F, 0, none⟩), .int .i64 n] w fun e w' => e = .returned (.tuple #[]) ∧ Row w' F 46 (fcells o (max n 1) s r) ∧ Turns w w' [F] := by
  have c1 : w.cell? ⟨F, 1, none⟩ = some (.int .i64 a) := hr.cell 1
  have f1 := hr.frozen 1
  have HR : Hid (∀ m : Int, Row (w.setCell ⟨F, 1, none⟩ (.int .i64 m)) F 46 (fcells o m s r)) := fun m => by
    have := hr.put 1 (.int .i64 m)
    simpa [fcells] using this
  have HT : Hid (∀ m : Int, Turns w (w.setCell ⟨F, 1, none⟩ (.int .i64 m)) [F]) := fun m => (Turns.refl _ _).setCell (by simp) _
  clear hr
  by_cases hn : n < 1
  · have hm : max n 1 = 1 := by omega
    rw [hm]
    clear hm
    go_enter Tryz.func18, Tryz.ntmps18
    go_wp2
    go_end0
    exact ⟨rfl, HR.out _, HT.out _⟩
  · have hm : max n 1 = n := by omega
    rw [hm]
    clear hm
    go_enter Tryz.func18, Tryz.ntmps18
    go_wp2
    go_end0
    exact ⟨rfl, HR.out _, HT.out _⟩
theorem Cut_any (F : Nat) (o : Bool) (a s : Int) (r : List Value) (w : World) (hr : Row w F 46 (fcells o a s r)) :
    Calls Tryz.prog 12 #[.pointer (some ⟨F, 0, none⟩)] w fun e w' => e = .returned (.tuple #[]) ∧ Row w' F 46 (fcells true 0 s r) ∧ Turns w w' [F] := by
  have c0 : w.cell? ⟨F, 0, none⟩ = some (.bool o) := hr.cell 0
  have f0 := hr.frozen 0
  have c1 : w.cell? ⟨F, 1, none⟩ = some (.int .i64 a) := hr.cell 1
  have f1 := hr.frozen 1
  have HR : Hid (Row ((w.setCell ⟨F, 0, none⟩ (.bool true)).setCell ⟨F, 1, none⟩ (.int .i64 0)) F 46 (fcells true 0 s r)) := by
    have := (hr.put 0 (.bool true)).put 1 (.int .i64 0)
    simpa [fcells, Hid] using this
  have HT : Hid (Turns w ((w.setCell ⟨F, 0, none⟩ (.bool true)).setCell ⟨F, 1, none⟩ (.int .i64 0)) [F]) := ((Turns.refl _ _).setCell (by simp) _).setCell (by simp) _
  clear hr
  go_enter Tryz.func12, Tryz.ntmps12
  go_wp2
  go_end0
  exact ⟨rfl, HR.out, HT.out⟩
/-- A step that is done, or in whose place the power goes. -/
theorem step_cut (F : Nat) (o : Bool) (s : Int) (r : List Value) (w : World) (hr : Row w F 46 (fcells o 1 s r)) :
    Calls Tryz.prog 138 #[.pointer (some ⟨F, 0, none⟩)] w fun e w' => e = .returned (.bool false) ∧ Row w' F 46 (fcells true 0 s r) ∧ Turns w w' [F] := by
  have c1 : w.cell? ⟨F, 1, none⟩ = some (.int .i64 1) := hr.cell 1
  have HC := Lib.hid (Cut_any F o 1 s r w hr)
  clear hr
  go_enter Tryz.func138, Tryz.ntmps138
  go_wp2_with fail
  refine HC.out.mono ?_
  rintro e w' ⟨rfl, hr, ht⟩
  have HR := Lib.hid hr
  have HT := Lib.hid ht
  clear HC hr ht c1
  go_wp2
  go_ret
  exact ⟨rfl, HR.out, HT.out⟩
theorem step_done (F : Nat) (o : Bool) (a : Nat) (s : Int) (r : List Value) (ha : a ≠ 1) (ha2 : a < 9223372036854775808) (w : World) (hr : Row w F 46 (fcells o a s r)) :
    Calls Tryz.prog 138 #[.pointer (some ⟨F, 0, none⟩)] w fun e w' => e = .returned (.bool true) ∧ (∃ s', Row w' F 46 (fcells o (a - 1 : Nat) s' r)) ∧ Turns w w' [F] := by
  have c1 : w.cell? ⟨F, 1, none⟩ = some (.int .i64 a) := hr.cell 1
  have f1 := hr.frozen 1
  have hai : ¬ (a : Int) = 1 := by omega
  have HR : Hid (Row (w.setCell ⟨F, 1, none⟩ (.int .i64 (a - 1 : Nat))) F 46 (fcells o (a - 1 : Nat) s r)) := by
    have := hr.put 1 (.int .i64 (a - 1 : Nat))
    simpa [fcells, Hid] using this
  have HT : Hid (Turns w (w.setCell ⟨F, 1, none⟩ (.int .i64 (a - 1 : Nat))) [F]) := (Turns.refl _ _).setCell (by simp) _
  have HA := Lib.hid (Add_any F 2 s 1 _ (HR.out.cell 2) (HR.out.frozen 2))
  have hw1 : IntKind.i64.wrap ((a : Int) - 1) = (a : Int) - 1 := by rw [IntKind.wrap_i64]; omega
  obtain ⟨m, hm⟩ : ∃ m, m = a - 1 := ⟨_, rfl⟩
  have HM := Lib.hid hm
  rw [← hm] at HR HT HA
  rw [← hm]
  clear hr
  have HPost : Hid (∀ s', Row ((w.setCell ⟨F, 1, none⟩ (.int .i64 m)).setCell ⟨F, 2, none⟩ (.int .i64 s')) F 46 (fcells o m s' r) ∧ Turns w ((w.setCell ⟨F, 1, none⟩ (.int .i64 m)).setCell ⟨F, 2, none⟩ (.int .i64 s')) [F]) := fun s' => by
    refine ⟨?_, HT.out.setCell (by simp) _⟩
    have := HR.out.put 2 (.int .i64 s')
    simpa [fcells] using this
  by_cases h0 : a = 0
  · subst h0
    obtain rfl : m = 0 := hm
    clear HM
    go_enter Tryz.func138, Tryz.ntmps138
    go_wp2_with fail
    refine HA.out.mono ?_
    rintro e w' ⟨rfl, rfl⟩
    clear HA HR HT
    go_wp2
    go_ret
    exact ⟨rfl, ⟨_, (HPost.out _).1⟩, (HPost.out _).2⟩
  · have hlt : ¬ (a : Int) - 1 < 0 := by omega
    have hmi : (a : Int) - 1 = m := by omega
    clear hm
    go_enter Tryz.func138, Tryz.ntmps138
    go_wp2_with fail
    refine HA.out.mono ?_
    rintro e w' ⟨rfl, rfl⟩
    clear HA HR HT
    go_wp2
    go_ret
    exact ⟨rfl, ⟨_, (HPost.out _).1⟩, (HPost.out _).2⟩
end Go.Proofs.YthjomnaejhehoaaGreatDoor

namespace Go.Proofs.YthjomnaejhehoaaGreatDoor
open Go.RowKit
set_option linter.unusedVariables false
set_option linter.unusedSimpArgs false

/-- A block; a flash. -/
structure Bk where
  pg : Nat → Option (List Nat)
  next : Nat
  half : Bool
  one : Bool
  failed : Bool
structure Fl where
  off : Bool
  armed : Nat
  nb : Nat
  pages : Nat
  chunks : Nat
  b : Nat → Bk
  progs : Int
/-- How many pages a block has. -/
def hasOf (pages : Nat) (x : Bk) : Nat := if x.one then pages / 2 else pages
def Fl.has (S : Fl) (k : Nat) : Nat := hasOf S.pages (S.b k)
def bkCells (pages P : Nat) (x : Bk) : List Value := [.slice (some ⟨P, 0, none⟩) pages pages, .int .i64 x.next, .bool x.half, .bool x.one, .bool x.failed]
def PgIs (w : World) (v : Value) : Option (List Nat) → Prop
  | none => v = .slice none 0 0
  | some l => w.ownsRow 0 5 1 v l.length (intsV .u8 l)
/-- A page's bytes, of so many chunks. -/
def Raw (c : Nat) (l : List Nat) : Prop := l.length = 73 * c ∧ ∀ u ∈ l, u < 256
structure WfB (pages chunks : Nat) (x : Bk) : Prop where
  next : x.next ≤ hasOf pages x
  none : ∀ j, x.next ≤ j → x.pg j = none
  raw : ∀ j l, x.pg j = some l → Raw chunks l
structure Fl.Ok (S : Fl) : Prop where
  nb : 1 ≤ S.nb ∧ S.nb ≤ 1024
  pages : 2 ≤ S.pages ∧ S.pages ≤ 256 ∧ S.pages % 2 = 0
  chunks : 1 ≤ S.chunks ∧ S.chunks ≤ 8
  armed : S.armed < 9223372036854775808
  wf : ∀ i, i < S.nb → WfB S.pages S.chunks (S.b i)
structure FlIs (w : World) (B F L : Nat) (P : Nat → Nat) (S : Fl) : Prop where
  hF : B ≤ F
  hL : B ≤ L
  hP : ∀ i, i < S.nb → B ≤ P i
  row : ∃ s r e : Int, Row w F 46 (fcells S.off S.armed s [.slice (some ⟨L, 0, none⟩) S.nb S.nb, .int .i64 S.pages, .int .i64 S.chunks, .int .i64 S.progs, .int .i64 r, .int .i64 e])
  bl : ∃ cur, Row w L 85 cur ∧ cur.size = S.nb * 5 ∧ ∀ i, i < S.nb → ∀ j v, (bkCells S.pages (P i) (S.b i))[j]? = some v → cur[i * 5 + j]? = some v
  pg : ∀ i, i < S.nb → ∃ cur, Row w (P i) 22 cur ∧ cur.size = S.pages ∧ ∀ j, j < S.pages → ∃ v, cur[j]? = some v ∧ PgIs w v ((S.b i).pg j)
  inj : ∀ i j, i < S.nb → j < S.nb → P i = P j → i = j
  ok : S.Ok
/-- The blocks of memory that a flash may turn. -/
def flS (F L : Nat) (P : Nat → Nat) (n : Nat) : List Nat := F :: L :: (List.range n).map P
section
variable {w : World} {B F L : Nat} {P : Nat → Nat} {S : Fl}
theorem FlIs.cells (h : FlIs w B F L P S) {k : Nat} (hk : k < S.nb) : w.cell? ⟨L, k * 5, none⟩ = some (.slice (some ⟨P k, 0, none⟩) S.pages S.pages) ∧ w.cell? ⟨L, k * 5 + 1, none⟩ = some (.int .i64 (S.b k).next) ∧ w.cell? ⟨L, k * 5 + 2, none⟩ = some (.bool (S.b k).half) ∧ w.cell? ⟨L, k * 5 + 3, none⟩ = some (.bool (S.b k).one) ∧ w.cell? ⟨L, k * 5 + 4, none⟩ = some (.bool (S.b k).failed) := by
  obtain ⟨cur, hr, _, hc⟩ := h.bl
  refine ⟨?_, ?_, ?_, ?_, ?_⟩
  all_goals rw [hr.cell]
  · exact hc k hk 0 _ rfl
  · exact hc k hk 1 _ rfl
  · exact hc k hk 2 _ rfl
  · exact hc k hk 3 _ rfl
  · exact hc k hk 4 _ rfl
theorem FlIs.fcell (h : FlIs w B F L P S) : w.cell? ⟨F, 0, none⟩ = some (.bool S.off) ∧ w.cell? ⟨F, 3, none⟩ = some (.slice (some ⟨L, 0, none⟩) S.nb S.nb) ∧ w.cell? ⟨F, 4, none⟩ = some (.int .i64 S.pages) ∧ w.cell? ⟨F, 5, none⟩ = some (.int .i64 S.chunks) := by
  obtain ⟨s, r, e, hr⟩ := h.row
  exact ⟨hr.cell 0, hr.cell 3, hr.cell 4, hr.cell 5⟩
theorem FlIs.keep {w' : World} (h : FlIs w B F L P S) (ht : Turns w w' []) : FlIs w' B F L P S := by
  refine ⟨h.hF, h.hL, h.hP, ?_, ?_, ?_, h.inj, h.ok⟩
  · obtain ⟨s, r, e, hr⟩ := h.row
    exact ⟨s, r, e, ht.row hr (by simp)⟩
  · obtain ⟨cur, hr, h2⟩ := h.bl
    exact ⟨cur, ht.row hr (by simp), h2⟩
  · intro i hi
    obtain ⟨cur, hr, hs, h2⟩ := h.pg i hi
    refine ⟨cur, ht.row hr (by simp), hs, fun j hj => ?_⟩
    obtain ⟨v, hv, hp⟩ := h2 j hj
    refine ⟨v, hv, ?_⟩
    cases hx : (S.b i).pg j with
    | none => rw [hx] at hp; exact hp
    | some l => rw [hx] at hp; exact ht.own hp (fun g hg => by simp)
theorem block_in (h : FlIs w B F L P S) (k : Nat) (hk : k < S.nb) : Calls Tryz.prog 45 #[.pointer (some ⟨F, 0, none⟩), .int .i64 k] w fun e w' => e = .returned (.pointer (some ⟨L, k * 5, none⟩)) ∧ w = w' := by
  obtain ⟨_, c3, _, _⟩ := h.fcell
  have hn := h.ok.nb
  have hki : (k : Int) < S.nb := by omega
  generalize S.nb = n at *
  clear h
  go_enter Tryz.func45, Tryz.ntmps45
  go_wp2
  go_ret
  exact ⟨by simp, rfl⟩
theorem block_out (h : FlIs w B F L P S) (k : Int) (hk : k < 0 ∨ S.nb ≤ k) : Calls Tryz.prog 45 #[.pointer (some ⟨F, 0, none⟩), .int .i64 k] w fun e w' => e = .returned (.pointer none) ∧ w = w' := by
  obtain ⟨_, c3, _, _⟩ := h.fcell
  have hn := h.ok.nb
  generalize S.nb = n at *
  clear h
  by_cases h0 : k < 0
  · clear hk
    go_enter Tryz.func45, Tryz.ntmps45
    go_wp2
    go_ret
    exact ⟨rfl, rfl⟩
  · have hki : ¬ k < n := by omega
    clear hk
    go_enter Tryz.func45, Tryz.ntmps45
    go_wp2
    go_ret
    exact ⟨rfl, rfl⟩
theorem many_any (h : FlIs w B F L P S) (k : Nat) (hk : k < S.nb) : Calls Tryz.prog 141 #[.pointer (some ⟨F, 0, none⟩), .pointer (some ⟨L, k * 5, none⟩)] w fun e w' => e = .returned (.int .i64 (S.has k : Nat)) ∧ w = w' := by
  obtain ⟨_, _, c4, _⟩ := h.fcell
  obtain ⟨_, _, _, d3, _⟩ := h.cells hk
  have hp := h.ok.pages
  unfold Fl.has hasOf
  generalize S.pages = n at *
  generalize (S.b k).one = o at *
  clear h
  cases o
  · go_enter Tryz.func141, Tryz.ntmps141
    go_wp2
    go_ret
    exact ⟨rfl, rfl⟩
  · obtain ⟨m, hm⟩ : ∃ m, m = n / 2 := ⟨_, rfl⟩
    rw [if_pos rfl, ← hm]
    have hd : (n : Int) / 2 = (m : Int) := by omega
    clear hm
    go_enter Tryz.func141, Tryz.ntmps141
    go_wp2
    go_ret
    exact ⟨rfl, rfl⟩
set_option maxHeartbeats 1000000 in
theorem page_in (h : FlIs w B F L P S) (k : Nat) (hk : k < S.nb) (p : Int) : Calls Tryz.prog 139 #[.pointer (some ⟨F, 0, none⟩), .pointer (some ⟨L, k * 5, none⟩), .int .i64 p] w fun e w' => e = .returned (.bool (decide (0 ≤ p ∧ p < S.has k))) ∧ w = w' := by
  have HM := Lib.hid (many_any h k hk)
  generalize S.has k = n at *
  clear h
  by_cases h0 : p < 0
  · rw [decide_eq_false (by omega)]
    have h0' : ¬ 0 ≤ p := by omega
    clear HM
    go_enter Tryz.func139, Tryz.ntmps139
    go_wp2
    go_ret
    exact ⟨rfl, rfl⟩
  · have h0' : 0 ≤ p := by omega
    by_cases h1 : p < n
    · rw [decide_eq_true (by omega)]
      go_enter Tryz.func139, Tryz.ntmps139
      go_wp2_with fail
      refine HM.out.mono ?_
      rintro e w' ⟨rfl, rfl⟩
      clear HM
      go_wp2
      go_ret
      exact ⟨rfl, rfl⟩
    · rw [decide_eq_false (by omega)]
      go_enter Tryz.func139, Tryz.ntmps139
      go_wp2_with fail
      refine HM.out.mono ?_
      rintro e w' ⟨rfl, rfl⟩
      clear HM
      go_wp2
      go_ret
      exact ⟨by rw [decide_eq_false (by omega)]; rfl, rfl⟩
theorem page_out (F : Nat) (p : Int) (w : World) : Calls Tryz.prog 139 #[.pointer (some ⟨F, 0, none⟩), .pointer none, .int .i64 p] w fun e w' => e = .returned (.bool false) ∧ w = w' := by
  go_enter Tryz.func139, Tryz.ntmps139
  go_wp2
  go_ret
  exact ⟨rfl, rfl⟩
theorem FlOff (h : FlIs w B F L P S) : Calls Tryz.prog 33 #[.pointer (some ⟨F, 0, none⟩)] w fun e w' => e = .returned (.bool S.off) ∧ w = w' := by
  obtain ⟨s, r, e, hr⟩ := h.row
  exact Off_any F _ _ _ _ w hr
/-- What there is against changing a block: 4 (down), 1 (no such), 7 (it fails), 0. -/
def mayE (off is failed : Bool) : Nat := if off then 4 else if !is then 1 else if failed then 7 else 0
theorem may_in (h : FlIs w B F L P S) (k : Nat) (hk : k < S.nb) (is : Bool) : Calls Tryz.prog 137 #[.pointer (some ⟨F, 0, none⟩), .pointer (some ⟨L, k * 5, none⟩), .bool is] w fun e w' => e = .returned (.int .i64 (mayE S.off is (S.b k).failed : Nat)) ∧ w = w' := by
  have HO := Lib.hid (FlOff h)
  obtain ⟨_, _, _, _, d4⟩ := h.cells hk
  generalize S.off = o at *
  generalize (S.b k).failed = f at *
  clear h
  cases o <;> cases is <;> cases f
  all_goals
    go_enter Tryz.func137, Tryz.ntmps137
    go_wp2_with fail
    refine HO.out.mono ?_
    rintro e w' ⟨rfl, rfl⟩
    clear HO
    go_wp2
    go_ret
    exact ⟨rfl, rfl⟩
theorem may_out (h : FlIs w B F L P S) : Calls Tryz.prog 137 #[.pointer (some ⟨F, 0, none⟩), .pointer none, .bool false] w fun e w' => e = .returned (.int .i64 (mayE S.off false false : Nat)) ∧ w = w' := by
  have HO := Lib.hid (FlOff h)
  generalize S.off = o at *
  clear h
  cases o
  all_goals
    go_enter Tryz.func137, Tryz.ntmps137
    go_wp2_with fail
    refine HO.out.mono ?_
    rintro e w' ⟨rfl, rfl⟩
    clear HO
    go_wp2
    go_ret
    exact ⟨rfl, rfl⟩
theorem Next_in (h : FlIs w B F L P S) (k : Nat) (hk : k < S.nb) : Calls Tryz.prog 23 #[.pointer (some ⟨F, 0, none⟩), .int .i64 k] w fun e w' => e = .returned (.int .i64 (if (S.b k).half then -1 else ((S.b k).next : Int))) ∧ w = w' := by
  have HB := Lib.hid (block_in h k hk)
  obtain ⟨_, d1, d2, _, _⟩ := h.cells hk
  generalize (S.b k).half = o at *
  generalize (S.b k).next = n at *
  clear h
  cases o
  all_goals
    go_enter Tryz.func23, Tryz.ntmps23
    go_wp2_with fail
    refine HB.out.mono ?_
    rintro e w' ⟨rfl, rfl⟩
    clear HB
    go_wp2
    go_ret
    exact ⟨rfl, rfl⟩
theorem Next_out (h : FlIs w B F L P S) (k : Int) (hk : k < 0 ∨ S.nb ≤ k) : Calls Tryz.prog 23 #[.pointer (some ⟨F, 0, none⟩), .int .i64 k] w fun e w' => e = .returned (.int .i64 (-1)) ∧ w = w' := by
  have HB := Lib.hid (block_out h k hk)
  clear h
  go_enter Tryz.func23, Tryz.ntmps23
  go_wp2_with fail
  refine HB.out.mono ?_
  rintro e w' ⟨rfl, rfl⟩
  clear HB
  go_wp2
  go_ret
  exact ⟨rfl, rfl⟩
theorem One_in (h : FlIs w B F L P S) (k : Nat) (hk : k < S.nb) : Calls Tryz.prog 134 #[.pointer (some ⟨F, 0, none⟩), .int .i64 k] w fun e w' => e = .returned (.bool (S.b k).one) ∧ w = w' := by
  have HB := Lib.hid (block_in h k hk)
  obtain ⟨_, _, _, d3, _⟩ := h.cells hk
  generalize (S.b k).one = o at *
  clear h
  go_enter Tryz.func134, Tryz.ntmps134
  go_wp2_with fail
  refine HB.out.mono ?_
  rintro e w' ⟨rfl, rfl⟩
  clear HB
  go_wp2
  go_ret
  exact ⟨rfl, rfl⟩
theorem One_out (h : FlIs w B F L P S) (k : Int) (hk : k < 0 ∨ S.nb ≤ k) : Calls Tryz.prog 134 #[.pointer (some ⟨F, 0, none⟩), .int .i64 k] w fun e w' => e = .returned (.bool false) ∧ w = w' := by
  have HB := Lib.hid (block_out h k hk)
  clear h
  go_enter Tryz.func134, Tryz.ntmps134
  go_wp2_with fail
  refine HB.out.mono ?_
  rintro e w' ⟨rfl, rfl⟩
  clear HB
  go_wp2
  go_ret
  exact ⟨rfl, rfl⟩
theorem Shape_any (h : FlIs w B F L P S) : Calls Tryz.prog 37 #[.pointer (some ⟨F, 0, none⟩)] w fun e w' => e = .returned (.tuple #[.int .i64 S.nb, .int .i64 S.pages, .int .i64 S.chunks]) ∧ ∃ n, w' = w.drewN n := by
  obtain ⟨_, c3, c4, c5⟩ := h.fcell
  generalize S.nb = n at *
  generalize S.pages = m at *
  generalize S.chunks = k at *
  clear h
  go_enter Tryz.func37, Tryz.ntmps37
  go_wp2
  go_quiet (fail)
  go_wp2
  refine bodyPost_ret (v := .tuple #[.int .i64 n, .int .i64 m, .int .i64 k]) (by simp [results, Tryz.results37, go_sem]) rfl ⟨rfl, _, rfl⟩
end
end Go.Proofs.YthjomnaejhehoaaGreatDoor
namespace Go.Proofs.YthjomnaejhehoaaGreatDoor
open Go.RowKit
set_option linter.unusedVariables false
set_option linter.unusedSimpArgs false

def Fl.setB (S : Fl) (k : Nat) (x : Bk) : Fl := { S with b := fun i => if i = k then x else S.b i }
theorem Fl.setB_self (S : Fl) (k : Nat) (x : Bk) : (S.setB k x).b k = x := by simp [Fl.setB]
theorem Fl.setB_ne (S : Fl) {k i : Nat} (x : Bk) (h : i ≠ k) : (S.setB k x).b i = S.b i := by simp [Fl.setB, h]
/-- Blocks of memory that hold no bytes. -/
def NoB (w : World) (T : List Nat) : Prop := ∀ g ∈ T, ∃ t cs, t ≠ 5 ∧ Row w g t cs
section
variable {w w' : World} {B F L : Nat} {P : Nat → Nat} {S : Fl}
theorem PgIs.turns {T : List Nat} {v : Value} {x : Option (List Nat)} (hp : PgIs w v x) (ht : Turns w w' T) (hn : NoB w T) : PgIs w' v x := by
  cases x with
  | none => exact hp
  | some l =>
    refine ht.own hp fun g hg hm => ?_
    obtain ⟨t, cs, h1, h2⟩ := hn g hm
    rcases hp.2 with ⟨rfl, _⟩ | ⟨g2, cap, cur, rfl, _, hr, _⟩
    · cases hg
    · have e : g2 = g := by injection hg
      subst e
      exact Row.ne_type (show Row w g2 5 cur from hr) h2 (Ne.symm h1) rfl
theorem FlIs.rowF (h : FlIs w B F L P S) : ∃ cs, Row w F 46 cs := by obtain ⟨s, r, e, hr⟩ := h.row; exact ⟨_, hr⟩
theorem FlIs.rowL (h : FlIs w B F L P S) : ∃ cs, Row w L 85 cs := by obtain ⟨cur, hr, _⟩ := h.bl; exact ⟨_, hr⟩
theorem FlIs.rowP (h : FlIs w B F L P S) {i : Nat} (hi : i < S.nb) : ∃ cs, Row w (P i) 22 cs := by obtain ⟨cur, hr, _⟩ := h.pg i hi; exact ⟨_, hr⟩
theorem FlIs.ne (h : FlIs w B F L P S) : F ≠ L ∧ (∀ i, i < S.nb → F ≠ P i) ∧ ∀ i, i < S.nb → L ≠ P i := by
  obtain ⟨_, hF⟩ := h.rowF
  obtain ⟨_, hL⟩ := h.rowL
  refine ⟨hF.ne_type hL (by decide), fun i hi => ?_, fun i hi => ?_⟩
  · obtain ⟨_, hP⟩ := h.rowP hi
    exact hF.ne_type hP (by decide)
  · obtain ⟨_, hP⟩ := h.rowP hi
    exact hL.ne_type hP (by decide)
theorem FlIs.noF (h : FlIs w B F L P S) : NoB w [F] := fun g hg => by
  obtain rfl : g = F := by simpa using hg
  obtain ⟨_, hF⟩ := h.rowF
  exact ⟨_, _, by decide, hF⟩
theorem FlIs.noL (h : FlIs w B F L P S) : NoB w [L] := fun g hg => by
  obtain rfl : g = L := by simpa using hg
  obtain ⟨_, hF⟩ := h.rowL
  exact ⟨_, _, by decide, hF⟩
theorem FlIs.noP (h : FlIs w B F L P S) {i : Nat} (hi : i < S.nb) : NoB w [P i] := fun g hg => by
  obtain rfl : g = P i := by simpa using hg
  obtain ⟨_, hF⟩ := h.rowP hi
  exact ⟨_, _, by decide, hF⟩
/-- The flash's own cells turned. -/
theorem FlIs.flash (h : FlIs w B F L P S) (ht : Turns w w' [F]) (o : Bool) (a : Nat) (ha : a < 9223372036854775808) (c : Int)
    (hr : ∃ s r e : Int, Row w' F 46 (fcells o a s [.slice (some ⟨L, 0, none⟩) S.nb S.nb, .int .i64 S.pages, .int .i64 S.chunks, .int .i64 c, .int .i64 r, .int .i64 e])) : FlIs w' B F L P { S with off := o, armed := a, progs := c } := by
  have hne := h.ne
  refine ⟨h.hF, h.hL, h.hP, hr, ?_, ?_, h.inj, ⟨h.ok.nb, h.ok.pages, h.ok.chunks, ha, h.ok.wf⟩⟩
  · obtain ⟨cur, hr, h2⟩ := h.bl
    exact ⟨cur, ht.row hr (by simpa using Ne.symm hne.1), h2⟩
  · intro i hi
    obtain ⟨cur, hr, hs, h2⟩ := h.pg i hi
    refine ⟨cur, ht.row hr (by simpa using Ne.symm (hne.2.1 i hi)), hs, fun j hj => ?_⟩
    obtain ⟨v, hv, hp⟩ := h2 j hj
    exact ⟨v, hv, hp.turns ht h.noF⟩
/-- One of a block's own cells turned. -/
theorem FlIs.put (h : FlIs w B F L P S) {k j : Nat} (hk : k < S.nb) (hj : j < 5) (v : Value) (x : Bk) (hx : bkCells S.pages (P k) x = (bkCells S.pages (P k) (S.b k)).set j v) (hpg : x.pg = (S.b k).pg) (hwf : WfB S.pages S.chunks x) :
    FlIs (w.setCell ⟨L, k * 5 + j, none⟩ v) B F L P (S.setB k x) := by
  have hne := h.ne
  have ht : Turns w (w.setCell ⟨L, k * 5 + j, none⟩ v) [L] := (Turns.refl _ _).setCell (by simp) _
  refine ⟨h.hF, h.hL, h.hP, ?_, ?_, ?_, h.inj, ⟨h.ok.nb, h.ok.pages, h.ok.chunks, h.ok.armed, ?_⟩⟩
  · obtain ⟨s, r, e, hr⟩ := h.row
    exact ⟨s, r, e, ht.row hr (by simpa using hne.1)⟩
  · obtain ⟨cur, hr, hs, hc⟩ := h.bl
    refine ⟨_, hr.put (k * 5 + j) v, by rw [Array.size_setIfInBounds]; exact hs, fun i hi m u hu => ?_⟩
    have hm5 : m < 5 := by
      have := (List.getElem?_eq_some_iff.1 hu).1
      simpa [bkCells] using this
    have hi' : i < S.nb := hi
    by_cases e : i = k
    · subst e
      rw [Fl.setB_self] at hu
      change (bkCells S.pages (P i) x)[m]? = some u at hu
      rw [hx, List.getElem?_set] at hu
      rw [Array.getElem?_setIfInBounds]
      by_cases ej : j = m
      · subst ej
        rw [if_pos rfl, if_pos (by simpa [bkCells] using hj)] at hu
        rw [if_pos rfl, if_pos (by omega)]
        exact hu
      · rw [if_neg ej] at hu
        rw [if_neg (by omega)]
        exact hc i hi' m u hu
    · rw [Fl.setB_ne _ _ e] at hu
      rw [Array.getElem?_setIfInBounds, if_neg (by omega)]
      exact hc i hi' m u hu
  · intro i hi
    obtain ⟨cur, hr, hs, h2⟩ := h.pg i hi
    refine ⟨cur, ht.row hr (by simpa using Ne.symm (hne.2.2 i hi)), hs, fun m hm => ?_⟩
    obtain ⟨u, hu, hp⟩ := h2 m hm
    refine ⟨u, hu, ?_⟩
    have e : ((S.setB k x).b i).pg m = (S.b i).pg m := by
      by_cases e : i = k
      · subst e; rw [Fl.setB_self, hpg]
      · rw [Fl.setB_ne _ _ e]
    rw [e]
    exact hp.turns ht h.noL
  · intro i hi
    by_cases e : i = k
    · subst e; rw [Fl.setB_self]; exact hwf
    · rw [Fl.setB_ne _ _ e]; exact h.ok.wf i hi
/-- One of a block's pages turned. -/
theorem FlIs.putPage (h : FlIs w B F L P S) {k p : Nat} (hk : k < S.nb) (hp : p < S.pages) (v : Value) (l : Option (List Nat)) (hv : PgIs w v l) (x : Bk) (hx : bkCells S.pages (P k) x = bkCells S.pages (P k) (S.b k)) (hpg : x.pg = fun j => if j = p then l else (S.b k).pg j) (hwf : WfB S.pages S.chunks x) :
    FlIs (w.setCell ⟨P k, p, none⟩ v) B F L P (S.setB k x) := by
  have hne := h.ne
  have ht : Turns w (w.setCell ⟨P k, p, none⟩ v) [P k] := (Turns.refl _ _).setCell (by simp) _
  refine ⟨h.hF, h.hL, h.hP, ?_, ?_, ?_, h.inj, ⟨h.ok.nb, h.ok.pages, h.ok.chunks, h.ok.armed, ?_⟩⟩
  · obtain ⟨s, r, e, hr⟩ := h.row
    exact ⟨s, r, e, ht.row hr (by simpa using hne.2.1 k hk)⟩
  · obtain ⟨cur, hr, hs, hc⟩ := h.bl
    refine ⟨cur, ht.row hr (by simpa using hne.2.2 k hk), hs, fun i hi m u hu => hc i hi m u ?_⟩
    by_cases e : i = k
    · subst e
      rw [Fl.setB_self] at hu
      change (bkCells S.pages (P i) x)[m]? = some u at hu
      rw [hx] at hu; exact hu
    · rw [Fl.setB_ne _ _ e] at hu; exact hu
  · intro i hi
    obtain ⟨cur, hr, hs, h2⟩ := h.pg i hi
    by_cases e : i = k
    · subst e
      refine ⟨_, hr.put p v, by rw [Array.size_setIfInBounds]; exact hs, fun m hm => ?_⟩
      rw [Fl.setB_self, hpg, Array.getElem?_setIfInBounds]
      by_cases em : p = m
      · subst em
        rw [if_pos rfl, if_pos (by rw [hs]; exact hp)]
        exact ⟨v, rfl, by simp only [if_true]; exact hv.turns ht (h.noP hi)⟩
      · obtain ⟨u, hu, hq⟩ := h2 m hm
        rw [if_neg em]
        exact ⟨u, hu, by simp only [if_neg (Ne.symm em)]; exact hq.turns ht (h.noP hi)⟩
    · refine ⟨cur, ht.row hr ?_, hs, fun m hm => ?_⟩
      · intro hm
        exact e (h.inj i k hi hk (by simpa using hm))
      · obtain ⟨u, hu, hq⟩ := h2 m hm
        rw [Fl.setB_ne _ _ e]
        exact ⟨u, hu, hq.turns ht (h.noP hk)⟩
  · intro i hi
    by_cases e : i = k
    · subst e; rw [Fl.setB_self]; exact hwf
    · rw [Fl.setB_ne _ _ e]; exact h.ok.wf i hi
end
end Go.Proofs.YthjomnaejhehoaaGreatDoor

namespace Go.Proofs.YthjomnaejhehoaaGreatDoor
open Go.RowKit
set_option linter.unusedVariables false
set_option linter.unusedSimpArgs false

/-- A step is done, or in its place the power goes. -/
def Fl.step (S : Fl) : Fl := if S.armed = 1 then { S with off := true, armed := 0 } else { S with armed := S.armed - 1 }
/-- A page's bytes. -/
def Fl.raw (S : Fl) (k p : Nat) : List Nat := ((S.b k).pg p).getD (List.replicate (73 * S.chunks) 255)
section
variable {w : World} {B F L : Nat} {P : Nat → Nat} {S : Fl}
theorem Fl.raw_ok (h : S.Ok) {k : Nat} (hk : k < S.nb) (p : Nat) : Raw S.chunks (S.raw k p) := by
  unfold Fl.raw
  cases hx : (S.b k).pg p with
  | none => exact ⟨by simp, fun u hu => by simp at hu; omega⟩
  | some l => exact (h.wf k hk).raw p l hx
theorem FlIs.off_eq {a : Nat} (h : FlIs w B F L P { S with armed := a }) (o : Bool) (e : S.off = o) : FlIs w B F L P { S with off := o, armed := a } := by subst e; exact h
theorem step_fl (h : FlIs w B F L P S) : Calls Tryz.prog 138 #[.pointer (some ⟨F, 0, none⟩)] w fun e w' => e = .returned (.bool (decide (S.armed ≠ 1))) ∧ FlIs w' B F L P S.step ∧ Turns w w' [F] := by
  obtain ⟨s, r, e, hr⟩ := h.row
  unfold Fl.step
  by_cases ha : S.armed = 1
  · rw [if_pos ha, decide_eq_false (by omega)]
    rw [ha] at hr
    exact (step_cut F S.off s _ w hr).mono fun e w' ⟨he, hr', ht⟩ => ⟨he, h.flash ht true 0 (by omega) S.progs ⟨s, r, _, hr'⟩, ht⟩
  · rw [if_neg ha, decide_eq_true ha]
    exact (step_done F S.off S.armed s _ ha h.ok.armed w hr).mono fun e w' ⟨he, ⟨s', hr'⟩, ht⟩ => ⟨he, h.flash ht S.off (S.armed - 1) (by have := h.ok.armed; omega) S.progs ⟨s', r, _, hr'⟩, ht⟩
theorem On_fl (h : FlIs w B F L P S) : Calls Tryz.prog 25 #[.pointer (some ⟨F, 0, none⟩)] w fun e w' => e = .returned (.tuple #[]) ∧ FlIs w' B F L P { S with off := false } ∧ Turns w w' [F] := by
  obtain ⟨s, r, e, hr⟩ := h.row
  exact (On_any F S.off S.armed s _ w hr).mono fun e w' ⟨he, hr', ht⟩ => ⟨he, h.flash ht false S.armed h.ok.armed S.progs ⟨s, r, _, hr'⟩, ht⟩
theorem Arm_fl (h : FlIs w B F L P S) (n : Int) (hn : n < 9223372036854775808) : Calls Tryz.prog 18 #[.pointer (some ⟨F, 0, none⟩), .int .i64 n] w fun e w' => e = .returned (.tuple #[]) ∧ FlIs w' B F L P { S with armed := (max n 1).toNat } ∧ Turns w w' [F] := by
  obtain ⟨s, r, e, hr⟩ := h.row
  have hm : (((max n 1).toNat : Nat) : Int) = max n 1 := by omega
  have ha : (max n 1).toNat < 9223372036854775808 := by omega
  exact (Arm_any F n S.off S.armed s _ w hr).mono fun e w' ⟨he, hr', ht⟩ => ⟨he, h.flash ht S.off (max n 1).toNat ha S.progs ⟨s, r, _, by rw [hm]; exact hr'⟩, ht⟩
theorem Add_fl (h : FlIs w B F L P S) (j : Nat) (hj : j = 7 ∨ j = 8) : Calls Tryz.prog 79 #[.pointer (some ⟨F, j, none⟩), .int .i64 1] w fun e w' => (∃ v, e = .returned v) ∧ FlIs w' B F L P S ∧ Turns w w' [F] := by
  obtain ⟨s, r, q, hr⟩ := h.row
  have ht : ∀ m, Turns w (w.setCell ⟨F, j, none⟩ (.int .i64 m)) [F] := fun m => (Turns.refl _ _).setCell (by simp) _
  rcases hj with rfl | rfl
  · refine (Add_any F 7 r 1 w (hr.cell 7) (hr.frozen 7)).mono fun e w' ⟨he, hw⟩ => ?_
    subst hw
    refine ⟨⟨_, he⟩, h.flash (ht _) S.off S.armed h.ok.armed S.progs ⟨s, IntKind.i64.wrap (r + 1), q, ?_⟩, ht _⟩
    have := hr.put 7 (.int .i64 (IntKind.i64.wrap (r + 1)))
    simpa [fcells] using this
  · refine (Add_any F 8 q 1 w (hr.cell 8) (hr.frozen 8)).mono fun e w' ⟨he, hw⟩ => ?_
    subst hw
    refine ⟨⟨_, he⟩, h.flash (ht _) S.off S.armed h.ok.armed S.progs ⟨s, r, IntKind.i64.wrap (q + 1), ?_⟩, ht _⟩
    have := hr.put 8 (.int .i64 (IntKind.i64.wrap (q + 1)))
    simpa [fcells] using this
theorem Add_progs (h : FlIs w B F L P S) : Calls Tryz.prog 79 #[.pointer (some ⟨F, 6, none⟩), .int .i64 1] w fun e w' => (∃ v, e = .returned v) ∧ FlIs w' B F L P { S with progs := IntKind.i64.wrap (S.progs + 1) } ∧ Turns w w' [F] := by
  obtain ⟨s, r, q, hr⟩ := h.row
  have ht : ∀ m, Turns w (w.setCell ⟨F, 6, none⟩ (.int .i64 m)) [F] := fun m => (Turns.refl _ _).setCell (by simp) _
  refine (Add_any F 6 S.progs 1 w (hr.cell 6) (hr.frozen 6)).mono fun e w' ⟨he, hw⟩ => ?_
  subst hw
  refine ⟨⟨_, he⟩, h.flash (ht _) S.off S.armed h.ok.armed (IntKind.i64.wrap (S.progs + 1)) ⟨s, r, q, ?_⟩, ht _⟩
  have := hr.put 6 (.int .i64 (IntKind.i64.wrap (S.progs + 1)))
  simpa [fcells] using this
set_option maxRecDepth 100000 in
set_option maxHeartbeats 1000000 in
theorem raw_any (h : FlIs w B F L P S) (k p : Nat) (hk : k < S.nb) (hp : p < S.pages) : Calls Tryz.prog 140 #[.pointer (some ⟨F, 0, none⟩), .pointer (some ⟨L, k * 5, none⟩), .int .i64 p] w fun e w' => ∃ A c, e = .returned (.slice A (73 * S.chunks) c) ∧ w'.ownsRow w.heap.size 5 1 (.slice A (73 * S.chunks) c) (73 * S.chunks) (intsV .u8 (S.raw k p)) ∧ Below w.heap.size w w' := by
  obtain ⟨_, _, _, c5⟩ := h.fcell
  obtain ⟨d0, _⟩ := h.cells hk
  obtain ⟨cur, hr, hs, hc⟩ := h.pg k hk
  obtain ⟨v, hv, hpv⟩ := hc p hp
  have cp : w.cell? ⟨P k, p, none⟩ = some v := (hr.cell p).trans hv
  have hch := h.ok.chunks
  have hpp := h.ok.pages
  have hraw := Fl.raw_ok h.ok hk p
  have hpi : (p : Int) < S.pages := by omega
  have HRw := Lib.hid (show S.raw k p = ((S.b k).pg p).getD (List.replicate (73 * S.chunks) 255) from rfl)
  have HRk := Lib.hid hraw
  generalize S.raw k p = l at *
  cases hx : (S.b k).pg p with
  | none =>
    rw [hx] at hpv HRw
    obtain rfl : v = .slice none 0 0 := hpv
    obtain ⟨n, hn⟩ : ∃ n, n = 73 * S.chunks := ⟨_, rfl⟩
    have HRp : Hid (∀ w1, Src w1 1 (some ⟨w.heap.size, 0, none⟩) 1 [.int .u8 255] → Calls Tryz.prog 142 #[.slice (some ⟨w.heap.size, 0, none⟩) 1 1, .int .i64 n] w1 fun e w' => ∃ g, e = .returned (.slice (some ⟨g, 0, none⟩) n n) ∧ w'.ownsRow w1.heap.size 5 1 (.slice (some ⟨g, 0, none⟩) n n) n (intsV .u8 (List.replicate n 255)) ∧ Below w1.heap.size w1 w') := fun w1 h1 => Repeat_any _ 1 n (by omega) w1 h1
    have HS1 : Hid (Src (w.alloc (.cells #[.int .u8 255] 5)) 1 (some ⟨w.heap.size, 0, none⟩) 1 [.int .u8 255]) := src_one
    have HB1 : Hid (Below w.heap.size w (w.alloc (.cells #[.int .u8 255] 5))) := (Below.refl _ _).alloc (Nat.le_refl _) _
    have HR1 := Lib.hid (HRp.out _ HS1.out)
    have c5' := keep_below HB1.out _ _ c5
    have hw : IntKind.i64.wrap ((S.chunks : Int) * 73) = (n : Int) := by rw [IntKind.wrap_i64]; omega
    have HL : Hid (l = List.replicate n 255) := by unfold Hid; rw [HRw.out, hn]; rfl
    rw [← hn]
    generalize S.chunks = ch at *
    generalize S.pages = pp at *
    clear h hr hc hraw hx HRw HRk HRp hn
    go_enter Tryz.func140, Tryz.ntmps140
    go_wp2_with fail
    refine HR1.out.mono ?_
    rintro e w' ⟨g, rfl, ho, hb⟩
    have HO : Hid (w'.ownsRow w.heap.size 5 1 (.slice (some ⟨g, 0, none⟩) n n) n (intsV .u8 l)) := by unfold Hid; rw [HL.out]; exact own_mono ho HB1.out.size
    have HB : Hid (Below w.heap.size w w') := HB1.out.trans (hb.mono HB1.out.size)
    clear HR1 HS1 HB1 ho hb HL
    go_wp2
    go_ret
    exact ⟨_, _, rfl, HO.out, HB.out⟩
  | some l' =>
    rw [hx] at hpv HRw
    obtain rfl : l = l' := HRw.out
    have hown : w.ownsRow 0 5 1 v l.length (intsV .u8 l) := hpv
    rw [HRk.out.1] at hown
    obtain ⟨g, c, rfl, _, _, hlc, hcm⟩ := own_at hown (by omega)
    obtain ⟨n, hn⟩ : ∃ n, n = 73 * S.chunks := ⟨_, rfl⟩
    rw [← hn] at hown cp
    have HC := Lib.hid (CloneB_any (some ⟨g, 0, none⟩) n c (intsV .u8 l) (by unfold reachBytes; omega) w (Src.of_own hown) (intsV_one .u8 l))
    rw [← hn]
    generalize S.pages = pp at *
    clear h hr hc hraw hx HRw HRk hown hlc hcm hn hpv
    go_enter Tryz.func140, Tryz.ntmps140
    go_wp2_with fail
    refine HC.out.mono ?_
    rintro e w' ⟨A', c', rfl, ho, hb⟩
    have HO := Lib.hid ho
    have HB := Lib.hid hb
    clear HC ho hb
    go_wp2
    go_ret
    exact ⟨_, _, rfl, HO.out, HB.out⟩
end
end Go.Proofs.YthjomnaejhehoaaGreatDoor
namespace Go.Proofs.YthjomnaejhehoaaGreatDoor
open Go.RowKit
set_option linter.unusedVariables false
set_option linter.unusedSimpArgs false

section
variable {w : World} {B F L : Nat} {P : Nat → Nat} {S : Fl}
/-- What Read leaves. -/
def FReadPost (w : World) (B F L : Nat) (P : Nat → Nat) (S : Fl) (k : Nat) (p : Int) (e : Ending) (w' : World) : Prop :=
  FlIs w' B F L P S ∧ Turns w w' [F] ∧ (S.off = true → e = .returned (.tuple #[.slice none 0 0, .int .i64 4])) ∧
    (S.off = false → ¬ (0 ≤ p ∧ p < S.has k) → e = .returned (.tuple #[.slice none 0 0, .int .i64 1])) ∧
    (S.off = false → (0 ≤ p ∧ p < S.has k) → (S.b k).half = true → e = .returned (.tuple #[.slice none 0 0, .int .i64 8])) ∧
    (S.off = false → (0 ≤ p ∧ p < S.has k) → (S.b k).half = false → ∃ A c, e = .returned (.tuple #[.slice A (73 * S.chunks) c, .int .i64 0]) ∧ w'.ownsRow w.heap.size 5 1 (.slice A (73 * S.chunks) c) (73 * S.chunks) (intsV .u8 (S.raw k p.toNat)))
theorem has_le (h : S.Ok) (k : Nat) : S.has k ≤ S.pages := by unfold Fl.has hasOf; split <;> omega
set_option maxHeartbeats 1000000 in
theorem FRead_any (h : FlIs w B F L P S) (k : Nat) (hk : k < S.nb) (p : Int) : Calls Tryz.prog 136 #[.pointer (some ⟨F, 0, none⟩), .int .i64 k, .int .i64 p] w (FReadPost w B F L P S k p) := by
  have HB := Lib.hid (block_in h k hk)
  have HOf := Lib.hid (FlOff h)
  have HPg := Lib.hid (page_in h k hk p)
  have HAd := Lib.hid (Add_fl h 7 (by omega))
  obtain ⟨_, _, d2, _, _⟩ := h.cells hk
  have HH := Lib.hid h
  have hhas := has_le h.ok k
  clear h
  unfold FReadPost
  obtain ⟨o, ho⟩ : ∃ o, o = S.off := ⟨_, rfl⟩
  have HOo := Lib.hid ho
  rw [← ho] at HOf ⊢
  obtain ⟨hf, hhf⟩ : ∃ x, x = (S.b k).half := ⟨_, rfl⟩
  rw [← hhf] at d2 ⊢
  cases o
  · by_cases hp : 0 ≤ p ∧ p < S.has k
    · rw [decide_eq_true hp] at HPg
      cases hf
      · obtain ⟨q, rfl⟩ : ∃ q : Nat, p = q := ⟨p.toNat, by omega⟩
        have hq : q < S.pages := by omega
        have HRw : Hid (∀ w1, FlIs w1 B F L P S → Calls Tryz.prog 140 #[.pointer (some ⟨F, 0, none⟩), .pointer (some ⟨L, k * 5, none⟩), .int .i64 q] w1 fun e w' => ∃ A c, e = .returned (.slice A (73 * S.chunks) c) ∧ w'.ownsRow w1.heap.size 5 1 (.slice A (73 * S.chunks) c) (73 * S.chunks) (intsV .u8 (S.raw k q)) ∧ Below w1.heap.size w1 w') := fun w1 h1 => raw_any h1 k q hk hq
        have HPp := Lib.hid hp
        clear ho hhf hp hhas
        go_enter Tryz.func136, Tryz.ntmps136
        go_wp2_with fail
        refine HB.out.mono ?_
        rintro e w' ⟨rfl, rfl⟩
        go_wp2_with fail
        refine HOf.out.mono ?_
        rintro e w' ⟨rfl, rfl⟩
        go_wp2_with fail
        refine HPg.out.mono ?_
        rintro e w' ⟨rfl, rfl⟩
        go_wp2_with fail
        refine HAd.out.mono ?_
        rintro e w1 ⟨⟨v, rfl⟩, h1, ht⟩
        have H1 := Lib.hid h1
        have HT := Lib.hid ht
        have HR1 := Lib.hid (HRw.out w1 h1)
        clear HB HOf HPg HAd h1 ht HRw
        go_wp2_with fail
        refine HR1.out.mono ?_
        rintro e w2 ⟨A, c, rfl, ho, hb⟩
        have HB2 := Lib.hid hb
        have HO2 := Lib.hid ho
        clear HR1 ho hb
        go_wp2
        refine bodyPost_ret (v := .tuple #[.slice A (73 * S.chunks) c, .int .i64 0]) (by simp [results, Tryz.results136, go_sem]) rfl ⟨H1.out.keep (Turns.of_below HB2.out _), HT.out.then_below HB2.out, fun h => by (cases h), fun _ h => absurd HPp.out h, fun _ _ h => by (cases h), fun _ _ _ => ⟨A, c, rfl, own_mono HO2.out HT.out.size⟩⟩
      · have HPp := Lib.hid hp
        clear ho hhf hp hhas HAd
        go_enter Tryz.func136, Tryz.ntmps136
        go_wp2_with fail
        refine HB.out.mono ?_
        rintro e w' ⟨rfl, rfl⟩
        go_wp2_with fail
        refine HOf.out.mono ?_
        rintro e w' ⟨rfl, rfl⟩
        go_wp2_with fail
        refine HPg.out.mono ?_
        rintro e w' ⟨rfl, rfl⟩
        clear HB HOf HPg
        go_wp2
        refine bodyPost_ret (v := .tuple #[.slice none 0 0, .int .i64 8]) (by simp [results, Tryz.results136, go_sem]) rfl ⟨HH.out, Turns.refl _ _, fun h => by (cases h), fun _ h => absurd HPp.out h, fun _ _ _ => rfl, fun _ _ h => by (cases h)⟩
    · rw [decide_eq_false hp] at HPg
      have HPp := Lib.hid hp
      clear ho hhf hp hhas HAd
      go_enter Tryz.func136, Tryz.ntmps136
      go_wp2_with fail
      refine HB.out.mono ?_
      rintro e w' ⟨rfl, rfl⟩
      go_wp2_with fail
      refine HOf.out.mono ?_
      rintro e w' ⟨rfl, rfl⟩
      go_wp2_with fail
      refine HPg.out.mono ?_
      rintro e w' ⟨rfl, rfl⟩
      clear HB HOf HPg
      go_wp2
      refine bodyPost_ret (v := .tuple #[.slice none 0 0, .int .i64 1]) (by simp [results, Tryz.results136, go_sem]) rfl ⟨HH.out, Turns.refl _ _, fun h => by (cases h), fun _ _ => rfl, fun _ h => absurd h HPp.out, fun _ h => absurd h HPp.out⟩
  · clear ho hhf hhas HAd HPg
    go_enter Tryz.func136, Tryz.ntmps136
    go_wp2_with fail
    refine HB.out.mono ?_
    rintro e w' ⟨rfl, rfl⟩
    go_wp2_with fail
    refine HOf.out.mono ?_
    rintro e w' ⟨rfl, rfl⟩
    clear HB HOf
    go_wp2
    refine bodyPost_ret (v := .tuple #[.slice none 0 0, .int .i64 4]) (by simp [results, Tryz.results136, go_sem]) rfl ⟨HH.out, Turns.refl _ _, fun _ => rfl, fun h => by (cases h), fun h => by (cases h), fun h => by (cases h)⟩
theorem FlIs.frozenL (h : FlIs w B F L P S) (i : Nat) : w.frozen? ⟨L, i, none⟩ = false := by obtain ⟨_, hr⟩ := h.rowL; exact hr.frozen i
theorem FlIs.frozenP (h : FlIs w B F L P S) {k : Nat} (hk : k < S.nb) (i : Nat) : w.frozen? ⟨P k, i, none⟩ = false := by obtain ⟨_, hr⟩ := h.rowP hk; exact hr.frozen i
/-- A mode, of a block that is erased: no answer but 0. -/
theorem Mode_fl (h : FlIs w B F L P S) (k : Nat) (hk : k < S.nb) (one : Bool) (ho : S.off = false) (hf : (S.b k).failed = false) (hh : (S.b k).half = false) (hn : (S.b k).next = 0) :
    Calls Tryz.prog 133 #[.pointer (some ⟨F, 0, none⟩), .int .i64 k, .bool one] w fun e w' => e = .returned (.int .i64 0) ∧ FlIs w' B F L P (S.setB k { S.b k with one := one }) ∧ Turns w w' [L] := by
  have HB := Lib.hid (block_in h k hk)
  have HM := Lib.hid (may_in h k hk true)
  obtain ⟨_, d1, d2, d3, _⟩ := h.cells hk
  have f3 := h.frozenL (k * 5 + 3)
  have hwf := h.ok.wf k hk
  have HF : Hid (FlIs (w.setCell ⟨L, k * 5 + 3, none⟩ (.bool one)) B F L P (S.setB k { S.b k with one := one })) := h.put hk (by omega) _ _ rfl rfl ⟨by show (S.b k).next ≤ _; rw [hn]; omega, hwf.none, hwf.raw⟩
  have HT : Hid (Turns w (w.setCell ⟨L, k * 5 + 3, none⟩ (.bool one)) [L]) := (Turns.refl _ _).setCell (by simp) _
  rw [ho, hf] at HM
  rw [hh] at d2
  rw [hn] at d1
  clear h ho hf hh hn hwf
  go_enter Tryz.func133, Tryz.ntmps133
  go_wp2_with fail
  refine HB.out.mono ?_
  rintro e w' ⟨rfl, rfl⟩
  go_wp2_with fail
  refine HM.out.mono ?_
  rintro e w' ⟨rfl, rfl⟩
  clear HB HM
  go_wp2
  go_ret
  exact ⟨rfl, HF.out, HT.out⟩
theorem Fail_in (h : FlIs w B F L P S) (k : Nat) (hk : k < S.nb) : Calls Tryz.prog 36 #[.pointer (some ⟨F, 0, none⟩), .int .i64 k] w fun e w' => e = .returned (.bool true) ∧ FlIs w' B F L P (S.setB k { S.b k with failed := true }) ∧ Turns w w' [L] := by
  have HB := Lib.hid (block_in h k hk)
  obtain ⟨_, _, _, _, d4⟩ := h.cells hk
  have f4 := h.frozenL (k * 5 + 4)
  have hwf := h.ok.wf k hk
  have HF : Hid (FlIs (w.setCell ⟨L, k * 5 + 4, none⟩ (.bool true)) B F L P (S.setB k { S.b k with failed := true })) := h.put hk (by omega) _ _ rfl rfl ⟨hwf.next, hwf.none, hwf.raw⟩
  have HT : Hid (Turns w (w.setCell ⟨L, k * 5 + 4, none⟩ (.bool true)) [L]) := (Turns.refl _ _).setCell (by simp) _
  clear h hwf
  go_enter Tryz.func36, Tryz.ntmps36
  go_wp2_with fail
  refine HB.out.mono ?_
  rintro e w' ⟨rfl, rfl⟩
  clear HB
  go_wp2
  go_ret
  exact ⟨rfl, HF.out, HT.out⟩
theorem Fail_out (h : FlIs w B F L P S) (k : Int) (hk : k < 0 ∨ S.nb ≤ k) : Calls Tryz.prog 36 #[.pointer (some ⟨F, 0, none⟩), .int .i64 k] w fun e w' => e = .returned (.bool false) ∧ w = w' := by
  have HB := Lib.hid (block_out h k hk)
  clear h
  go_enter Tryz.func36, Tryz.ntmps36
  go_wp2_with fail
  refine HB.out.mono ?_
  rintro e w' ⟨rfl, rfl⟩
  clear HB
  go_wp2
  go_ret
  exact ⟨rfl, rfl⟩
end
end Go.Proofs.YthjomnaejhehoaaGreatDoor

namespace Go.Proofs.YthjomnaejhehoaaGreatDoor
open Go.RowKit
set_option linter.unusedVariables false
set_option linter.unusedSimpArgs false

theorem cells_put {nb pages : Nat} {P : Nat → Nat} {b : Nat → Bk} {cur : Array Value} (hs : cur.size = nb * 5) (hc : ∀ i, i < nb → ∀ j v, (bkCells pages (P i) (b i))[j]? = some v → cur[i * 5 + j]? = some v)
    {k j : Nat} (hk : k < nb) (hj : j < 5) (v : Value) (x : Bk) (hx : bkCells pages (P k) x = (bkCells pages (P k) (b k)).set j v) :
    ∀ i, i < nb → ∀ m u, (bkCells pages (P i) (if i = k then x else b i))[m]? = some u → (cur.setIfInBounds (k * 5 + j) v)[i * 5 + m]? = some u := by
  intro i hi m u hu
  have hm5 : m < 5 := by
    have := (List.getElem?_eq_some_iff.1 hu).1
    simpa [bkCells] using this
  by_cases e : i = k
  · subst e
    rw [if_pos rfl, hx, List.getElem?_set] at hu
    rw [Array.getElem?_setIfInBounds]
    by_cases ej : j = m
    · subst ej
      rw [if_pos rfl, if_pos (by simpa [bkCells] using hj)] at hu
      rw [if_pos rfl, if_pos (by omega)]
      exact hu
    · rw [if_neg ej] at hu
      rw [if_neg (by omega)]
      exact hc i hi m u hu
  · rw [if_neg e] at hu
    rw [Array.getElem?_setIfInBounds, if_neg (by omega)]
    exact hc i hi m u hu
section
variable {w w' : World} {B F L : Nat} {P : Nat → Nat} {S : Fl}
theorem FlIs.no3 (h : FlIs w B F L P S) {k : Nat} (hk : k < S.nb) : NoB w [F, L, P k] := fun g hg => by
  rcases List.mem_cons.1 hg with rfl | hg
  · exact h.noF g (by simp)
  · rcases List.mem_cons.1 hg with rfl | hg
    · exact h.noL g (by simp)
    · exact h.noP hk g hg
/-- A flash of which one block was turned. -/
theorem FlIs.prog (h : FlIs w B F L P S) {k : Nat} (hk : k < S.nb) (ht : Turns w w' [F, L, P k]) (o : Bool) (a : Nat) (ha : a < 9223372036854775808)
    (hr : ∃ s r e : Int, Row w' F 46 (fcells o a s [.slice (some ⟨L, 0, none⟩) S.nb S.nb, .int .i64 S.pages, .int .i64 S.chunks, .int .i64 S.progs, .int .i64 r, .int .i64 e])) (x : Bk)
    (hL : ∃ cur, Row w' L 85 cur ∧ cur.size = S.nb * 5 ∧ ∀ i, i < S.nb → ∀ j v, (bkCells S.pages (P i) (if i = k then x else S.b i))[j]? = some v → cur[i * 5 + j]? = some v)
    (hP : ∃ cur, Row w' (P k) 22 cur ∧ cur.size = S.pages ∧ ∀ j, j < S.pages → ∃ v, cur[j]? = some v ∧ PgIs w' v (x.pg j)) (hwf : WfB S.pages S.chunks x) :
    FlIs w' B F L P { S.setB k x with off := o, armed := a } := by
  have hne := h.ne
  refine ⟨h.hF, h.hL, h.hP, hr, hL, ?_, h.inj, ⟨h.ok.nb, h.ok.pages, h.ok.chunks, ha, ?_⟩⟩
  · intro i hi
    have hi' : i < S.nb := hi
    by_cases e : i = k
    · subst e
      obtain ⟨cur, hr, hs, h2⟩ := hP
      exact ⟨cur, hr, hs, fun j hj => by
        obtain ⟨v, hv, hp⟩ := h2 j hj
        exact ⟨v, hv, by simpa [Fl.setB] using hp⟩⟩
    · obtain ⟨cur, hr, hs, h2⟩ := h.pg i hi'
      refine ⟨cur, ht.row hr ?_, hs, fun j hj => ?_⟩
      · simp only [List.mem_cons, List.not_mem_nil, or_false, not_or]
        exact ⟨Ne.symm (hne.2.1 i hi'), Ne.symm (hne.2.2 i hi'), fun he => e (h.inj i k hi' hk he)⟩
      · obtain ⟨v, hv, hp⟩ := h2 j hj
        refine ⟨v, hv, ?_⟩
        have := hp.turns ht (h.no3 hk)
        simpa [Fl.setB, e] using this
  · intro i hi
    by_cases e : i = k
    · subst e
      have : (S.setB i x).b i = x := Fl.setB_self _ _ _
      show WfB S.pages S.chunks ((S.setB i x).b i)
      rw [this]; exact hwf
    · show WfB S.pages S.chunks ((S.setB k x).b i)
      rw [Fl.setB_ne _ _ e]; exact h.ok.wf i hi
end
/-- A page of which j chunks are written. -/
def part (r : List Nat) (ch j : Nat) : List Nat := r.take (73 * j) ++ List.replicate (73 * (ch - j)) 255
theorem part_length (r : List Nat) (ch j : Nat) (h : r.length = 73 * ch) (hj : j ≤ ch) : (part r ch j).length = 73 * ch := by unfold part; rw [List.length_append, List.length_take, List.length_replicate, h]; omega
theorem part_raw {r : List Nat} {ch : Nat} (h : Raw ch r) {j : Nat} (hj : j ≤ ch) : Raw ch (part r ch j) := by
  refine ⟨part_length r ch j h.1 hj, fun u hu => ?_⟩
  unfold part at hu
  rw [List.mem_append] at hu
  rcases hu with h1 | h1
  · exact h.2 u (List.mem_of_mem_take h1)
  · rw [List.mem_replicate] at h1; omega
theorem part_zero (r : List Nat) (ch : Nat) : part r ch 0 = List.replicate (73 * ch) 255 := by unfold part; simp
theorem part_all (r : List Nat) (ch : Nat) (h : r.length = 73 * ch) : part r ch ch = r := by unfold part; rw [List.take_of_length_le (by omega)]; simp
theorem splice_mid {α : Type} (A M Z : List α) : splice (A ++ Z) A.length M = A ++ (M ++ Z.drop M.length) := by
  unfold splice
  rw [List.take_left, List.drop_append, List.drop_of_length_le (by omega), List.nil_append, Nat.add_sub_cancel_left]
theorem part_splice (r : List Nat) (ch j : Nat) (h : r.length = 73 * ch) (hj : j < ch) : splice (intsV .u8 (part r ch j)) (73 * j) (intsV .u8 ((r.drop (73 * j)).take 73)) = intsV .u8 (part r ch (j + 1)) := by
  have h1 : (r.take (73 * j)).length = 73 * j := by rw [List.length_take, h]; omega
  have h2 : ((r.drop (73 * j)).take 73).length = 73 := by rw [List.length_take, List.length_drop, h]; omega
  have hz : (List.replicate (73 * (ch - j)) 255).drop 73 = List.replicate (73 * (ch - (j + 1))) 255 := by rw [List.drop_replicate]; congr 1; omega
  have hp : part r ch (j + 1) = r.take (73 * j) ++ ((r.drop (73 * j)).take 73 ++ (List.replicate (73 * (ch - j)) 255).drop 73) := by
    unfold part
    rw [hz, ← List.append_assoc]
    congr 1
    rw [show 73 * (j + 1) = 73 * j + 73 by omega, List.take_add]
  have hs := splice_mid (intsV .u8 (r.take (73 * j))) (intsV .u8 ((r.drop (73 * j)).take 73)) (intsV .u8 (List.replicate (73 * (ch - j)) 255))
  rw [intsV_length, intsV_length, h1, h2, ← intsV_append] at hs
  rw [hp, intsV_append, intsV_append]
  refine hs.trans ?_
  congr 2
  exact (List.map_drop ..).symm
end Go.Proofs.YthjomnaejhehoaaGreatDoor
namespace Go.Proofs.YthjomnaejhehoaaGreatDoor
open Go.RowKit
set_option linter.unusedVariables false
set_option linter.unusedSimpArgs false

theorem own_exact {w : World} {B g n : Nat} {e : TypeId} {xs : List Value} (h : w.ownsRow B e 1 (.slice (some ⟨g, 0, none⟩) n n) n xs) : Row w g e xs.toArray ∧ B ≤ g := by
  obtain ⟨hB, cur, hr, hs, _, _, ht⟩ := own_row h
  refine ⟨?_, hB⟩
  have : cur = xs.toArray := by
    apply Array.ext'
    rw [← ht, List.take_of_length_le (by simp [hs])]
  rw [← this]; exact hr
section
variable {w : World} {B F L : Nat} {P : Nat → Nat} {S : Fl}
set_option maxRecDepth 100000 in
set_option maxHeartbeats 1000000 in
theorem raw_new (h : FlIs w B F L P S) (k p : Nat) (hk : k < S.nb) (hp : p < S.pages) (hx : (S.b k).pg p = none) : Calls Tryz.prog 140 #[.pointer (some ⟨F, 0, none⟩), .pointer (some ⟨L, k * 5, none⟩), .int .i64 p] w fun e w' => ∃ g, e = .returned (.slice (some ⟨g, 0, none⟩) (73 * S.chunks) (73 * S.chunks)) ∧ Row w' g 5 (intsV .u8 (List.replicate (73 * S.chunks) 255)).toArray ∧ w.heap.size ≤ g ∧ Below w.heap.size w w' := by
  obtain ⟨_, _, _, c5⟩ := h.fcell
  obtain ⟨d0, _⟩ := h.cells hk
  obtain ⟨cur, hr, hs, hc⟩ := h.pg k hk
  obtain ⟨v, hv, hpv⟩ := hc p hp
  have cp : w.cell? ⟨P k, p, none⟩ = some v := (hr.cell p).trans hv
  have hch := h.ok.chunks
  have hpp := h.ok.pages
  have hpi : (p : Int) < S.pages := by omega
  rw [hx] at hpv
  obtain rfl : v = .slice none 0 0 := hpv
  obtain ⟨n, hn⟩ : ∃ n, n = 73 * S.chunks := ⟨_, rfl⟩
  have HRp : Hid (∀ w1, Src w1 1 (some ⟨w.heap.size, 0, none⟩) 1 [.int .u8 255] → Calls Tryz.prog 142 #[.slice (some ⟨w.heap.size, 0, none⟩) 1 1, .int .i64 n] w1 fun e w' => ∃ g, e = .returned (.slice (some ⟨g, 0, none⟩) n n) ∧ w'.ownsRow w1.heap.size 5 1 (.slice (some ⟨g, 0, none⟩) n n) n (intsV .u8 (List.replicate n 255)) ∧ Below w1.heap.size w1 w') := fun w1 h1 => Repeat_any _ 1 n (by omega) w1 h1
  have HS1 : Hid (Src (w.alloc (.cells #[.int .u8 255] 5)) 1 (some ⟨w.heap.size, 0, none⟩) 1 [.int .u8 255]) := src_one
  have HB1 : Hid (Below w.heap.size w (w.alloc (.cells #[.int .u8 255] 5))) := (Below.refl _ _).alloc (Nat.le_refl _) _
  have HR1 := Lib.hid (HRp.out _ HS1.out)
  have c5' := keep_below HB1.out _ _ c5
  have hw : IntKind.i64.wrap ((S.chunks : Int) * 73) = (n : Int) := by rw [IntKind.wrap_i64]; omega
  rw [← hn]
  generalize S.chunks = ch at *
  generalize S.pages = pp at *
  clear h hr hc hx HRp hn
  go_enter Tryz.func140, Tryz.ntmps140
  go_wp2_with fail
  refine HR1.out.mono ?_
  rintro e w' ⟨g, rfl, ho, hb⟩
  have HO := Lib.hid (own_exact (own_mono ho HB1.out.size))
  have HB : Hid (Below w.heap.size w w') := HB1.out.trans (hb.mono HB1.out.size)
  clear HR1 HS1 HB1 ho hb
  go_wp2
  go_ret
  exact ⟨_, rfl, HO.out.1, HO.out.2, HB.out⟩
/-- A block of which j chunks of a page are written. -/
def progB (S : Fl) (k : Nat) (r : List Nat) (j : Nat) : Bk := if j = 0 then S.b k else { S.b k with pg := fun i => if i = (S.b k).next then some (part r S.chunks j) else (S.b k).pg i, next := (S.b k).next + 1 }
def curL (cur : Array Value) (k m j : Nat) : Array Value := if j = 0 then cur else cur.setIfInBounds (k * 5 + 1) (.int .i64 (m + 1 : Nat))
def curP (cur : Array Value) (m g n j : Nat) : Array Value := if j = 0 then cur else cur.setIfInBounds m (.slice (some ⟨g, 0, none⟩) n n)
theorem prog_rebuild (h : FlIs w B F L P S) {k : Nat} (hk : k < S.nb) (hn : (S.b k).next < S.has k) (hh : (S.b k).half = false) {r : List Nat} (hr : Raw S.chunks r) {j : Nat} (hj : j ≤ S.chunks) {cL cP : Array Value} {g : Nat}
    (hLs : cL.size = S.nb * 5) (hLc : ∀ i, i < S.nb → ∀ j v, (bkCells S.pages (P i) (S.b i))[j]? = some v → cL[i * 5 + j]? = some v)
    (hPs : cP.size = S.pages) (hPc : ∀ j, j < S.pages → ∃ v, cP[j]? = some v ∧ PgIs w v ((S.b k).pg j))
    {w' : World} (ht : Turns w w' [F, L, P k]) (o : Bool) (a : Nat) (ha : a < 9223372036854775808)
    (hF : ∃ s r e : Int, Row w' F 46 (fcells o a s [.slice (some ⟨L, 0, none⟩) S.nb S.nb, .int .i64 S.pages, .int .i64 S.chunks, .int .i64 S.progs, .int .i64 r, .int .i64 e]))
    (hL : Row w' L 85 (curL cL k (S.b k).next j)) (hP : Row w' (P k) 22 (curP cP (S.b k).next g (73 * S.chunks) j)) (hg : Row w' g 5 (intsV .u8 (part r S.chunks j)).toArray) :
    FlIs w' B F L P { S.setB k (progB S k r j) with off := o, armed := a } := by
  have hwf := h.ok.wf k hk
  have hhas := has_le h.ok k
  have hch := h.ok.chunks
  have hpp := h.ok.pages
  by_cases h0 : j = 0
  · subst h0
    rw [curL, if_pos rfl] at hL
    rw [curP, if_pos rfl] at hP
    rw [progB, if_pos rfl]
    refine h.prog hk ht o a ha hF _ ⟨_, hL, hLs, fun i hi j v hv => hLc i hi j v ?_⟩ ⟨_, hP, hPs, fun j hj => ?_⟩ hwf
    · by_cases e : i = k
      · rw [if_pos e] at hv; rw [e] at hv ⊢; exact hv
      · rw [if_neg e] at hv; exact hv
    · obtain ⟨v, hv, hp⟩ := hPc j hj
      exact ⟨v, hv, hp.turns ht (h.no3 hk)⟩
  · rw [curL, if_neg h0] at hL
    rw [curP, if_neg h0] at hP
    rw [progB, if_neg h0]
    refine h.prog hk ht o a ha hF _ ⟨_, hL, by rw [Array.size_setIfInBounds]; exact hLs, cells_put hLs hLc hk (by omega) _ _ rfl⟩ ⟨_, hP, by rw [Array.size_setIfInBounds]; exact hPs, fun i hi => ?_⟩ ⟨?_, ?_, ?_⟩
    · rw [Array.getElem?_setIfInBounds]
      by_cases e : (S.b k).next = i
      · rw [if_pos e, if_pos (by omega)]
        refine ⟨_, rfl, ?_⟩
        simp only [e, if_true]
        have hl := part_length r S.chunks j hr.1 hj
        show w'.ownsRow 0 5 1 _ (part r S.chunks j).length _
        rw [hl]
        exact own_of_row hg hl (Nat.zero_le _) (by unfold maxLen; omega)
      · rw [if_neg e]
        obtain ⟨v, hv, hp⟩ := hPc i hi
        exact ⟨v, hv, by simp only [if_neg (Ne.symm e)]; exact hp.turns ht (h.no3 hk)⟩
    · show (S.b k).next + 1 ≤ hasOf S.pages _
      exact hn
    · intro i hi
      have hi' : (S.b k).next + 1 ≤ i := hi
      show (if i = (S.b k).next then _ else (S.b k).pg i) = none
      rw [if_neg (by omega)]
      exact hwf.none i (by omega)
    · intro i l hl
      have hl' : (if i = (S.b k).next then some (part r S.chunks j) else (S.b k).pg i) = some l := hl
      by_cases e : i = (S.b k).next
      · rw [if_pos e] at hl'
        injection hl' with hl'
        subst hl'
        exact part_raw hr hj
      · rw [if_neg e] at hl'
        exact hwf.raw i l hl'
end
end Go.Proofs.YthjomnaejhehoaaGreatDoor

namespace Go.Proofs.YthjomnaejhehoaaGreatDoor
open Go.RowKit
set_option linter.unusedVariables false
set_option linter.unusedSimpArgs false

theorem curL_put (cur : Array Value) (k m j : Nat) : (curL cur k m j).setIfInBounds (k * 5 + 1) (.int .i64 (m + 1 : Nat)) = curL cur k m (j + 1) := by
  by_cases h : j = 0
  · simp [curL, h]
  · simp [curL, h]
theorem curP_put (cur : Array Value) (m g n j : Nat) : (curP cur m g n j).setIfInBounds m (.slice (some ⟨g, 0, none⟩) n n) = curP cur m g n (j + 1) := by
  by_cases h : j = 0
  · simp [curP, h]
  · simp [curP, h]
theorem curL_at {cur : Array Value} {k i : Nat} {v : Value} (m j : Nat) (h : cur[k * 5]? = some v) : (curL cur k m j)[k * 5]? = some v := by
  unfold curL
  split
  · exact h
  · rw [Array.getElem?_setIfInBounds, if_neg (by omega)]; exact h
theorem curL_size (cur : Array Value) (k m j : Nat) : (curL cur k m j).size = cur.size := by unfold curL; split <;> simp
theorem curP_size (cur : Array Value) (m g n j : Nat) : (curP cur m g n j).size = cur.size := by unfold curP; split <;> simp
theorem Row.some {w : World} {g i : Nat} {t : TypeId} {cs : Array Value} (h : Row w g t cs) (hi : i < cs.size) : ∃ v, w.cell? ⟨g, i, none⟩ = some v := ⟨cs[i], by rw [h.cell, Array.getElem?_eq_getElem hi]⟩
theorem Turns.row1 {w w' : World} {T : List Nat} {g : Nat} {t : TypeId} {cs : Array Value} (hr : Row w g t cs) (ht : Turns w w' T) (hn : ∀ k ∈ T, g ≠ k) : Row w' g t cs := ht.row hr (fun hm => hn g hm rfl)
section
variable {w : World} {B F L : Nat} {P : Nat → Nat} {S : Fl}
/-- What Program leaves. -/
def ProgPost (w : World) (B F L : Nat) (P : Nat → Nat) (S : Fl) (k : Nat) (r : List Nat) (e : Ending) (w' : World) : Prop :=
  Turns w w' [F, L, P k] ∧ ((S.armed = 0 ∨ S.chunks < S.armed) → e = .returned (.int .i64 0) ∧ FlIs w' B F L P { S.setB k (progB S k r S.chunks) with off := false, armed := S.armed - S.chunks, progs := IntKind.i64.wrap (S.progs + 1) }) ∧
    (1 ≤ S.armed → S.armed ≤ S.chunks → e = .returned (.int .i64 4) ∧ FlIs w' B F L P { S.setB k (progB S k r (S.armed - 1)) with off := true, armed := 0 })
set_option maxRecDepth 100000 in
set_option maxHeartbeats 4000000 in
theorem Program_any (h : FlIs w B F L P S) (k : Nat) (hk : k < S.nb) (ho : S.off = false) (hf : (S.b k).failed = false) (hh : (S.b k).half = false) (hn : (S.b k).next < S.has k) (r : List Nat) (hr : Raw S.chunks r) (rb rc : Nat) (hrc : 73 * S.chunks ≤ rc)
    (hown : w.ownsRow 0 5 1 (.slice (some ⟨rb, 0, none⟩) (73 * S.chunks) rc) (73 * S.chunks) (intsV .u8 r)) :
    Calls Tryz.prog 135 #[.pointer (some ⟨F, 0, none⟩), .int .i64 k, .int .i64 ((S.b k).next : Nat), .slice (some ⟨rb, 0, none⟩) (73 * S.chunks) rc] w (ProgPost w B F L P S k r) := by
  have HBl := Lib.hid (block_in h k hk)
  have hpg0 := page_in h k hk ((S.b k).next : Nat)
  rw [decide_eq_true (by omega)] at hpg0
  have HPg := Lib.hid hpg0
  have hmy0 := may_in h k hk true
  rw [ho, hf] at hmy0
  have HMy := Lib.hid hmy0
  have hhas := has_le h.ok k
  have hnp : (S.b k).next < S.pages := by omega
  have HRw := Lib.hid (raw_new h k (S.b k).next hk hnp ((h.ok.wf k hk).none _ (Nat.le_refl _)))
  obtain ⟨_, _, c4, c5⟩ := h.fcell
  obtain ⟨d0, d1, d2, _, _⟩ := h.cells hk
  rw [hh] at d2
  obtain ⟨s0, r0, e0, hrow0⟩ := h.row
  obtain ⟨cL, hrL, hLs, hLc⟩ := h.bl
  obtain ⟨cP, hrP, hPs, hPc⟩ := h.pg k hk
  have hch := h.ok.chunks
  have hpp := h.ok.pages
  have harm := h.ok.armed
  have hne := h.ne
  have hno := h.no3 hk
  have HH := Lib.hid h
  have HD0 : Hid (cL[k * 5]? = some (.slice (some ⟨P k, 0, none⟩) S.pages S.pages)) := hLc k hk 0 _ rfl
  have HD1 : Hid (k * 5 + 1 < cL.size) := by unfold Hid; omega
  have HRe : Hid (∀ (j : Nat), j ≤ S.chunks → ∀ (g : Nat) (w' : World), Turns w w' [F, L, P k] → ∀ (o : Bool) (a : Nat), a < 9223372036854775808 → (∃ s r e : Int, Row w' F 46 (fcells o a s [.slice (some ⟨L, 0, none⟩) S.nb S.nb, .int .i64 S.pages, .int .i64 S.chunks, .int .i64 S.progs, .int .i64 r, .int .i64 e])) → Row w' L 85 (curL cL k (S.b k).next j) → Row w' (P k) 22 (curP cP (S.b k).next g (73 * S.chunks) j) → Row w' g 5 (intsV .u8 (part r S.chunks j)).toArray → FlIs w' B F L P { S.setB k (progB S k r j) with off := o, armed := a }) :=
    fun j hj g w' ht o a ha hF hL hP hg => prog_rebuild h hk hn hh hr hj hLs hLc hPs hPc ht o a ha hF hL hP hg
  have HRo : Hid (∀ w', Turns w w' [F, L, P k] → Cells8 w' (some ⟨rb, 0, none⟩) r) := fun w' ht => by
    have hp : PgIs w (.slice (some ⟨rb, 0, none⟩) (73 * S.chunks) rc) (some r) := by show w.ownsRow 0 _ 1 _ r.length _; rw [hr.1]; exact hown
    have h2 : w'.ownsRow 0 _ 1 _ r.length _ := hp.turns ht hno
    rw [hr.1] at h2
    have h3 : r.length = 73 * S.chunks := hr.1
    rw [← h3] at h2
    exact (Cells8.of_own h2).2
  have HRlen := Lib.hid hr.1
  have HPost : Hid (∀ e w', Turns w w' [F, L, P k] → ((S.armed = 0 ∨ S.chunks < S.armed) → e = .returned (.int .i64 0) ∧ FlIs w' B F L P { S.setB k (progB S k r S.chunks) with off := false, armed := S.armed - S.chunks, progs := IntKind.i64.wrap (S.progs + 1) }) → (1 ≤ S.armed → S.armed ≤ S.chunks → e = .returned (.int .i64 4) ∧ FlIs w' B F L P { S.setB k (progB S k r (S.armed - 1)) with off := true, armed := 0 }) → ProgPost w B F L P S k r e w') := fun e w' a b c => ⟨a, b, c⟩
  have HOff : Hid (S.off = false) := ho
  obtain ⟨n, hn73⟩ : ∃ n, n = 73 * S.chunks := ⟨_, rfl⟩
  have HN := Lib.hid hn73
  rw [← hn73] at HRw HRe hrc ⊢
  have hw : IntKind.i64.wrap ((S.chunks : Int) * 73) = (n : Int) := by rw [IntKind.wrap_i64]; omega
  have hn5 : 73 ≤ n ∧ n ≤ 584 := by omega
  have HHas := Lib.hid hn
  obtain ⟨ch, hch0⟩ : ∃ ch, ch = S.chunks := ⟨_, rfl⟩
  obtain ⟨a, ha0⟩ : ∃ a, a = S.armed := ⟨_, rfl⟩
  obtain ⟨m, hm0⟩ : ∃ m, m = (S.b k).next := ⟨_, rfl⟩
  have HHr := Lib.hid hrow0
  have HLr := Lib.hid hrL
  have HPr := Lib.hid hrP
  have hcP : m < cP.size := by omega
  have HcP := Lib.hid hcP
  have hneg : Hid (F ≠ L ∧ F ≠ P k ∧ L ≠ P k) := ⟨hne.1, hne.2.1 k hk, hne.2.2 k hk⟩
  rw [ho] at HHr
  rw [← hch0, ← ha0] at HHr HPost
  rw [← hch0] at HRe
  rw [← hch0] at HRlen HN hch c5 hw
  rw [← hm0] at HPg HRw HRe d1 hnp ⊢
  rw [← ha0] at harm
  have HCh := Lib.hid hch0
  have HAr := Lib.hid ha0
  have HNx := Lib.hid hm0
  clear h hpg0 hmy0 hch0 ha0 hm0 ho hf hh hn hhas hrow0 hrL hLs hLc hrP hPs hPc hne hno hown hn73 hr hcP
  go_enter Tryz.func135, Tryz.ntmps135
  go_wp2_with fail
  refine HBl.out.mono ?_
  rintro e w' ⟨rfl, rfl⟩
  clear HBl
  go_wp2_with fail
  refine HPg.out.mono ?_
  rintro e w' ⟨rfl, rfl⟩
  clear HPg
  go_wp2_with fail
  refine HMy.out.mono ?_
  rintro e w' ⟨rfl, rfl⟩
  clear HMy
  go_wp2_with fail
  refine HRw.out.mono ?_
  rintro e w1 ⟨g, rfl, hg1, hgs, hb1⟩
  have c5w := keep_below hb1 _ _ c5
  have HG1 := Lib.hid hg1
  have HB1 := Lib.hid hb1
  clear HRw hg1 hb1 c4 c5 d0 d1 d2
  go_wp2
  go_loopw [56] (fun iv wr => ∃ j : Nat, iv = .int .i64 j ∧ j ≤ ch ∧ (a = 0 ∨ j < a) ∧ Turns w wr [F, L, P k] ∧ (∃ s, Row wr F 46 (fcells false (a - j : Nat) s [.slice (some ⟨L, 0, none⟩) S.nb S.nb, .int .i64 S.pages, .int .i64 ch, .int .i64 S.progs, .int .i64 r0, .int .i64 e0])) ∧ Row wr L 85 (curL cL k m j) ∧ Row wr (P k) 22 (curP cP m g n j) ∧ Row wr g 5 (intsV .u8 (part r ch j)).toArray) (fun i _ => ch - (intOf i).toNat)
  case atStart =>
    refine ⟨0, rfl, by omega, by omega, Turns.of_below HB1.out _, ⟨s0, ?_⟩, ?_, ?_, ?_⟩
    · exact HHr.out.below HB1.out HHr.out.lt
    · exact HLr.out.below HB1.out HLr.out.lt
    · exact HPr.out.below HB1.out HPr.out.lt
    · rw [part_zero, ← HN.out]; exact HG1.out
  case round =>
    obtain ⟨j, rfl, hj, hja, ht, ⟨s, hF⟩, hL, hP, hg⟩ := hrel
    have HT := Lib.hid ht
    have HFr := Lib.hid hF
    have HLw := Lib.hid hL
    have HPw := Lib.hid hP
    have HGw := Lib.hid hg
    clear ht hF hL hP hg HG1 HB1 c5w
    by_cases hlt : j < ch
    · by_cases hcut : a = j + 1
      · have e1 : a - j = 1 := by omega
        have hF1 := HFr.out
        rw [e1] at hF1
        have HSt := Lib.hid (step_cut F false s _ wr hF1)
        clear hF1 e1
        go_wp2_with fail
        refine HSt.out.mono ?_
        rintro e w2 ⟨rfl, hF2, ht2⟩
        have HF2 := Lib.hid hF2
        have HT2 := Lib.hid ht2
        clear HSt hF2 ht2
        go_wp2
        have HE : Hid (FlIs w2 B F L P { S.setB k (progB S k r j) with off := true, armed := 0 }) :=
          HRe.out j hj g w2 (HT.out.trans HT2.out (by simp)) true 0 (by omega) ⟨_, _, _, HF2.out⟩ (Turns.row1 HLw.out HT2.out (by simp; exact Ne.symm hneg.out.1)) (Turns.row1 HPw.out HT2.out (by simp; exact Ne.symm hneg.out.2.1)) (Turns.row1 HGw.out HT2.out (by simp; exact HGw.out.ne_type HFr.out (by decide)))
        refine bodyPost_ret (v := .int .i64 4) (by simp [results, Tryz.results135, go_sem]) rfl (HPost.out _ _ (HT.out.trans HT2.out (by simp)) (fun h => by omega) (fun _ _ => ⟨rfl, by rw [show a - 1 = j by omega]; exact HE.out⟩))
      · have ha1 : a - j ≠ 1 := by omega
        have ha2 : a - j < 9223372036854775808 := by omega
        have HSt := Lib.hid (step_done F false (a - j) s _ ha1 ha2 wr HFr.out)
        obtain ⟨q, hq⟩ : ∃ q, q = 73 * j := ⟨_, rfl⟩
        have HQ := Lib.hid hq
        have hqn : q + 73 ≤ n := by have := HN.out; omega
        have hqi : (q : Int) ≤ n := by omega
        have hw1 : IntKind.i64.wrap ((j : Int) * 73) = (q : Int) := by rw [IntKind.wrap_i64]; omega
        have hw2 : IntKind.i64.wrap ((j : Int) + 1) = (j : Int) + 1 := by rw [IntKind.wrap_i64]; omega
        have hw3 : IntKind.i64.wrap (((j : Int) + 1) * 73) = ((q + 73 : Nat) : Int) := by rw [IntKind.wrap_i64]; omega
        have hwm : IntKind.i64.wrap ((m : Int) + 1) = ((m + 1 : Nat) : Int) := by rw [IntKind.wrap_i64]; omega
        clear ha1 ha2 hq
        go_wp2_with fail
        refine HSt.out.mono ?_
        rintro e w2 ⟨rfl, ⟨s', hF2⟩, ht2⟩
        have hgF : g ≠ F := HGw.out.ne_type HFr.out (by decide)
        have hgL : g ≠ L := HGw.out.ne_type HLw.out (by decide)
        have hgP : g ≠ P k := HGw.out.ne_type HPw.out (by decide)
        have HF2 := Lib.hid hF2
        have HT2 : Hid (Turns w w2 [F, L, P k]) := HT.out.trans ht2 (by simp)
        have HL2 := Lib.hid (Turns.row1 HLw.out ht2 (by simp; exact Ne.symm hneg.out.1))
        have HP2 := Lib.hid (Turns.row1 HPw.out ht2 (by simp; exact Ne.symm hneg.out.2.1))
        have HG2 := Lib.hid (Turns.row1 HGw.out ht2 (by simp; exact hgF))
        have HC2 := (((HRo.out w2 HT2.out).drop q).take 73)
        rw [Nat.zero_add] at HC2
        have hcl : ((r.drop q).take 73).length = 73 := by rw [List.length_take, List.length_drop, HRlen.out]; have := HQ.out; omega
        have hS := Src.bytes HC2
        rw [hcl] at hS
        have HSr : Hid (Src w2.drew 1 (some ⟨rb, q, none⟩) 73 (intsV .u8 ((r.drop q).take 73))) := hS.keep (fun _ _ h => h)
        have HGt : Hid (w.heap.size ≤ g) := hgs
        have HNe : Hid (g ≠ F ∧ g ≠ L ∧ g ≠ P k) := ⟨hgF, hgL, hgP⟩
        clear HSt hF2 ht2 HFr HLw HPw HGw HC2 hS hcl HT hgF hgL hgP
        go_wp2
        (refine region_kept ([g]) [0, 1, 2, 3, 4, 5, 6, 7, 8, 9, 10] [11] (by kernel_rfl) (by kernel_rfl) (fun _ _ _ _ _ h => h) ?_; simp only [List.filterMap_cons, List.getElem?_cons_zero, List.getElem?_cons_succ, List.filterMap_nil]; (repeat ((show wpQuiet _ _ _ _ (_ :: _) _); go_big_quiet_step (fail))); refine wpQuiet_nil ?_)
        try rw [show q + 73 - q = 73 from Nat.add_sub_cancel_left q 73]
        refine wpSeqS_last (wpList_copy_grown rfl (.tmp 67) (.tmp 74) 22 22 rfl 5 Tryz.underlying22 u8_size1 (some ⟨rb, q, none⟩) (n - q) (n - q) 73 (rc - q) g q rfl rfl (intsV .u8 (part r ch j)) 5 HG2.out _ HSr.out (intsV_one .u8 _) (by rw [intsV_length, part_length r ch j HRlen.out hj, ← HN.out]; omega) ?_)
        intro w3 hr3 hg3
        have HT3 : Hid (Turns w2 w3 [g]) := Turns.of_grown (show w2.grownBy w3 (some g) from ⟨hg3.out.os, hg3.out.tape, hg3.out.output, hg3.out.size, hg3.out.block⟩)
        have HG3 : Hid (Row w3 g 5 (intsV .u8 (part r ch (j + 1))).toArray) := by
          unfold Hid
          have h := hr3.out
          rw [List.take_of_length_le (by rw [intsV_length, List.length_take]; omega), HQ.out, part_splice r ch j HRlen.out hlt] at h
          exact h
        have HL3 := Lib.hid (Turns.row1 HL2.out HT3.out (by simp; exact Ne.symm HNe.out.2.1))
        have HP3 := Lib.hid (Turns.row1 HP2.out HT3.out (by simp; exact Ne.symm HNe.out.2.2))
        have HF3 := Lib.hid (Turns.row1 HF2.out HT3.out (by simp; exact Ne.symm HNe.out.1))
        have k0 : w3.cell? ⟨L, k * 5, none⟩ = some (.slice (some ⟨P k, 0, none⟩) S.pages S.pages) := by rw [HL3.out.cell]; exact curL_at (i := 0) m j HD0.out
        obtain ⟨v1, k1⟩ := Row.some HP3.out (i := m) (by rw [curP_size]; exact HcP.out)
        have f1 := HP3.out.frozen m
        have HPa := Lib.hid (HP3.out.put m (.slice (some ⟨g, 0, none⟩) n n))
        rw [curP_put] at HPa
        have HLa := Lib.hid (HL3.out.far (p := ⟨P k, m, none⟩) hneg.out.2.2 (.slice (some ⟨g, 0, none⟩) n n))
        have HFa := Lib.hid (HF3.out.far (p := ⟨P k, m, none⟩) hneg.out.2.1 (.slice (some ⟨g, 0, none⟩) n n))
        have HGa := Lib.hid (HG3.out.far (p := ⟨P k, m, none⟩) HNe.out.2.2 (.slice (some ⟨g, 0, none⟩) n n))
        obtain ⟨v2, k2⟩ := Row.some HLa.out (i := k * 5 + 1) (by rw [curL_size]; exact HD1.out)
        have f2 := HLa.out.frozen (k * 5 + 1)
        have HLb := Lib.hid (HLa.out.put (k * 5 + 1) (.int .i64 (m + 1 : Nat)))
        rw [curL_put] at HLb
        have HPb := Lib.hid (HPa.out.far (p := ⟨L, k * 5 + 1, none⟩) (Ne.symm hneg.out.2.2) (.int .i64 (m + 1 : Nat)))
        have HFb := Lib.hid (HFa.out.far (p := ⟨L, k * 5 + 1, none⟩) hneg.out.1 (.int .i64 (m + 1 : Nat)))
        have HGb := Lib.hid (HGa.out.far (p := ⟨L, k * 5 + 1, none⟩) HNe.out.2.1 (.int .i64 (m + 1 : Nat)))
        have HTb : Hid (Turns w ((w3.setCell ⟨P k, m, none⟩ (.slice (some ⟨g, 0, none⟩) n n)).setCell ⟨L, k * 5 + 1, none⟩ (.int .i64 (m + 1 : Nat))) [F, L, P k]) :=
          ((HT2.out.trans HT3.out (fun x hx => by simp at hx; subst hx; exact .inr HGt.out)).setCell (by simp) _).setCell (by simp) _
        rw [show (a - j - 1 : Nat) = a - (j + 1) by omega] at HFb
        have hmi : (m : Int) < S.pages := by omega
        clear hr3 hg3 HT3 HG3 HL3 HP3 HF3 HPa HLa HFa HGa HF2 HL2 HP2 HG2 HSr HT2
        go_wp2
        go_roundw
        case rel => exact ⟨j + 1, by go_num, by omega, by omega, HTb.out, ⟨_, HFb.out⟩, HLb.out, HPb.out, HGb.out⟩
        case measure => simp [intOf]; omega
    · obtain rfl : j = ch := by omega
      have hE := HRe.out j (Nat.le_refl _) g wr HT.out false (a - j) (by omega) ⟨_, _, _, HFr.out⟩ HLw.out HPw.out HGw.out
      have HAd := Lib.hid (Add_progs hE)
      clear hE HFr HLw HPw HGw
      go_wp2_with fail
      refine HAd.out.mono ?_
      rintro e w2 ⟨⟨v, rfl⟩, h2, ht2⟩
      have H2 := Lib.hid h2
      have HT2 := Lib.hid ht2
      clear HAd h2 ht2
      go_wp2
      refine bodyPost_ret (v := .int .i64 0) (by simp [results, Tryz.results135, go_sem]) rfl (HPost.out _ _ (HT.out.trans HT2.out (by simp)) (fun _ => ⟨rfl, H2.out⟩) (fun h1 h2 => by omega))
end
end Go.Proofs.YthjomnaejhehoaaGreatDoor
