/- vcache: a cache in memory; New, Len, remove. -/
import Derived.Test.YtmppegknkeggcaaCacheF
namespace Go.Proofs.Ytmppegknkeggcaa
open Go.RowKit
set_option linter.unusedVariables false
set_option linter.unusedSimpArgs false

/-- How many writes of a sector there are. -/
def cntI (items : List It) (a s : Int) : Int := ((items.filter fun x => decide (x.a = a ∧ x.s = s)).length : Nat)
theorem cntI_nil : cntI [] = fun _ _ => 0 := rfl
theorem cntI_append (l m : List It) (a s : Int) : cntI (l ++ m) a s = cntI l a s + cntI m a s := by simp [cntI]
theorem cntI_one (x : It) (a s : Int) : cntI [x] a s = if a = x.a ∧ s = x.s then 1 else 0 := by
  unfold cntI
  by_cases h : x.a = a ∧ x.s = s
  · rw [if_pos ⟨h.1.symm, h.2.symm⟩]; simp [h]
  · rw [if_neg (fun e => h ⟨e.1.symm, e.2.symm⟩)]; simp [h]
theorem cntI_nonneg (l : List It) (a s : Int) : 0 ≤ cntI l a s := by unfold cntI; omega
theorem cntI_le (l : List It) (a s : Int) : cntI l a s ≤ l.length := by
  unfold cntI
  have := List.length_filter_le (fun x : It => decide (x.a = a ∧ x.s = s)) l
  omega
theorem cntI_part (p : It → Bool) (l : List It) (a s : Int) : cntI l a s = cntI (l.filter p) a s + cntI (l.filter fun x => !p x) a s := by
  induction l with
  | nil => simp [cntI]
  | cons x l ih =>
    have e : cntI (x :: l) a s = cntI [x] a s + cntI l a s := cntI_append [x] l a s
    cases hp : p x with
    | true =>
      rw [e, ih, List.filter_cons_of_pos hp, List.filter_cons_of_neg (by simp [hp]), show x :: l.filter p = [x] ++ l.filter p from rfl, cntI_append]; omega
    | false =>
      rw [e, ih, List.filter_cons_of_neg (by simp [hp]), List.filter_cons_of_pos (by simp [hp]), show x :: l.filter (fun x => !p x) = [x] ++ l.filter (fun x => !p x) from rfl, cntI_append]; omega

def blk (A : Option Addr) : List Nat := match A with | some a => [a.block] | none => []
/-- A cache: its object at C, its map at mb, its row at A. -/
structure CHeld (w : World) (B C mb most : Nat) (A : Option Addr) (c : Nat) (items : List It) (g : Int) : Prop where
  hC : B ≤ C
  row : Row w C 55 #[.int .i64 (most : Nat), .slice A items.length c, .int .i64 g, .map (some mb)]
  own : OwnI w B (.slice A items.length c) items.length items
  dat : ∀ x ∈ items, DatIs w B (.slice x.A x.l.length x.c) x.l
  wf : ∀ x ∈ items, W64 x.a ∧ W64 x.s
  hm : B ≤ mb
  cnt : CntIs w mb (cntI items)
  few : items.length ≤ 1000
theorem CntIs.not_row {w : World} {b : Nat} {c : Int → Int → Int} (h : CntIs w b c) (t : TypeId) (cs : Array Value) : ¬ Row w b t cs := by
  obtain ⟨n, f, ⟨es, clock, hb, _⟩, _⟩ := h
  intro hr
  unfold Row at hr
  rw [hr] at hb; cases hb
theorem DatIs.turns {w w' : World} {B : Nat} {d : Value} {l : List Nat} {S : List Nat} (h : DatIs w B d l) (ht : Turns w w' S) (hS : ∀ k ∈ S, ∀ cur, ¬ Row w k 5 cur) : DatIs w' B d l := by
  refine ⟨h.small, h.short, ht.own h.own (fun g hg hm => ?_)⟩
  rcases h.own.2 with ⟨e, _⟩ | ⟨g', cap, cur, e, _, hr, _⟩
  · rw [e] at hg; cases hg
  · rw [e] at hg
    injection hg with hg
    subst hg
    exact hS g' hm cur hr
theorem DatIs.below {w w' : World} {B : Nat} {d : Value} {l : List Nat} (h : DatIs w B d l) (hb : Below w.heap.size w w') : DatIs w' B d l := h.turns (Turns.of_below hb []) (by simp)
theorem OwnI.block_row {w : World} {B n c : Nat} {A : Option Addr} {items : List It} (h : OwnI w B (.slice A n c) n items) : ∀ k ∈ blk A, B ≤ k ∧ ∃ cur, Row w k 61 cur := by
  intro k hk
  rcases h.2 with ⟨e, _⟩ | ⟨g', cap, cur, e, hB, hr, _⟩
  · injection e with e _ _
    subst e; simp [blk] at hk
  · injection e with e _ _
    subst e
    simp [blk] at hk; subst hk
    exact ⟨hB, cur, hr⟩
theorem OwnI.head {w : World} {B n c : Nat} {A : Option Addr} {items : List It} (h : OwnI w B (.slice A n c) n items) : A = none ∧ n = 0 ∧ c = 0 ∧ items = [] ∨ ∃ L, A = some ⟨L, 0, none⟩ := by
  rcases h.2 with ⟨e, hn⟩ | ⟨g', cap, cur, e, hB, hr, _⟩
  · injection e with e1 e2 e3
    exact .inl ⟨e1, hn, e3, List.eq_nil_of_length_eq_zero (by rw [h.len, hn])⟩
  · injection e with e1 _ _
    exact .inr ⟨g', e1⟩
section
variable {w : World} {B C mb most c : Nat} {A : Option Addr} {items : List It} {g : Int}
theorem CHeld.apart (h : CHeld w B C mb most A c items g) : C ≠ mb ∧ C ∉ blk A ∧ mb ∉ blk A := by
  refine ⟨fun e => h.cnt.not_row _ _ (e ▸ h.row), fun hm => ?_, fun hm => ?_⟩
  · obtain ⟨_, cur, hr⟩ := h.own.block_row C hm
    exact h.row.ne_type hr (by decide) rfl
  · obtain ⟨_, cur, hr⟩ := h.own.block_row mb hm
    exact h.cnt.not_row _ _ hr
theorem CHeld.no_bytes (h : CHeld w B C mb most A c items g) : ∀ k ∈ C :: mb :: blk A, ∀ cur, ¬ Row w k 5 cur := by
  intro k hk cur hr
  simp only [List.mem_cons] at hk
  rcases hk with rfl | rfl | hk
  · exact h.row.ne_type hr (by decide) rfl
  · exact h.cnt.not_row _ _ hr
  · obtain ⟨_, cur', hr'⟩ := h.own.block_row k hk
    exact hr'.ne_type hr (by decide) rfl
theorem CHeld.floor (h : CHeld w B C mb most A c items g) : ∀ k ∈ C :: mb :: blk A, B ≤ k := by
  intro k hk
  simp only [List.mem_cons] at hk
  rcases hk with rfl | rfl | hk
  · exact h.hC
  · exact h.hm
  · exact (h.own.block_row k hk).1
theorem CHeld.turns {w' : World} {S : List Nat} (h : CHeld w B C mb most A c items g) (ht : Turns w w' S) (hS : ∀ k ∈ S, k ∉ C :: mb :: blk A ∧ ∀ cur, ¬ Row w k 5 cur) : CHeld w' B C mb most A c items g :=
  ⟨h.hC, ht.row h.row (fun hm => (hS C hm).1 (by simp)), ht.own h.own (fun k hk hm => (hS k hm).1 (by
    rcases h.own.head with ⟨e, _⟩ | ⟨L, e⟩
    · rw [e] at hk; cases hk
    · rw [e] at hk; injection hk with hk; simp only [blk, e, List.mem_cons]; exact .inr (.inr (.inl hk.symm)))), fun x hx => (h.dat x hx).turns ht (fun k hk => (hS k hk).2), h.wf, h.hm, h.cnt.turns ht (fun hm => (hS mb hm).1 (by simp)), h.few⟩
theorem CHeld.below {w' : World} (h : CHeld w B C mb most A c items g) (hb : Below w.heap.size w w') : CHeld w' B C mb most A c items g := h.turns (Turns.of_below hb []) (by simp)
theorem CHeld.mono {B' : Nat} (h : CHeld w B C mb most A c items g) (hB : B' ≤ B) : CHeld w B' C mb most A c items g :=
  ⟨Nat.le_trans hB h.hC, h.row, own_mono h.own hB, fun x hx => ⟨(h.dat x hx).small, (h.dat x hx).short, own_mono (h.dat x hx).own hB⟩, h.wf, Nat.le_trans hB h.hm, h.cnt, h.few⟩
theorem CHeld.cells (h : CHeld w B C mb most A c items g) : w.cell? ⟨C, 0, none⟩ = some (.int .i64 (most : Nat)) ∧ w.cell? ⟨C, 1, none⟩ = some (.slice A items.length c) ∧ w.cell? ⟨C, 2, none⟩ = some (.int .i64 g) ∧ w.cell? ⟨C, 3, none⟩ = some (.map (some mb)) := by
  refine ⟨?_, ?_, ?_, ?_⟩ <;> rw [h.row.cell] <;> rfl
end

theorem New_no (n : Int) (hn : n < 0 ∨ 64 < n) (w : World) : Calls Try.prog 9 #[.int .i64 n] w fun e w' => e = .returned (.tuple #[.pointer none, .int .i64 1]) ∧ w = w' := by
  have key : n < 0 ∨ (¬ n < 0 ∧ 64 < n) := by omega
  rcases key with h1 | ⟨h1, h2⟩
  all_goals
    go_enter Try.func9, Try.ntmps9
    go_wp2
    refine bodyPost_ret (v := .tuple #[.pointer none, .int .i64 1]) (by simp [results, Try.results9, go_sem]) rfl ⟨rfl, rfl⟩
theorem New_yes (n : Nat) (hn : n ≤ 64) (w : World) : Calls Try.prog 9 #[.int .i64 n] w fun e w' => ∃ C mb, e = .returned (.tuple #[.pointer (some ⟨C, 0, none⟩), .int .i64 0]) ∧ CHeld w' w.heap.size C mb n none 0 [] 0 ∧ Below w.heap.size w w' := by
  have hmm := @run_makeMap Try.prog
  go_enter Try.func9, Try.ntmps9
  go_wp2
  have hcnt : CntIs ((w.alloc (.map #[] 0)).alloc (.cells #[.int .i64 n, .slice none 0 0, .int .i64 0, .map (some w.heap.size)] 55)) w.heap.size (cntI []) := by
    rw [cntI_nil]
    exact (CntIs.fresh w).turns (S := []) ((Turns.refl _ _).alloc _) (by simp)
  have hrow := Row.fresh (w.alloc (.map #[] 0)) 55 #[.int .i64 n, .slice none 0 0, .int .i64 0, .map (some w.heap.size)]
  refine bodyPost_ret (v := .tuple #[.pointer (some ⟨w.heap.size + 1, 0, none⟩), .int .i64 0]) (by simp [results, Try.results9, go_sem]) rfl ⟨w.heap.size + 1, w.heap.size, rfl, ⟨by omega, ?_, World.ownsRow_nil _ _ _ _, by simp, by simp, Nat.le_refl _, hcnt, by simp⟩, ?_⟩
  · rw [World.size_alloc] at hrow; exact hrow
  · (repeat (first | (with_reducible refine Below.drew ?_) | (with_reducible refine below_drewN0 ?_ _) | ((with_reducible refine Below.setCell ?_ ?_ _); rotate_left; focus (first | omega | (simp; done) | (simp; omega) | (simp at *; omega))) | ((with_reducible refine Below.alloc ?_ ?_ _); rotate_left; focus (first | omega | (simp; done) | (simp; omega) | (simp at *; omega))) | (with_reducible exact Below.refl _ _)))
theorem Len_any (C : Nat) (A : Option Addr) (n c : Nat) (w : World) (h : w.cell? ⟨C, 1, none⟩ = some (.slice A n c)) : Calls Try.prog 13 #[.pointer (some ⟨C, 0, none⟩)] w fun e w' => e = .returned (.int .i64 n) ∧ w = w' := by
  go_enter Try.func13, Try.ntmps13
  go_wp2
  go_ret
  exact ⟨rfl, rfl⟩
end Go.Proofs.Ytmppegknkeggcaa
