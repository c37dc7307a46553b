/- What follows is laid together from several texts of mine, in their order. -/
import Derived.Test.YtclhhdodebdmjaaGreatQ16
import Derived.Test.YtclhhdodebdmjaaGreatQ4

namespace Go.Proofs.YtclhhdodebdmjaaGreat.Vca
open Go.RowKit
set_option linter.unusedVariables false
set_option maxRecDepth 100000
set_option linter.unusedSimpArgs false

/-- Which writes a put lets be gone. -/
def goneP (a s g : Int) (x : It) : Bool := decide (x.g = g ∧ x.a = a ∧ x.s = s)
theorem turns_append {w w' : World} {A : Option Addr} {n c : Nat} (h : w.grownBy w' (Value.slice A n c).ownBlock) : Turns w w' (blk A) := by
  cases A with
  | none => exact ⟨h.os, h.tape, h.output, h.size, fun k hk _ => h.block k hk (by simp [Value.ownBlock])⟩
  | some a => exact ⟨h.os, h.tape, h.output, h.size, fun k hk hn => h.block k hk (by simp [Value.ownBlock]; intro e; exact hn (by simp [blk, e]))⟩
theorem src_new {w : World} {t : TypeId} {cs : List Value} {sz : Nat} (h : cs.length = 1 * sz) : Src (w.alloc (.cells cs.toArray t)) sz (some ⟨w.heap.size, 0, none⟩) 1 cs :=
  Src.of_at h (fun j u hu => by
    rw [addr_add, Nat.zero_add, (Row.fresh w t cs.toArray).cell]
    simpa using hu)
theorem own_blk {w : World} {B n c sz : Nat} {t : TypeId} {A : Option Addr} {xs : List Value} (h : w.ownsRow B t sz (.slice A n c) n xs) : ∀ k ∈ blk A, B ≤ k ∧ ∃ cur, Row w k t cur := by
  intro k hk
  rcases h.2 with ⟨e, _⟩ | ⟨g', cap, cur, e, hB, hr, _⟩
  · injection e with e _ _
    subst e; simp [blk] at hk
  · injection e with e _ _
    subst e
    simp [blk] at hk; subst hk
    exact ⟨hB, cur, hr⟩
/-- What a put leaves. -/
def PutPost (w : World) (B C mb most : Nat) (A : Option Addr) (items : List It) (g a s : Int) (l : List Nat) (e : Ending) (w' : World) : Prop :=
  ∃ Ao co A' c' out rest x', e = .returned (.slice Ao (List.length out) co) ∧ (x'.a = a ∧ x'.s = s ∧ x'.l = l ∧ x'.g = g) ∧ (items.filter fun x => !goneP a s g x) ++ [x'] = out ++ rest ∧ (rest.length ≤ most ∧ (out = [] ∨ rest.length = most)) ∧
    CHeld w' B C mb most A' c' rest g ∧ (∀ k ∈ blk A', k ∈ blk A ∨ w.heap.size ≤ k) ∧ w'.ownsRow w.heap.size 166 3 (.slice Ao out.length co) out.length (wrsV out) ∧ (∀ x ∈ out, DatIs w' B (.slice x.A x.l.length x.c) x.l) ∧ Turns w w' (C :: mb :: blk A)
/-- The same; the new write's bytes lie in new memory. -/
def PutPostF (w : World) (B C mb most : Nat) (A : Option Addr) (items : List It) (g a s : Int) (l : List Nat) (e : Ending) (w' : World) : Prop :=
  ∃ Ao co A' c' out rest x', e = .returned (.slice Ao (List.length out) co) ∧ ((x'.a = a ∧ x'.s = s ∧ x'.l = l ∧ x'.g = g) ∧ ∀ k ∈ blk x'.A, w.heap.size ≤ k) ∧ (items.filter fun x => !goneP a s g x) ++ [x'] = out ++ rest ∧ (rest.length ≤ most ∧ (out = [] ∨ rest.length = most)) ∧
    CHeld w' B C mb most A' c' rest g ∧ (∀ k ∈ blk A', k ∈ blk A ∨ w.heap.size ≤ k) ∧ w'.ownsRow w.heap.size 166 3 (.slice Ao out.length co) out.length (wrsV out) ∧ (∀ x ∈ out, DatIs w' B (.slice x.A x.l.length x.c) x.l) ∧ Turns w w' (C :: mb :: blk A)
theorem OwnI.turns {w w' : World} {B n c : Nat} {A : Option Addr} {items : List It} {S : List Nat} (h : OwnI w B (.slice A n c) n items) (ht : Turns w w' S) (hS : ∀ k ∈ blk A, k ∉ S) : OwnI w' B (.slice A n c) n items :=
  ht.own h (fun k hk => by
    rcases h.head with ⟨e, _⟩ | ⟨L, e⟩
    · rw [e] at hk; cases hk
    · rw [e] at hk; injection hk with hk; exact hS k (by simp [blk, e, ← hk]))
end Go.Proofs.YtclhhdodebdmjaaGreat.Vca

namespace Go.Proofs.YtclhhdodebdmjaaGreat.Vca
open Go.RowKit
set_option linter.unusedVariables false
set_option maxRecDepth 100000
set_option linter.unusedSimpArgs false

def dropP (a s : Int) (x : It) : Bool := decide (x.a = a ∧ x.s = s)
theorem Drop_any (B C mb most c : Nat) (A : Option Addr) (items : List It) (g a s : Int) (w : World) (h : CHeld w B C mb most A c items g) (ha : W64 a) (hs : W64 s) :
    Calls Tryz.prog 109 #[.pointer (some ⟨C, 0, none⟩), .int .i64 a, .int .i64 s] w fun e w' => e = .returned (.bool (decide (0 < cntI items a s))) ∧ CHeld w' B C mb most A c (items.filter fun x => !dropP a s x) g ∧ Turns w w' (C :: mb :: blk A) := by
  obtain ⟨wK, hwK⟩ : ∃ wK, wK = w.alloc (.cells #[.int .i64 a, .int .i64 s] 253) := ⟨_, rfl⟩
  have HBK : Hid (Below w.heap.size w wK) := by unfold Hid; rw [hwK]; (repeat (first | (with_reducible refine Below.drew ?_) | (with_reducible refine below_drewN0 ?_ _) | ((with_reducible refine Below.setCell ?_ ?_ _); rotate_left; focus (first | omega | (simp; done) | (simp; omega) | (simp at *; omega))) | ((with_reducible refine Below.alloc ?_ ?_ _); rotate_left; focus (first | omega | (simp; done) | (simp; omega) | (simp at *; omega))) | (with_reducible exact Below.refl _ _)))
  have HRK : Hid (Row wK w.heap.size 253 #[.int .i64 a, .int .i64 s]) := by unfold Hid; rw [hwK]; exact Row.fresh _ _ _
  have HK := Lib.hid (h.below HBK.out)
  have HnS : Hid (w.heap.size ∉ C :: mb :: blk A) := fun hm => by
    have hC := h.row.lt
    have hm' := h.cnt.lt
    simp only [List.mem_cons] at hm
    rcases hm with e | e | hm
    · omega
    · omega
    · obtain ⟨_, cur, hr⟩ := h.own.block_row _ hm; have := hr.lt; omega
  have hlk : ∀ k, (Instr.lookup 245 (.map (some mb)) (.agg #[.int .i64 a, .int .i64 s]) false).run Tryz.prog (wK.drewN k) = .ok (.int .i64 (cntI items a s)) (wK.drewN k) := fun k => CntIs.look (w := wK.drewN k) HK.out.cnt ha hs
  obtain ⟨_, _, _, q3⟩ := HK.out.cells
  have p2 := HRK.out.cell 0
  have p3 := HRK.out.cell 1
  simp at p2 p3
  obtain ⟨q, hq⟩ : ∃ q, q = cntI items a s := ⟨_, rfl⟩
  have HQ := Lib.hid hq
  rw [← hq] at hlk
  clear h ha hs hq
  go_enter Tryz.func109, Tryz.ntmps109
  go_wp2
  rw [← hwK]
  clear hwK
  go_wp2
  go_quiet (fail)
  have HG : Hid (Gone (wK.drewN nq) (mb :: blk A) 169 [.pointer (some ⟨w.heap.size, 0, none⟩)] (dropP a s)) :=
    ⟨enters_drop1, fun W ht x => Drop1_any x _ a s W (ht.cell (p := ⟨w.heap.size, 0, none⟩) p2 (fun hm => HnS.out (List.mem_cons_of_mem _ hm))) (ht.cell (p := ⟨w.heap.size, 1, none⟩) p3 (fun hm => HnS.out (List.mem_cons_of_mem _ hm)))⟩
  have HRm := Lib.hid (remove_any 169 [.pointer (some ⟨w.heap.size, 0, none⟩)] (dropP a s) B C mb most c A items g (wK.drewN nq) (HK.out.below (below_drewN0 (Below.refl _ _) _)) HG.out)
  clear HG hlk p2 p3 q3
  go_wp2_with fail
  refine HRm.out.mono ?_
  rintro e w3 ⟨⟨v, rfl⟩, h3, ht3⟩
  have H3 := Lib.hid h3
  have HT3 : Hid (Turns w w3 (C :: mb :: blk A)) := (Turns.of_below (below_drewN0 HBK.out nq) _).trans ht3 (fun k hk => .inl hk)
  clear HRm h3 ht3
  go_wp2_with fail
  go_ret
  exact ⟨by rw [← HQ.out]; rfl, H3.out, HT3.out⟩

def barG (items : List It) (g : Int) : Int := match items.getLast? with | some x => if x.g = g then g + 1 else g | none => g
end Go.Proofs.YtclhhdodebdmjaaGreat.Vca

namespace Go.Proofs.YtclhhdodebdmjaaGreat.Vca
open Go.RowKit
set_option linter.unusedVariables false
set_option maxRecDepth 100000
set_option linter.unusedSimpArgs false

/-- What a flush leaves. -/
def FlushPost (w : World) (B C mb most : Nat) (A : Option Addr) (items : List It) (g : Int) (e : Ending) (w' : World) : Prop :=
  ∃ Ao co, e = .returned (.slice Ao items.length co) ∧ CHeld w' B C mb most none 0 [] g ∧ w'.ownsRow w.heap.size 166 3 (.slice Ao items.length co) items.length (wrsV items) ∧ (∀ x ∈ items, DatIs w' B (.slice x.A x.l.length x.c) x.l) ∧ Turns w w' [C, mb]
end Go.Proofs.YtclhhdodebdmjaaGreat.Vca
