/- What follows is laid together from several texts of mine, in their order. -/
import Derived.Test.YtclhhdodebdmjaaGreatQ3
import Derived.Test.YtclhhdodebdmjaaGreatQ12
import Derived.Test.YtclhhdodebdmjaaGreatQ6
import Derived.Test.YtclhhdodebdmjaaGreatQ13
import Derived.StillTailTactics
import Derived.Outline
import Derived.Deep.RegionHeldLaw

namespace Go.Proofs.YtclhhdodebdmjaaGreat.Vca
open Go.RowKit
open Go.Maps (Keyed)
set_option linter.unusedVariables false
set_option maxRecDepth 100000
set_option linter.unusedSimpArgs false

theorem laidOut0 : laidOutB Tryz.prog = true := by kernel_rfl
/-- A region that draws, whose first n operations leave the world alone: in the order of the text, the draw outermost. -/
theorem region_tail {P : Program} {id : Nat} {Q : Exit → Act → World → Prop} {a : Act} {w : World} {l : List Oper} (n : Nat) (hm : P.follows .mixedOrders = true) (hB : Region.lexTailB .any l.toArray n = true)
    (h : ∀ u : World, u = w.drew → wpStill P l.toArray u (fun a' => wpList P l.toArray Q (l.drop n) a' u) (l.take n) a) : (Code.region id l.toArray true).wp P Q a w :=
  wp_region_still_tail n hm hB (h _ rfl)
abbrev kv (a s : Int) : Value := .agg #[.int .i64 a, .int .i64 s]
theorem key_rec : Tryz.prog.keyTypeAt (Tryz.prog.types.size + 1) 253 = true := by kernel_rfl
theorem key_wide : (match Tryz.prog.underlying 253 with | some (.array _ _) | some (.struct _) => true | _ => false) = true := by kernel_rfl
theorem key_row : (253 : TypeId) < Tryz.prog.types.size := of_decide_eq_true (by kernel_rfl)
theorem keyed : Keyed Tryz.prog 253 := Keyed.of_law (deep_law_laid laidOut0 (m := 2) (by omega) key_row (by kernel_rfl) key_wide)
theorem map_under : Tryz.prog.underlying 245 = some (.map 253 3) := Tryz.underlying245
theorem zero_int (w : World) : (zeroValue 3).run Tryz.prog w = .ok (.int .i64 0) w := by kernel_rfl
def W64 (a : Int) : Prop := (Lit.int .i64 a).wf = true
theorem W64.iff (a : Int) : W64 a ↔ -9223372036854775808 ≤ a ∧ a ≤ 9223372036854775807 := by
  simp [W64, Lit.wf, IntKind.min, IntKind.max, IntKind.signed, IntKind.bits]
theorem keyOf_struct2 {P : Program} {k e : TypeId} {f0 f1 : Field} (hu : P.underlying k = some (.struct #[f0, f1])) (he : P.underlying e = some (.int .i64)) (hk : P.keyType k = true) (hc : P.cellsOf k = 2) (hce : P.cellsOf e = 1)
    (h0 : f0.type = e ∧ f0.offset = 0 ∧ (f0.name != "_") = true) (h1 : f1.type = e ∧ f1.offset = 1 ∧ (f1.name != "_") = true) (hsz : 0 < P.types.size) {a s : Int} (ha : W64 a) (hs : W64 s) :
    keyOf P k (kv a s) = some (.string (keyBytes [.int .i64 a, .int .i64 s])) := by
  obtain ⟨m, hm⟩ : ∃ m, P.types.size = m + 1 := ⟨P.types.size - 1, by omega⟩
  unfold W64 at ha hs
  obtain ⟨t0, o0, n0⟩ := h0
  obtain ⟨t1, o1, n1⟩ := h1
  have e0 : P.keyLits (m + 1) e [Value.int .i64 a] = some [.int .i64 a] := by simp [Program.keyLits, he, ha]
  have e1 : P.keyLits (m + 1) e [Value.int .i64 s] = some [.int .i64 s] := by simp [Program.keyLits, he, hs]
  have hl : P.keyLits (m + 1 + 1) k [Value.int .i64 a, Value.int .i64 s] = some [.int .i64 a, .int .i64 s] := by
    simp at n0 n1
    simp [Program.keyLits, hu, hc, t0, o0, n0, t1, o1, n1, hce, he, ha, hs]
  simp [keyOf, hu, hk, Value.formed, hc, Value.cells, hm, hl]
theorem types_pos : 0 < Tryz.prog.types.size := of_decide_eq_true (by kernel_rfl)
theorem key_cells : Tryz.prog.cellsOf 253 = 2 := by kernel_rfl
theorem int_cells : Tryz.prog.cellsOf 3 = 1 := by kernel_rfl
theorem keyOf_kv {a s : Int} (ha : W64 a) (hs : W64 s) : keyOf Tryz.prog 253 (kv a s) = some (.string (keyBytes [.int .i64 a, .int .i64 s])) :=
  keyOf_struct2 Tryz.underlying253 Tryz.underlying3 key_rec key_cells int_cells ⟨rfl, rfl, by decide⟩ ⟨rfl, rfl, by decide⟩ types_pos ha hs

/-- Block b counts: what stands at a sector. -/
def CntIs (w : World) (b : Nat) (c : Int → Int → Int) : Prop :=
  ∃ n f, MapIs Tryz.prog 253 w b n f ∧ (∀ key v, f key = some v → ∃ a s, key = kv a s ∧ v = .int .i64 (c a s)) ∧ ∀ a s, f (kv a s) = none → c a s = 0
/-- c, but n at a sector. -/
def updC (c : Int → Int → Int) (a s n : Int) : Int → Int → Int := fun a' s' => if a' = a ∧ s' = s then n else c a' s'
theorem kv_inj {a s a' s' : Int} (h : kv a s = kv a' s') : a = a' ∧ s = s' := by
  simp [kv] at h; exact h
section
variable {w : World} {b : Nat} {c : Int → Int → Int}
theorem CntIs.lt (h : CntIs w b c) : b < w.heap.size := by obtain ⟨n, f, h, _⟩ := h; exact h.lt
theorem CntIs.block {w' : World} (h : CntIs w b c) (hb : w'.heap[b]? = w.heap[b]?) : CntIs w' b c := by obtain ⟨n, f, h, h2⟩ := h; exact ⟨n, f, h.block hb, h2⟩
theorem CntIs.turns {w' : World} {S : List Nat} (h : CntIs w b c) (ht : Turns w w' S) (hb : b ∉ S) : CntIs w' b c := h.block (ht.block b h.lt hb)
theorem CntIs.fresh (w : World) : CntIs (w.alloc (.map #[] 0)) w.heap.size (fun _ _ => 0) := ⟨0, _, MapIs.fresh _ _ w, by simp, by simp⟩
theorem CntIs.look (h : CntIs w b c) {a s : Int} (ha : W64 a) (hs : W64 s) : (Instr.lookup 245 (.map (some b)) (kv a s) false).run Tryz.prog w = .ok (.int .i64 (c a s)) w := by
  obtain ⟨n, f, h, h1, h2⟩ := h
  rw [(h.look keyed map_under (zero_int w) (keyOf_kv ha hs)).1]
  cases hf : f (kv a s) with
  | none => rw [h2 a s hf]; rfl
  | some v =>
    obtain ⟨a', s', e, rfl⟩ := h1 _ _ hf
    obtain ⟨rfl, rfl⟩ := kv_inj e
    rfl
theorem CntIs.upd_of {f : Value → Option Value} {a s m : Int} (h1 : ∀ key v, f key = some v → ∃ a s, key = kv a s ∧ v = .int .i64 (c a s)) (h2 : ∀ a s, f (kv a s) = none → c a s = 0) :
    (∀ key v, updK f (kv a s) (some (.int .i64 m)) key = some v → ∃ a' s', key = kv a' s' ∧ v = .int .i64 (updC c a s m a' s')) ∧ ∀ a' s', updK f (kv a s) (some (.int .i64 m)) (kv a' s') = none → updC c a s m a' s' = 0 := by
  constructor
  · intro key v hv
    by_cases he : key = kv a s
    · subst he
      rw [updK_same] at hv; injection hv with hv; subst hv
      exact ⟨a, s, rfl, by simp [updC]⟩
    · rw [updK_ne _ _ _ he] at hv
      obtain ⟨a', s', rfl, rfl⟩ := h1 _ _ hv
      exact ⟨a', s', rfl, by unfold updC; rw [if_neg (fun e => he (by rw [e.1, e.2]))]⟩
  · intro a' s' hv
    by_cases he : kv a' s' = kv a s
    · rw [he, updK_same] at hv; cases hv
    · rw [updK_ne _ _ _ he] at hv
      unfold updC; rw [if_neg (fun e => he (by rw [e.1, e.2]))]; exact h2 _ _ hv
theorem CntIs.entry (h : CntIs w b c) {a s : Int} (ha : W64 a) (hs : W64 s) :
    ∃ (z : Value) (st : Nat) (w1 : World), (Instr.mapEntry 245 (.map (some b)) (kv a s)).run Tryz.prog w = .ok (.tuple #[z, .int .i64 st]) w1 ∧ w.grownBy w1 (some b) ∧ CntIs w1 b c ∧
      ∀ m : Int, ∃ w2, (Instr.entryStore 245 (.map (some b)) (.int .i64 st) (.int .i64 m)).run Tryz.prog w1 = .ok () w2 ∧ CntIs w2 b (updC c a s m) ∧ w.grownBy w2 (some b) := by
  obtain ⟨n, f, h, h1, h2⟩ := h
  obtain ⟨st, w1, r1, g1, m1, hv⟩ := h.entry keyed map_under (zero_int w) (keyOf_kv ha hs)
  refine ⟨_, st, w1, r1, g1, ⟨_, _, m1, ?_⟩, fun m => ?_⟩
  · cases hf : f (kv a s) with
    | some v => simp only [Option.isSome_some, if_true]; exact ⟨h1, h2⟩
    | none =>
      simp only [Option.isSome_none, Bool.false_eq_true, if_false]
      have := CntIs.upd_of (m := 0) (a := a) (s := s) h1 h2
      rwa [show updC c a s 0 = c by
        funext a' s'
        unfold updC
        split
        · rename_i e; rw [e.1, e.2, h2 a s hf]
        · rfl] at this
  obtain ⟨w2, r2, m2, g2⟩ := hv (.int .i64 m)
  exact ⟨w2, r2, ⟨_, _, m2, CntIs.upd_of h1 h2⟩, g2⟩
theorem CntIs.delete (h : CntIs w b c) {a s : Int} (ha : W64 a) (hs : W64 s) (ty : TypeId) :
    ∃ w2, (Builtin.delete_ #[245, 253] ty #[.map (some b), kv a s]).run Tryz.prog w = .ok (.tuple #[]) w2 ∧ CntIs w2 b (updC c a s 0) ∧ w.grownBy w2 (some b) := by
  obtain ⟨n, f, h, h1, h2⟩ := h
  obtain ⟨w2, r, m2, g⟩ := h.delete (ty := ty) keyed map_under (keyOf_kv ha hs)
  refine ⟨w2, r, ⟨_, _, m2, ?_, ?_⟩, g⟩
  · intro key v hv
    by_cases he : key = kv a s
    · subst he; rw [updK_same] at hv; cases hv
    · rw [updK_ne _ _ _ he] at hv
      obtain ⟨a', s', rfl, rfl⟩ := h1 _ _ hv
      exact ⟨a', s', rfl, by unfold updC; rw [if_neg (fun e => he (by rw [e.1, e.2]))]⟩
  · intro a' s' hv
    unfold updC
    split
    · rfl
    · rename_i hne
      rw [updK_ne _ _ _ (fun e => hne (kv_inj e))] at hv
      exact h2 _ _ hv
end

theorem of_any (a s : Int) (d : Value) (w : World) : Calls Tryz.prog 159 #[.agg #[.int .i64 a, .int .i64 s, d]] w fun e w' => e = .returned (kv a s) ∧ Below w.heap.size w w' := by
  go_enter Tryz.func159, Tryz.ntmps159
  go_wp2
  refine bodyPost_ret (v := kv a s) (by simp [results, Tryz.results159, go_sem]) rfl ⟨rfl, ?_⟩
  (repeat (first | (with_reducible refine Below.drew ?_) | (with_reducible refine below_drewN0 ?_ _) | ((with_reducible refine Below.setCell ?_ ?_ _); rotate_left; focus (first | omega | (simp; done) | (simp; omega) | (simp at *; omega))) | ((with_reducible refine Below.alloc ?_ ?_ _); rotate_left; focus (first | omega | (simp; done) | (simp; omega) | (simp at *; omega))) | (with_reducible exact Below.refl _ _)))

set_option maxHeartbeats 1000000 in
theorem count_any (C mb : Nat) (v0 v1 v2 : Value) (c : Int → Int → Int) (a s n : Int) (ha : W64 a) (hs : W64 s) (hn : -1 ≤ n ∧ n ≤ 1) (hc : 0 ≤ c a s ∧ c a s ≤ 1000) (hne : C ≠ mb) (w : World) (hr : Row w C 247 #[v0, v1, v2, .map (some mb)]) (hm : CntIs w mb c) :
    Calls Tryz.prog 168 #[.pointer (some ⟨C, 0, none⟩), kv a s, .int .i64 n] w fun e w' => (∃ v, e = .returned v) ∧ CntIs w' mb (updC c a s (c a s + n)) ∧ Turns w w' [mb] := by
  obtain ⟨wA, hU⟩ : ∃ wA, wA = (w.alloc (.cells #[.int .i64 a, .int .i64 s] 253)) := ⟨_, rfl⟩
  have HrA : Hid (Row wA.drew w.heap.size 253 #[.int .i64 a, .int .i64 s]) := by unfold Hid; rw [hU]; exact Row.fresh w _ _
  have HrC : Hid (Row wA.drew C 247 #[v0, v1, v2, .map (some mb)]) := by unfold Hid; rw [hU]; exact hr.alloc _
  have HT : Hid (Turns w wA.drew [mb]) := by unfold Hid; rw [hU]; exact ((Turns.refl _ _).alloc _).drew
  have HM : Hid (CntIs wA.drew mb c) := by unfold Hid; rw [hU]; exact hm.turns (S := []) ((Turns.refl _ _).alloc _).drew (by simp)
  have hmlt := hm.lt
  have hClt := hr.lt
  obtain ⟨z, st, w1, r1, g1, hm1, hv⟩ := HM.out.entry ha hs
  have hlk1 := hm1.look ha hs
  obtain ⟨w2, r2, HM2, g2⟩ := hv (c a s + n)
  have HM2 := Lib.hid HM2
  have hlk := HM.out.look ha hs
  have HL2 : Hid (∀ k, (Instr.lookup 245 (.map (some mb)) (kv a s) false).run Tryz.prog (w2.drewN k) = .ok (.int .i64 (updC c a s (c a s + n) a s)) (w2.drewN k)) := fun k => CntIs.look (w := w2.drewN k) HM2.out ha hs
  have hcA : wA.cell? ⟨C, 3, none⟩ = some (.map (some mb)) := HrC.out.cell 3
  have hk0 : wA.cell? ⟨w.heap.size, 0, none⟩ = some (.int .i64 a) := HrA.out.cell 0
  have hk1 : wA.cell? ⟨w.heap.size, 1, none⟩ = some (.int .i64 s) := HrA.out.cell 1
  have HrA2 : Hid (Row w2 w.heap.size 253 #[.int .i64 a, .int .i64 s]) := (g2.block _ HrA.out.lt (by simp; omega)).trans HrA.out
  have HrC2 : Hid (Row w2 C 247 #[v0, v1, v2, .map (some mb)]) := (g2.block _ HrC.out.lt (by simp; omega)).trans HrC.out
  have HT2 : Hid (Turns w w2 [mb]) := HT.out.trans (Turns.of_grown g2) (by simp)
  clear hr hm g1 g2 hv HrA HrC HT HM hm1
  rw [show updC c a s (c a s + n) a s = c a s + n by simp [updC]] at HL2
  have HD : Hid (∀ k, ∃ w3, (Builtin.delete_ #[245, 253] 0 #[.map (some mb), kv a s]).run Tryz.prog (w2.drewN k) = .ok (.tuple #[]) w3 ∧ CntIs w3 mb (updC (updC c a s (c a s + n)) a s 0) ∧ (w2.drewN k).grownBy w3 (some mb)) := fun k => CntIs.delete (w := w2.drewN k) HM2.out ha hs _
  have HZ : Hid (c a s + n = 0 → updC (updC c a s (c a s + n)) a s 0 = updC c a s (c a s + n)) := fun h => by
    funext a' s'
    unfold updC
    by_cases he : a' = a ∧ s' = s
    · rw [if_pos he, if_pos he, h]
    · rw [if_neg he]
  generalize updC c a s (c a s + n) = c2 at *
  generalize c a s = q at *
  have hw : IntKind.i64.wrap (q + n) = q + n := by rw [IntKind.wrap_i64]; omega
  go_enter Tryz.func168, Tryz.ntmps168
  go_wp2_with fail
  rw [← hU]
  clear hU
  go_region_with (fail)
  all_goals go_wp2
  all_goals
    clear r1 r2 hlk hcA hk0 hk1
    have hc2 := HrC2.out.cell 3
    have hk0 := HrA2.out.cell 0
    have hk1 := HrA2.out.cell 1
    simp at hc2 hk0 hk1
    have hl2 := HL2.out
    by_cases h0 : q + n = 0
    · rw [h0] at hl2
      go_quiet (fail)
      clear hl2
      go_wp2
      refine region_tail 5 (by kernel_rfl) (by kernel_rfl) (fun U' hU' => ?_)
      rw [show U' = w2.drewN (nq + 1) by rw [hU']; simp]
      clear hU' U'
      obtain ⟨w3, r3, hm3, g3⟩ := HD.out (nq + 1)
      rw [HZ.out h0] at hm3
      have HM3 := Lib.hid hm3
      have HT3 : Hid (Turns w w3 [mb]) := HT2.out.trans ((Turns.refl w2 [mb]).drewN (nq + 1) |>.trans (Turns.of_grown g3) (by simp)) (by simp)
      clear hm3 g3 HD HZ HM2 HT2 HrA2 HrC2 HL2 h0
      simp only [List.take_succ_cons, List.take_zero, List.drop_succ_cons, List.drop_zero]
      repeat still_step
      refine wpStill_nil ?_
      go_wp2
      go_end0
      exact ⟨⟨_, rfl⟩, HM3.out, HT3.out⟩
    · have h0' : (q + n == 0) = false := by simp; omega
      go_quiet (fail)
      clear hl2
      go_wp2
      go_end0
      exact ⟨⟨_, rfl⟩, HM2.out, HT2.out.drewN _⟩
end Go.Proofs.YtclhhdodebdmjaaGreat.Vca

namespace Go.Proofs.YtclhhdodebdmjaaGreat.Vca
open Go.RowKit
set_option linter.unusedVariables false
set_option maxRecDepth 100000
set_option linter.unusedSimpArgs false

theorem reach_small {n : Nat} (h : n ≤ reachBytes) : n ≤ 140737488351232 := h
theorem u8_info : (Tryz.prog.info? 5).map (fun i => (i.zero, i.size, i.bytes)) = some (some (.int .u8 0), 1, 1) := by kernel_rfl
set_option maxHeartbeats 400000 in
theorem CloneB_any (A : Option Addr) (n c : Nat) (xs : List Value) (hlen : n ≤ reachBytes) (w : World) (hs : Src w 1 A n xs) (h1 : ∀ u ∈ xs, u.oneCell' = true) :
    Calls Tryz.prog 83 #[.slice A n c] w fun e w' => ∃ A' c', e = .returned (.slice A' n c') ∧ w'.ownsRow w.heap.size 5 1 (.slice A' n c') n xs ∧ Below w.heap.size w w' := by
  obtain ⟨i0, hi, hz0, hz1, hz2⟩ := info_parts u8_info
  have q22 : ∀ (w : World) (a : Option Addr) (n c n' c' : Nat), (binOp .eql 53 (.slice a n c) (.slice none n' c')).run Tryz.prog w = .ok (.bool a.isNone) w := fun w a n c n' c' => Lib.run_eql_slice_nil w _ _ a n c n' c' Tryz.underlying53
  cases A with
  | none =>
    have hn : n = 0 := by
      rcases Nat.eq_zero_or_pos n with h | h
      · exact h
      · obtain ⟨_, e, _⟩ := hs.lies h; cases e
    subst hn
    obtain rfl : xs = [] := List.eq_nil_of_length_eq_zero (by simpa using hs.len)
    clear hs h1
    go_enter Tryz.func83, Tryz.ntmps83
    go_wp2
    go_ret
    exact ⟨_, _, rfl, World.ownsRow_nil _ _ _ _, Below.refl _ _⟩
  | some ad =>
    have H1 := Lib.hid h1
    have HO := Lib.hid (World.ownsRow_made (base := w.heap.size) (size := 1) (e := 5) w #[] 0 (Nat.le_refl _) (Nat.zero_le _) rfl)
    have HS := Lib.hid (hs.keep (w' := w.alloc (.cells #[] 5)) (fun a v h => (World.cell?_alloc_lt _ _ _ (World.block_lt_of_cell? w a h)).trans h))
    have HB : Hid (Below w.heap.size w (w.alloc (.cells #[] 5))) := by unfold Hid; (repeat (first | (with_reducible refine Below.drew ?_) | (with_reducible refine below_drewN0 ?_ _) | ((with_reducible refine Below.setCell ?_ ?_ _); rotate_left; focus (first | omega | (simp; done) | (simp; omega) | (simp at *; omega))) | ((with_reducible refine Below.alloc ?_ ?_ _); rotate_left; focus (first | omega | (simp; done) | (simp; omega) | (simp at *; omega))) | (with_reducible exact Below.refl _ _)))
    have b1 : Hid (0 + n ≤ maxLen) := by have := reach_small hlen; unfold Hid maxLen; omega
    have b2 : Hid ((0 + n) * 1 ≤ 140737488355328) := by have := reach_small hlen; unfold Hid; omega
    clear hs h1
    go_enter Tryz.func83, Tryz.ntmps83
    go_wp2_with (at_builtin; refine wpList_append_src _ rfl _ _ 53 rfl w.heap.size 5 i0 (.int .u8 0) 1 1 Tryz.underlying53 hi hz0 hz1 hz2 rfl (by decide) _ 0 [] rfl HO.out (some ad) n c xs rfl HS.out H1.out b1.out b2.out (by simp) ?_; intro v' w1 hown hgrow hv)
    rw [Nat.zero_add, List.nil_append] at hown
    obtain ⟨A', c', rfl, _, _⟩ := own_shape hown
    have hown := Lib.hid hown
    go_wp2
    go_ret
    refine ⟨A', c', rfl, hown.out, HB.out.grown hgrow (by simp) ?_⟩
    intro k hk
    have : w.heap.size = k := by injection hk
    omega

/-- A write in the cache, and the group that it is of. -/
structure It where
  a : Int
  s : Int
  A : Option Addr
  c : Nat
  l : List Nat
  g : Int
abbrev It.d (x : It) : Value := .slice x.A x.l.length x.c
abbrev It.cells (x : It) : List Value := [.int .i64 x.a, .int .i64 x.s, .slice x.A x.l.length x.c, .int .i64 x.g]
abbrev It.wr (x : It) : List Value := [.int .i64 x.a, .int .i64 x.s, .slice x.A x.l.length x.c]
def itsV (l : List It) : List Value := l.flatMap It.cells
def wrsV (l : List It) : List Value := l.flatMap It.wr
/-- A slice of the cache's own that holds these bytes. -/
structure DatIs (w : World) (B : Nat) (d : Value) (l : List Nat) : Prop where
  small : ∀ x ∈ l, x < 256
  short : l.length ≤ reachBytes
  own : w.ownsRow B 5 1 d l.length (intsV .u8 l)
theorem DatIs.shape {w : World} {B : Nat} {d : Value} {l : List Nat} (h : DatIs w B d l) : ∃ A c, d = .slice A l.length c ∧ l.length ≤ c ∧ c ≤ maxLen := own_shape h.own
theorem DatIs.src {w : World} {B : Nat} {A : Option Addr} {n c : Nat} {l : List Nat} (h : DatIs w B (.slice A n c) l) : Src w 1 A l.length (intsV .u8 l) ∧ n = l.length := by
  obtain ⟨A', c', e, _⟩ := h.shape
  injection e with e1 e2 e3
  subst e1; subst e2
  exact ⟨Src.of_own h.own, rfl⟩
end Go.Proofs.YtclhhdodebdmjaaGreat.Vca
