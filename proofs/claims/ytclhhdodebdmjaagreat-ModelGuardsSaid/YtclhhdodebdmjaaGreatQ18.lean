/- What follows is laid together from several texts of mine, in their order. -/
import Derived.Test.YtclhhdodebdmjaaGreatQ17
import Derived.RangeFuncNested
import Derived.RangeFuncBound
import Derived.RangeFuncCalls
import Derived.RangeFuncLeaves
import Derived.Shelf.Abstract
import Derived.Shelf.RegionOpen
import Derived.OwnWalkIn
import Derived.TacticsInMore
import Derived.LoopNIn
import Derived.LoopIn
import Derived.Test.YtclhhdodebdmjaaGreatQ2
import Derived.Test.YtclhhdodebdmjaaGreatQ13
import Derived.Test.YtclhhdodebdmjaaGreatQ6
import Derived.StillTailTactics
import Derived.OwnWalk

namespace Go.Proofs.YtclhhdodebdmjaaGreat.Vca
open Go.RowKit Go.Shelf
attribute [local go_sem] Oper.semAt_some
set_option linter.unusedVariables false
set_option maxRecDepth 100000
set_option linter.unusedSimpArgs false

/-- A block that is as it was. -/
def keepB (b : Nat) (W W' : World) : Prop := W'.heap[b]? = W.heap[b]?
/-- A place of a row, and what lies there. -/
abbrev Pl (items : List It) := { p : Nat × It // items[p.1]? = some p.2 }
abbrev encB {items : List It} (x : Pl items) : Array Value := #[.int .i64 (x.1.1 : Nat), x.1.2.agg]
/-- The last d places, the last one first. -/
def downs (items : List It) : Nat → List (Pl items)
  | 0 => []
  | d + 1 => downs items d ++ (if h : d < items.length then [⟨(items.length - 1 - d, items[items.length - 1 - d]'(by omega)), List.getElem?_eq_getElem _⟩] else [])
theorem downs_step (items : List It) (d q : Nat) (x : It) (hd : d + (q + 1) = items.length) (hx : items[q]? = some x) : downs items (d + 1) = downs items d ++ [⟨(q, x), hx⟩] := by
  have h : d < items.length := by omega
  have e : items.length - 1 - d = q := by omega
  obtain ⟨hq, e2⟩ := List.getElem?_eq_some_iff.1 hx
  rw [show downs items (d + 1) = downs items d ++ (if h : d < items.length then [⟨(items.length - 1 - d, items[items.length - 1 - d]'(by omega)), List.getElem?_eq_getElem _⟩] else []) from rfl, dif_pos h]
  subst e2
  subst e
  rfl
theorem downs_length (items : List It) (d : Nat) : (downs items d).length ≤ d := by
  induction d with
  | zero => simp [downs]
  | succ d ih => unfold downs; split <;> simp <;> omega
theorem downs_rev (items : List It) (d : Nat) (hd : d ≤ items.length) : (downs items d).map (fun x => x.1.2) = items.reverse.take d := by
  induction d with
  | zero => simp [downs]
  | succ d ih =>
    unfold downs
    rw [dif_pos (by omega), List.map_append, ih (by omega), List.take_add_one]
    congr 1
    rw [List.getElem?_reverse (by omega), List.getElem?_eq_getElem (by omega)]
    simp

theorem Backward_any (v : Value) (A : Option Addr) (n c : Nat) (w : World) :
    Calls Tryz.prog 158 #[.slice A n c] w fun e w' => e = .returned (.func (.func 220) #[] #[.pointer (some ⟨w.heap.size, 0, none⟩)]) ∧ w' = w.alloc (.cells #[.slice A n c] 241) := by
  go_enter Tryz.func158, Tryz.ntmps158
  go_wp2
  go_ret
  exact ⟨rfl, rfl⟩

set_option maxRecDepth 100000 in
set_option maxHeartbeats 2000000 in
theorem Backward1_in (F : Fence) (n : Nat) (h8 : F.fn 220) (hro : F.round = none) (hn : 1 ≤ n) (l Bs L cap : Nat) (A : Option Addr) (items : List It) (hlen : items.length ≤ 1000) (J Jx : List (Pl items) → World → Prop)
    (hY : ∀ pre x W, J pre W → pre.length < items.length → YieldAt F (n - 1) Tryz.prog l (encB x) W fun e W' =>
      (e = .returned (.bool true) ∧ J (pre ++ [x]) W' ∧ (keepB Bs W W' ∧ keepB L W W')) ∨ (e = .returned (.bool false) ∧ Jx (pre ++ [x]) W'))
    (W : World) (hBs : W.cell? ⟨Bs, 0, none⟩ = some (.slice A items.length cap))
    (hc : ∀ j x, items[j]? = some x → A = some ⟨L, 0, none⟩ ∧ W.cell? ⟨L, j * 4, none⟩ = some (.int .i64 x.a) ∧ W.cell? ⟨L, j * 4 + 1, none⟩ = some (.int .i64 x.s) ∧ W.cell? ⟨L, j * 4 + 2, none⟩ = some (.slice x.A x.l.length x.c) ∧ W.cell? ⟨L, j * 4 + 3, none⟩ = some (.int .i64 x.g)) (h0 : J [] W) :
    CallsIn F n Tryz.prog 220 #[.func (.yield l) #[] #[], .pointer (some ⟨Bs, 0, none⟩)] W fun e W' => (∃ v, e = .returned v) ∧
      ((∃ ys, ys = downs items items.length ∧ J ys W') ∨ (∃ pre, (∃ k, k ≤ items.length ∧ pre = downs items k) ∧ Jx pre W')) := by
  have HC := Lib.hid hc
  have HY := Lib.hid hY
  obtain ⟨len, hl⟩ : ∃ len, len = items.length := ⟨_, rfl⟩
  have HL := Lib.hid hl
  rw [← hl] at hBs hlen
  clear hc hY hl
  refine callsIn_of_wp Tryz.func220 rfl h8 ?_ hro
  simp only [Tryz.ntmps220, List.size_toArray, List.length_cons, List.length_nil, Nat.reduceAdd, Nat.reduceSub, Array.replicate_succ, Array.replicate_zero, List.push_toArray, List.append_toArray, List.nil_append, List.cons_append]
  have hw0 : IntKind.i64.wrap ((len : Int) - 1) = (len : Int) - 1 := by rw [IntKind.wrap_i64]; omega
  gi_wp2
  gi_loopw [3] (fun i wr => ∃ d q : Nat, d + q = len ∧ i = .int .i64 ((q : Int) - 1) ∧ J (downs items d) wr ∧ (keepB Bs W wr ∧ keepB L W wr))
    (fun i _ => (intOf i + 1).toNat)
  case atStart => exact ⟨0, len, by omega, rfl, h0, rfl, rfl⟩
  case round =>
    obtain ⟨d, q, hdq, rfl, hJs, hk1, hk2⟩ := hrel
    have hbs : wr.cell? ⟨Bs, 0, none⟩ = some (.slice A len cap) := (World.cell?_of_block (a := ⟨Bs, 0, none⟩) hk1).trans hBs
    cases q with
    | succ q =>
      obtain ⟨x, hx⟩ : ∃ x, items[q]? = some x := ⟨_, List.getElem?_eq_getElem (by rw [← HL.out]; omega)⟩
      obtain ⟨eA, c0, c1, c2, c3⟩ := HC.out q x hx
      subst eA
      replace c0 := (World.cell?_of_block (a := ⟨L, q * 4, none⟩) hk2).trans c0
      replace c1 := (World.cell?_of_block (a := ⟨L, q * 4 + 1, none⟩) hk2).trans c1
      replace c2 := (World.cell?_of_block (a := ⟨L, q * 4 + 2, none⟩) hk2).trans c2
      replace c3 := (World.cell?_of_block (a := ⟨L, q * 4 + 3, none⟩) hk2).trans c3
      have hql : q < len := by omega
      obtain ⟨fn, tmps, assign, body, hy, hR⟩ := HY.out _ ⟨(q, x), hx⟩ wr hJs (by have := downs_length items d; rw [← HL.out]; omega)
      try dsimp only [encB, It.agg] at hy
      rw [← downs_step items d q x (by rw [← HL.out]; omega) hx] at hR
      rw [show ((q + 1 : Nat) : Int) - 1 = (q : Int) by omega]
      have hw1 : IntKind.i64.wrap ((q : Int) - 1) = (q : Int) - 1 := by rw [IntKind.wrap_i64]; omega
      have hK1 := Lib.hid hk1
      have hK2 := Lib.hid hk2
      clear hx hBs hk1 hk2 h0 hw0
      gi_wp2
      refine hR.mono ?_
      rintro e W3 (⟨rfl, hJ3, hk3, hk4⟩ | ⟨rfl, hJx3⟩)
      · gi_wp2
        go_roundw
        case rel => exact ⟨d + 1, q, by omega, rfl, hJ3, Eq.trans hk3 hK1.out, Eq.trans hk4 hK2.out⟩
        case measure => simp [intOf]
      · gi_wp2
        refine bodyPost_ret (results_none rfl _ _ _) rfl ?_
        exact ⟨⟨_, rfl⟩, .inr ⟨_, ⟨d + 1, by rw [← HL.out]; omega, rfl⟩, hJx3⟩⟩
    | zero =>
      obtain rfl : d = len := by omega
      gi_wp2
      go_end0
      rw [HL.out] at hJs
      exact ⟨⟨_, rfl⟩, .inl ⟨_, rfl, hJs⟩⟩

theorem Back_stops (F : Fence) (n : Nat) (h8 : F.fn 220) (hro : F.round = none) (hn : 1 ≤ n) (Bx B c : Nat) (A : Option Addr) (items : List It) (hlen : items.length ≤ 1000) (w : World)
    (hr : Row w Bx 241 #[.slice A items.length c]) (ho : OwnI w B (.slice A items.length c) items.length items) :
    SeqStopsK F n Tryz.prog 220 #[.pointer (some ⟨Bx, 0, none⟩)] (encB (items := items)) (fun W W' => keepB Bx W W' ∧ keepB ((A.map (·.block)).getD 0) W W') (fun ys => ys = downs items items.length) (fun pre => ∃ k, k ≤ items.length ∧ pre = downs items k) items.length w := fun l J Jx W hW _ _ hY h0 => by
  have hr' := hr.below hW hr.lt
  have ho' : OwnI W B (.slice A items.length c) items.length items := own_below ho hW
  refine Backward1_in F n h8 hro hn l Bx ((A.map (·.block)).getD 0) c A items hlen J Jx hY W (by rw [hr'.cell]; simp) (fun j x hx => ?_) h0
  obtain ⟨L, e, c0, c1, c2, c3⟩ := OwnI.at4 ho' j x hx
  subst e
  exact ⟨rfl, c0, c1, c2, c3⟩
end Go.Proofs.YtclhhdodebdmjaaGreat.Vca

namespace Go.Proofs.YtclhhdodebdmjaaGreat
open Go.RowKit
set_option linter.unusedVariables false
set_option linter.unusedSimpArgs false

/-- What an iterator owes: at each call of yield 'Dt' holds of what it hands on. -/
def SeqTold {α : Type} (F : Fence) (n : Nat) (P : Program) (g : Nat) (lb : Array Value) (encs : α → Array Value) (Kp : World → World → Prop) (Dt : α → World → Prop) (S Sp : List α → Prop) (N : Nat) (w : World) : Prop :=
  ∀ (l : Nat) (J Jx : List α → World → Prop) (W : World), Below w.heap.size w W → AbidesFrom W.heap.size J → AbidesFrom W.heap.size Jx →
    (∀ pre x W1, Dt x W1 → J pre W1 → pre.length < N → YieldAt F (n - 1) P l (encs x) W1 fun e W' =>
      (e = .returned (.bool true) ∧ J (pre ++ [x]) W' ∧ Kp W1 W') ∨ (e = .returned (.bool false) ∧ Jx (pre ++ [x]) W')) →
    J [] W →
    CallsIn F n P g (#[.func (.yield l) #[] #[]] ++ lb) W fun e W' => (∃ v, e = .returned v) ∧ ((∃ xs, S xs ∧ J xs W') ∨ (∃ pre, Sp pre ∧ Jx pre W'))
theorem told_of_stops {α : Type} {F : Fence} {n : Nat} {P : Program} {g : Nat} {lb : Array Value} {encs : α → Array Value} {Kp : World → World → Prop} {S Sp : List α → Prop} {N : Nat} {w : World}
    (h : SeqStopsK F n P g lb encs Kp S Sp N w) : SeqTold F n P g lb encs Kp (fun _ _ => True) S Sp N w :=
  fun l J Jx W hb hJ hJx hY h0 => h l J Jx W hb hJ hJx (fun pre x W1 hj hl => hY pre x W1 trivial hj hl) h0

theorem Row.kept {W W' : World} {row : Option Nat} {g : Nat} {t : TypeId} {cs : Array Value} (h : Row W g t cs) (hg : W.grownBy W' row) (hr : ∀ r, row = some r → ∃ o : Obj, W.heap[r]? = some o ∧ o.isCells = false) : Row W' g t cs := by
  refine (hg.block g h.lt (fun e => ?_)).trans h
  obtain ⟨o, ho, hc⟩ := hr g e.symm
  unfold Row at h
  rw [h] at ho
  injection ho with ho
  subst ho
  simp [Obj.isCells] at hc
theorem ownFrom_own {β : Type} (K B : Nat) (t : TypeId) (sz : Nat) (f : β → Value) (m : β → Nat) (xs : β → List Value) : OwnFrom K (fun s W => W.ownsRow B t sz (f s) (m s) (xs s)) := fun s W W' row hs hg hr =>
  World.ownsRow.kept (show W.ownsRow B t sz (f s) (m s) (xs s) from hs) hg (by
    rcases (show W.ownsRow B t sz (f s) (m s) (xs s) from hs).2 with ⟨e1, _⟩ | ⟨g', cap, cur, e1, _, h1, _⟩
    · left; rw [e1]; rfl
    · right; rw [e1]; intro e
      obtain ⟨_, o, ho, hc⟩ := hr g' (by rw [← e]; rfl)
      rw [h1] at ho; injection ho with ho; subst ho; simp [Obj.isCells] at hc)

variable {F : Fence} {n : Nat} {P : Program}
theorem wpIn_range_told {α : Type} {g : Operand} {ps : Array Tmp} {assign body : Code} {Q : Exit → Act → World → Prop} {a : Act} {w : World}
    (hro : F.round = none) (h1 : 1 ≤ n) {gf : Nat} {lb : Array Value} (hg : a.eval g = .func (.func gf) #[] lb) (hFg : F.fn gf) (eg : ∀ args w, (callFunc gf args).run P w = .ok (.enter gf args) w)
    {encs : α → Array Value} {Kp : World → World → Prop} {Dt : α → World → Prop} {S Sp : List α → Prop} {N : Nat} {w0 : World} (hseq : SeqTold F (n - 1) P gf lb encs Kp Dt S Sp N w0)
    (hKt : ∀ {A B C : World}, Kp A B → Kp B C → Kp A C) (hKb : ∀ (W : World) (l : Nat) (o o' : Obj), w.heap.size ≤ l → W.heap[l]? = some o → o.isCells = false → o.isWalk = false → Kp W (W.putObj l o')) (hb0 : Below w0.heap.size w0 w) (hps : ∀ x, (encs x).size = ps.size)
    (I : List α → World → Prop) (Ix : Code → List α → World → Prop) (hI : OwnFrom w.heap.size I) (hIx : ∀ c, OwnFrom w.heap.size (Ix c)) (h0 : I [] w) (Ax : List α → α → Act → World → Prop) (hAx : ∀ pre x a', OwnFrom w.heap.size (fun (_ : Unit) W => Ax pre x a' W))
    (hassign : ∀ (l : Nat) (pre : List α) (x : α) (W : World), I pre W → Dt x W → pre.length < N →
      assign.wpIn (F.inRound l) (n - 1 - 1) P (Exit.then (fun a' W' => KeepsFrom w.heap.size W W' ∧ Kp W W' ∧ Ax pre x a' W') (fun _ _ _ => False)) { tmps := (ps.zip (encs x)).foldl (fun t (p, v) => t.setIfInBounds p v) a.tmps, defers := [] } W)
    (hbody : ∀ (l : Nat) (pre : List α) (x : α) (a' : Act) (W : World), Ax pre x a' W → pre.length < N → body.wpIn (F.inRound l) (n - 1 - 1) P (ownPostG w.heap.size Kp I Ix (pre ++ [x]) W) a' W)
    (hdone : ∀ (D : Nat) (xs : List α) (W : World), w.heap.size ≤ D → S xs → I xs W → W.heap[D]? = some (.deferred (some [])) → Q .normal { a with defers := { target := .collected D, args := #[] } :: a.defers } W)
    (hstop : ∀ (D : Nat) (c : Code) (pre : List α) (W : World), w.heap.size ≤ D → Sp pre → Ix c pre W → W.heap[D]? = some (.deferred (some [])) → c.wpIn F n P Q { a with defers := { target := .collected D, args := #[] } :: a.defers } W) :
    (Code.rangeFunc g ps assign body).wpIn F n P Q a w := by
  refine wpIn_rangeFunc fun fn hfn => ?_
  rw [hro]
  -- the record: at block R; the rounds' deferred calls: at block w.heap.size
  obtain ⟨rec, hrec⟩ : ∃ rec : LoopState → Option Code → Loop, rec = fun st pe => { state := st, pending := pe, fn, tmps := a.tmps, params := ps, assign, body, defers := w.heap.size } := ⟨_, rfl⟩
  obtain ⟨R, hR⟩ : ∃ R, R = w.heap.size + 1 := ⟨_, rfl⟩
  obtain ⟨W1, hW1⟩ : ∃ W1, W1 = (w.alloc (.deferred (some []))).alloc (.loop (rec .ready none)) := ⟨_, rfl⟩
  have hold : ∀ (st : LoopState) (pe : Option Code), ∀ W : World, W.heap[R]? = some (.loop (rec st pe)) → W.heap[w.heap.size]? = some (.deferred (some [])) → ∀ st' pe', (W.putObj R (.loop (rec st' pe'))).heap[R]? = some (.loop (rec st' pe')) ∧ (W.putObj R (.loop (rec st' pe'))).heap[w.heap.size]? = some (.deferred (some [])) :=
    fun st pe W hl hk st' pe' => ⟨World.putObj_heap_same (Array.getElem?_eq_some_iff.1 hl).1, (World.putObj_heap_other (by omega)).trans hk⟩
  have hs1 : W1.heap.size = w.heap.size + 2 := by rw [hW1]; simp
  have hL1 : W1.heap[R]? = some (.loop (rec .ready none)) := by
    have h := World.alloc_heap_new (w.alloc (.deferred (some []))) (.loop (rec .ready none))
    rw [World.size_alloc] at h
    rw [hW1, hR]; exact h
  have hK1 : W1.heap[w.heap.size]? = some (.deferred (some [])) := by
    rw [hW1]; exact (Below.heap_alloc _ _ _ (by simp)).trans (World.alloc_heap_new w _)
  have hb1 : Below w0.heap.size w0 W1 := by
    rw [hW1]; exact hb0.trans ((((Below.refl _ w).alloc (Nat.le_refl _) _).alloc (by simp) _).mono hb0.size)
  have hI1 : I [] W1 := by rw [hW1]; exact hI.alloc _ (hI.alloc _ h0)
  have book : ∀ {A B : World} {row : Option Nat}, A.grownBy B row → (∀ r, row = some r → W1.heap.size ≤ r ∧ ∃ o : Obj, A.heap[r]? = some o ∧ o.isWalk = true) →
      (∀ r, row = some r → w.heap.size ≤ r ∧ ∃ o : Obj, A.heap[r]? = some o ∧ o.isCells = false) ∧ (∀ (k : Nat) (o : Obj), A.heap[k]? = some o → o.isWalk = false → B.heap[k]? = some o) :=
    fun hg hr => ⟨fun r e => by obtain ⟨hB, o, ho, hw⟩ := hr r e; exact ⟨by omega, o, ho, Obj.not_cells_of_walk hw⟩, fun k o hk hw => (grownBy_keeps hg (fun r e => (hr r e).2) hk hw).trans hk⟩
  refine ⟨R, [{ target := .collected w.heap.size, args := #[] }], W1, { target := .fn (.func gf) lb, args := #[.func (.yield R) #[] #[]] }, W1, gf, #[.func (.yield R) #[] #[]] ++ lb, W1, ?_, ?_, ?_, ?_, fun _ => h1, ?_⟩
  · rw [hW1, hR, hrec]; exact run_enterLoop_outer _ _ _ _ _
  · simp only [resolve, hg]
    simp [go_sem]
  · intro f' hf'; simp [Target.leads] at hf'; subst hf'; exact hFg
  · simp [invoke, go_sem, eg]
  refine (hseq R (fun pre W => I pre W ∧ W.heap[R]? = some (.loop (rec .ready none)) ∧ W.heap[w.heap.size]? = some (.deferred (some [])))
    (fun pre W => ∃ c, Ix c pre W ∧ W.heap[R]? = some (.loop (rec .done (some c))) ∧ W.heap[w.heap.size]? = some (.deferred (some []))) W1 hb1
    (fun s A B row hs hg' hr => ⟨hI s A B row hs.1 hg' (book hg' hr).1, (book hg' hr).2 _ _ hs.2.1 rfl, (book hg' hr).2 _ _ hs.2.2 rfl⟩)
    (fun s A B row hs hg' hr => by
      obtain ⟨c, hc, hl, hk⟩ := hs
      exact ⟨c, hIx c s A B row hc hg' (book hg' hr).1, (book hg' hr).2 _ _ hl rfl, (book hg' hr).2 _ _ hk rfl⟩)
    ?_ ⟨hI1, hL1, hK1⟩).mono ?_
  · rintro pre x W hD ⟨hi, hl, hk⟩ hlen
    have hy := run_yield (P := P) (args := encs x) hl (by rw [hrec]; exact hps x)
    rw [hrec] at hy
    refine ⟨fn, _, assign, body, hy, roundIn_of_wpIn hfn (wpIn_mono (hassign R pre x W hi hD hlen) ?_)⟩
    clear hy
    rintro e a' Wa hp
    cases e with
    | normal =>
      obtain ⟨hka, hkpa, hax⟩ := hp
      have hla := hka.same _ _ (by omega) hl rfl
      have hka2 := hka.same _ _ (Nat.le_refl _) hk rfl
      refine ⟨_, run_beginRound hla (by rw [hrec]), ?_⟩
      have e1 : ({ rec .ready none with state := .busy } : Loop) = rec .busy none := by rw [hrec]
      rw [e1]
      obtain ⟨hlb, hkb⟩ := hold _ _ Wa hla hka2 .busy none
      have hkb2 : Kp Wa (Wa.putObj R (.loop (rec .busy none))) := hKb _ _ _ _ (by omega) hla rfl rfl
      refine wpIn_mono (hbody R pre x a' _ ((hAx pre x a').putObj (s := ()) _ hax (by omega) hla rfl) hlen) ?_
      have fin : ∀ (jump : Option Code) (W3 : World), KeepsFrom w.heap.size (Wa.putObj R (.loop (rec .busy none))) W3 →
          ∃ hl3 : W3.heap[R]? = some (.loop (rec .busy none)), (Instr.endRound R jump).run P W3 = .ok (.bool jump.isNone) (W3.putObj R (.loop (rec (if jump.isNone then .ready else .done) jump))) ∧
            (W3.putObj R (.loop (rec (if jump.isNone then .ready else .done) jump))).heap[R]? = some (.loop (rec (if jump.isNone then .ready else .done) jump)) ∧ (W3.putObj R (.loop (rec (if jump.isNone then .ready else .done) jump))).heap[w.heap.size]? = some (.deferred (some [])) := fun jump W3 hk3 => by
        have hl3 := hk3.same _ _ (by omega) hlb rfl
        have hr := run_endRound (P := P) jump (by rw [hrec] at hl3; exact hl3)
        have h2 := hold _ _ W3 hl3 (hk3.same _ _ (Nat.le_refl _) hkb rfl) (if jump.isNone then .ready else .done) jump
        exact ⟨hl3, by rw [hrec]; exact hr, h2⟩
      rintro e a3 W3 hp
      cases e with
      | normal =>
        obtain ⟨hk3, hkp3, hi3⟩ := hp
        obtain ⟨hl3, hr, hl4, hk4⟩ := fin none W3 hk3
        exact ⟨_, _, hr, .inl ⟨rfl, ⟨hI.putObj _ hi3 (by omega) hl3 rfl, hl4, hk4⟩, hKt hkpa (hKt (hKt hkb2 hkp3) (hKb _ _ _ _ (by omega) hl3 rfl rfl))⟩⟩
      | ret =>
        obtain ⟨hk3, hi3⟩ := hp
        obtain ⟨hl3, hr, hl4, hk4⟩ := fin (some .ret) W3 hk3
        exact ⟨_, _, hr, .inr ⟨rfl, .ret, (hIx _).putObj _ hi3 (by omega) hl3 rfl, hl4, hk4⟩⟩
      | exit id =>
        obtain ⟨hk3, hi3⟩ := hp
        obtain ⟨hl3, hr, hl4, hk4⟩ := fin (some (.exit id)) W3 hk3
        exact ⟨_, _, hr, .inr ⟨rfl, .exit id, (hIx _).putObj _ hi3 (by omega) hl3 rfl, hl4, hk4⟩⟩
      | goto t =>
        obtain ⟨hk3, hi3⟩ := hp
        obtain ⟨hl3, hr, hl4, hk4⟩ := fin (some (.goto t)) W3 hk3
        exact ⟨_, _, hr, .inr ⟨rfl, .goto t, (hIx _).putObj _ hi3 (by omega) hl3 rfl, hl4, hk4⟩⟩
      | panic ch => exact hp.elim
      | outgrown => exact hp.elim
    | ret => exact hp.elim
    | exit id => exact hp.elim
    | goto t => exact hp.elim
    | panic ch => exact hp.elim
    | outgrown => exact hp.elim
  · rintro e W2 ⟨⟨v, rfl⟩, (⟨xs, hS, hi, hl, hk⟩ | ⟨pre, hSp, c, hi, hl, hk⟩)⟩
    · have hr := run_endLoop (P := P) hl (by rw [hrec]; simp)
      rw [show (rec .ready none).pending = none by rw [hrec]] at hr
      exact ⟨none, _, hr, hdone _ xs _ (Nat.le_refl _) hS (hI.putObj _ hi (by omega) hl rfl) ((World.putObj_heap_other (by omega)).trans hk)⟩
    · have hr := run_endLoop (P := P) hl (by rw [hrec]; simp)
      rw [show (rec .done (some c)).pending = some c by rw [hrec]] at hr
      exact ⟨some c, _, hr, hstop _ c pre _ (Nat.le_refl _) hSp ((hIx c).putObj _ hi (by omega) hl rfl) ((World.putObj_heap_other (by omega)).trans hk)⟩
end Go.Proofs.YtclhhdodebdmjaaGreat

namespace Go.Proofs.YtclhhdodebdmjaaGreat
open Go.RowKit
set_option linter.unusedVariables false
set_option linter.unusedSimpArgs false
theorem wpIn_region_later_round {F : Fence} {n : Nat} {P : Program} {id : Nat} {Q : Exit → Act → World → Prop} {a : Act} {w : World} {l : List Oper} (hnd : l.toArray.all notDefer = true) (hm : P.follows .mixedOrders = true) (hB : Region.lexB .any l.toArray = true)
    (h : wpQuietIn F n P l.toArray (fun u => ∃ t : Later w, u = t.u) (fun a' => ∀ t : Later w, Q .normal a' t.u) l a) : (Code.region id l.toArray true).wpIn F n P Q a w :=
  wpIn_region_quiet_round (C := fun u => ∃ t : Later w, u = t.u) hnd hm hB ⟨⟨_, (Below.refl _ _).drew⟩, rfl⟩ (by
    have e : (fun a' => ∀ t : Later w, Q .normal a' t.u) = (fun a' => ∀ w', (∃ t : Later w, w' = t.u) → Q .normal a' w') := by
      funext a'; apply propext
      exact ⟨fun h w' ⟨t, e⟩ => by subst e; exact h t, fun h t => h _ ⟨t, rfl⟩⟩
    rw [e] at h
    simpa using h)
theorem Later.callIn {F : Fence} {n : Nat} {P : Program} {f : FuncId} {args : Array Value} {w : World} {t : Later w} {v : Value} (h : CallsIn F n P f args t.u fun e u' => e = .returned v ∧ Below t.u.heap.size t.u u') :
    CallsIn F n P f args t.u fun e w'' => e = .returned v ∧ ∃ t' : Later w, w'' = t'.u :=
  h.mono fun e u' ⟨he, hb⟩ => ⟨he, ⟨u', t.h.trans (hb.mono t.h.size)⟩, rfl⟩
end Go.Proofs.YtclhhdodebdmjaaGreat

namespace Go.Proofs.YtclhhdodebdmjaaGreat.Vca
open Go.RowKit Go.Shelf
attribute [local go_sem] Oper.semAt_some
set_option linter.unusedVariables false
set_option maxRecDepth 100000
set_option linter.unusedSimpArgs false

/-- What Get tells. -/
def GetPost (w : World) (items : List It) (a s : Int) (e : Ending) (w' : World) : Prop :=
  (match items.reverse.find? (dropP a s) with
    | none => e = .returned (.tuple #[.slice none 0 0, .bool false])
    | some x => ∃ A' c', e = .returned (.tuple #[.slice A' x.l.length c', .bool true]) ∧ w'.ownsRow w.heap.size 5 1 (.slice A' x.l.length c') x.l.length (intsV .u8 x.l)) ∧ Below w.heap.size w w'
theorem wide_fn (f : FuncId) : Fence.wide.fn f := trivial
attribute [local simp, local go_sem] wide_fn
theorem keep_of {k n : Nat} {w W W' : World} (h : Below n w W) (h' : Below n w W') (hk : k < n) : keepB k W W' := (h'.block k hk).trans (h.block k hk).symm
theorem Get_results (tmps : Array Value) (w W : World) (u v : Value) (h6 : tmps.getD 6 undef = .pointer (some ⟨w.heap.size, 0, none⟩)) (h7 : tmps.getD 7 undef = .pointer (some ⟨w.heap.size + 1, 0, none⟩)) (r0 : W.cell? ⟨w.heap.size, 0, none⟩ = some u) (r1 : W.cell? ⟨w.heap.size + 1, 0, none⟩ = some v) :
    (results Tryz.f89 tmps).run Tryz.prog W = .ok (.tuple #[u, v]) W := by
  simp at h6 h7
  simp [results, Tryz.results89, go_sem, h6, h7, r0, r1]
set_option maxRecDepth 100000 in
set_option maxHeartbeats 2000000 in
theorem Get_in (n : Nat) (hn : 3 ≤ n) (B C mb most c : Nat) (A : Option Addr) (items : List It) (g a s : Int) (w : World) (h : CHeld w B C mb most A c items g) (ha : W64 a) (hs : W64 s) :
    CallsIn Fence.wide n Tryz.prog 89 #[.pointer (some ⟨C, 0, none⟩), .int .i64 a, .int .i64 s] w (GetPost w items a s) := by
  have h1 : 1 ≤ n := by omega
  obtain ⟨wK, hwK⟩ : ∃ wK, wK = ((w.alloc (.cells #[.slice none 0 0] 53)).alloc (.cells #[.bool false] 4)).alloc (.cells #[.int .i64 a, .int .i64 s] 253) := ⟨_, rfl⟩
  have HBK : Hid (Below w.heap.size w wK) := by unfold Hid; rw [hwK]; (repeat (first | (with_reducible refine Below.drew ?_) | (with_reducible refine below_drewN0 ?_ _) | ((with_reducible refine Below.setCell ?_ ?_ _); rotate_left; focus (first | omega | (simp; done) | (simp; omega) | (simp at *; omega))) | ((with_reducible refine Below.alloc ?_ ?_ _); rotate_left; focus (first | omega | (simp; done) | (simp; omega) | (simp at *; omega))) | (with_reducible exact Below.refl _ _)))
  have HR0 : Hid (Row wK w.heap.size 53 #[.slice none 0 0]) := by unfold Hid; rw [hwK]; exact ((Row.fresh _ _ _).alloc _).alloc _
  have HR1 : Hid (Row wK (w.heap.size + 1) 4 #[.bool false]) := by
    unfold Hid; rw [hwK]
    have := (Row.fresh (w.alloc (.cells #[.slice none 0 0] 53)) 4 #[.bool false]).alloc (.cells #[.int .i64 a, .int .i64 s] 253)
    rw [World.size_alloc] at this; exact this
  have HRK : Hid (Row wK (w.heap.size + 2) 253 #[.int .i64 a, .int .i64 s]) := by
    unfold Hid; rw [hwK]
    have := Row.fresh ((w.alloc (.cells #[.slice none 0 0] 53)).alloc (.cells #[.bool false] 4)) 253 #[.int .i64 a, .int .i64 s]
    rw [World.size_alloc, World.size_alloc] at this; exact this
  have HszK : Hid (wK.heap.size = w.heap.size + 3) := by unfold Hid; rw [hwK]; simp
  have HK := Lib.hid (h.below HBK.out)
  have hlk : ∀ k, (Instr.lookup 245 (.map (some mb)) (.agg #[.int .i64 a, .int .i64 s]) false).run Tryz.prog (wK.drewN k) = .ok (.int .i64 (cntI items a s)) (wK.drewN k) := fun k => CntIs.look (w := wK.drewN k) HK.out.cnt ha hs
  obtain ⟨_, q1, _, q3⟩ := HK.out.cells
  have p0 := HRK.out.cell 0
  have p1 := HRK.out.cell 1
  have r0 := HR0.out.cell 0
  have r1 := HR1.out.cell 0
  have z0 := HR0.out.frozen 0
  have z1 := HR1.out.frozen 0
  simp at p0 p1 r0 r1
  obtain ⟨q, hq⟩ : ∃ q, q = cntI items a s := ⟨_, rfl⟩
  have HQ := Lib.hid hq
  rw [← hq] at hlk
  have H := Lib.hid h
  clear h ha hs hq
  refine callsIn_of_wp_marks Tryz.func89 rfl trivial ?_ rfl
  simp only [Tryz.ntmps89, List.size_toArray, List.length_cons, List.length_nil, Nat.reduceAdd, Nat.reduceSub, Array.replicate_succ, Array.replicate_zero, List.push_toArray, List.append_toArray, List.nil_append, List.cons_append]
  refine wpIn_wide.2 ?_
  go_wp2
  rw [← hwK]
  clear hwK
  by_cases hz : q = 0
  · subst hz
    go_quiet (fail)
    go_wp2
    have HB : Hid (Below w.heap.size w (((wK.drewN nq).setCell ⟨w.heap.size, 0, none⟩ (.slice none 0 0)).setCell ⟨w.heap.size + 1, 0, none⟩ (.bool false))) := by
      have hb := HBK.out
      unfold Hid; (have hsz0 := Below.size hb; repeat (first | (with_reducible refine Below.drew ?_) | (with_reducible refine below_drewN0 ?_ _) | ((with_reducible refine Below.setCell ?_ ?_ _); rotate_left; focus (first | omega | (simp; done) | (simp; omega) | (simp at *; omega))) | ((with_reducible refine Below.alloc ?_ ?_ _); rotate_left; focus (first | omega | (simp; done) | (simp; omega) | (simp at *; omega))) | ((with_reducible refine Below.trans ?_ (Below.mono hb ?_)); rotate_left; focus (first | omega | (simp; done) | (simp; omega) | (simp at *; omega))) | (with_reducible exact Below.refl _ _)))
    refine ⟨_, Get_results _ w _ (.slice none 0 0) (.bool false) rfl rfl ?_ ?_, ?_, HB.out⟩
    · exact (((HR0.out.drewN nq).put 0 (.slice none 0 0)).far (by simp) (.bool false)).cell 0
    · exact (((HR1.out.drewN nq).far (by simp) (.slice none 0 0)).put 0 (.bool false)).cell 0
    · have : items.reverse.find? (dropP a s) = none := by
        rw [List.find?_eq_none]
        intro x hx
        rw [List.mem_reverse] at hx
        have h0 : (items.filter fun x => decide (x.a = a ∧ x.s = s)) = [] := List.eq_nil_of_length_eq_zero (by have := HQ.out; unfold cntI at this; omega)
        intro hp
        have : x ∈ items.filter fun x => decide (x.a = a ∧ x.s = s) := List.mem_filter.2 ⟨hx, hp⟩
        rw [h0] at this; cases this
      rw [this]
  · have hz2 : decide (q = 0) = false := by simp [hz]
    go_quiet (fail)
    have HBk := Lib.hid (Backward_any (.slice A items.length c) A items.length c (wK.drewN nq))
    clear hlk
    go_wp2_with fail
    refine HBk.out.mono ?_
    rintro e w4 ⟨rfl, hw4⟩
    have HR4 : Hid (Row w4 (w.heap.size + 3) 241 #[.slice A items.length c]) := by
      unfold Hid; rw [hw4, ← HszK.out]; exact Row.fresh (wK.drewN nq) _ _
    have HB4 : Hid (Below wK.heap.size wK w4) := by unfold Hid; rw [hw4]; (repeat (first | (with_reducible refine Below.drew ?_) | (with_reducible refine below_drewN0 ?_ _) | ((with_reducible refine Below.setCell ?_ ?_ _); rotate_left; focus (first | omega | (simp; done) | (simp; omega) | (simp at *; omega))) | ((with_reducible refine Below.alloc ?_ ?_ _); rotate_left; focus (first | omega | (simp; done) | (simp; omega) | (simp at *; omega))) | (with_reducible exact Below.refl _ _)))
    have hsz4 : w4.heap.size = w.heap.size + 4 := by rw [hw4]; simp [HszK.out]
    rw [show (wK.drewN nq).heap.size = w.heap.size + 3 from HszK.out]
    have H4 := Lib.hid (HK.out.below HB4.out)
    have HO4 : Hid (CHeld w4 B C mb most A c items g) := H4.out
    clear hw4 HBk q1 q3 p0 p1 r0 r1 z0 z1
    go_wp2
    refine (wpIn_wide (n := n)).1 ?_
    have hLk : (A.map (·.block)).getD 0 < w4.heap.size := by
      rcases H4.out.own.head with ⟨e, _⟩ | ⟨L, e⟩
      · rw [e]; simp; omega
      · obtain ⟨_, cur, hr⟩ := H4.out.own.block_row L (by simp [blk, e])
        rw [e]; simpa using hr.lt
    have hBC : Hid (∀ W, Below w.heap.size w W → CHeld W B C mb most A c items g) := fun W hW => H.out.below hW
    refine wpIn_range_told rfl h1 (gf := 220) (lb := #[.pointer (some ⟨w.heap.size + 3, 0, none⟩)]) rfl trivial (enters_of Tryz.func220 (by kernel_rfl) rfl)
      (told_of_stops (Back_stops Fence.wide (n - 1) trivial rfl (by omega) (w.heap.size + 3) B c A items (by have := H.out.few; omega) w4 HR4.out H4.out.own)) (fun h k => ⟨Eq.trans k.1 h.1, Eq.trans k.2 h.2⟩) ?kb (Below.refl _ _) (fun _ => rfl)
      (fun pre W => Below w4.heap.size w4 W ∧ ∀ y ∈ pre, dropP a s y.1.2 = false)
      (fun cd pre W => cd = .ret ∧ ∃ (pre0 : List (Pl items)) (y : Pl items) (A' : Option Addr) (c' : Nat), pre = pre0 ++ [y] ∧ (∀ z ∈ pre0, dropP a s z.1.2 = false) ∧ dropP a s y.1.2 = true ∧
        (Row W w.heap.size 53 #[.slice A' y.1.2.l.length c'] ∧ Row W (w.heap.size + 1) 4 #[.bool true] ∧ W.ownsRow w.heap.size 5 1 (.slice A' y.1.2.l.length c') y.1.2.l.length (intsV .u8 y.1.2.l)) ∧ Below w.heap.size w W)
      ?iown ?ixown ?i0 (fun pre x a' W => ∃ b, a' = { tmps := #[.pointer (some ⟨C, 0, none⟩), .int .i64 a, .int .i64 s, undef, undef, undef, .pointer (some ⟨w.heap.size, 0, none⟩), .pointer (some ⟨w.heap.size + 1, 0, none⟩), .pointer (some ⟨w.heap.size + 1 + 1, 0, none⟩), undef, .pointer (some ⟨b, 0, none⟩), .int .i64 a, .int .i64 s, .agg #[.int .i64 a, .int .i64 s],
          .pointer (some ⟨C, 0, none⟩), .pointer (some ⟨C, 0, none⟩), .pointer (some ⟨C, 3, none⟩), .map (some mb), .agg #[.int .i64 a, .int .i64 s], .int .i64 q, .bool false, .pointer (some ⟨C, 0, none⟩), .pointer (some ⟨C, 0, none⟩), .pointer (some ⟨C, 1, none⟩), .slice A items.length c, .func (.func 220) #[] #[.pointer (some ⟨w.heap.size + 3, 0, none⟩)], .int .i64 (x.1.1 : Nat), x.1.2.agg, undef, undef, undef, undef, undef, undef, undef, undef, undef], defers := [] } ∧
        Row W b 244 #[.int .i64 x.1.2.a, .int .i64 x.1.2.s, .slice x.1.2.A x.1.2.l.length x.1.2.c, .int .i64 x.1.2.g] ∧ Below w4.heap.size w4 W ∧ ∀ y ∈ pre, dropP a s y.1.2 = false) ?axown ?assign ?body ?done ?stop
    case kb =>
      intro W l o o' hl h _ _
      exact ⟨World.putObj_heap_other (by omega), World.putObj_heap_other (by omega)⟩
    case iown => exact OwnFrom.and (ownFrom_below (Nat.le_refl _) (Nat.le_refl _)) (fun _ _ _ _ hs _ _ => hs)
    case ixown =>
      rintro cd pre W W' row ⟨rfl, pre0, y, A', c', e1, e2, e3, ⟨h0, h1', h2⟩, hb⟩ hg hr
      exact ⟨rfl, pre0, y, A', c', e1, e2, e3, ⟨Row.kept h0 hg (fun r e => (hr r e).2), Row.kept h1' hg (fun r e => (hr r e).2), ownFrom_own w4.heap.size w.heap.size 5 1 (fun _ : Unit => .slice A' y.1.2.l.length c') (fun _ => y.1.2.l.length) (fun _ => intsV .u8 y.1.2.l) () W W' row h2 hg hr⟩, ownFrom_below (n₀ := w.heap.size) (B := w4.heap.size) (Nat.le_refl _) (by omega) () W W' row hb hg hr⟩
    case i0 => exact ⟨Below.refl _ _, by simp⟩
    case axown =>
      rintro pre x a' _ W W' row ⟨b, e, hb, hB, hno⟩ hg hr
      exact ⟨b, e, Row.kept hb hg (fun r e => (hr r e).2), ownFrom_below (n₀ := w4.heap.size) (B := w4.heap.size) (Nat.le_refl _) (Nat.le_refl _) () W W' row hB hg hr, hno⟩
    case assign =>
      rintro l pre x W ⟨hB, hno⟩ _ _
      have HI := Lib.hid (And.intro hB hno)
      clear hB hno
      gi_wp2
      have hB2 := HI.out.1.alloc HI.out.1.size (.cells #[.int .i64 x.1.2.a, .int .i64 x.1.2.s, .slice x.1.2.A x.1.2.l.length x.1.2.c, .int .i64 x.1.2.g] 244)
      exact ⟨(KeepsOthers.alloc _ _).from _, ⟨keep_of HI.out.1 hB2 (by omega), keep_of HI.out.1 hB2 hLk⟩, W.heap.size, rfl, Row.fresh _ _ _, hB2, HI.out.2⟩
    case body =>
      rintro l pre x a' W ⟨b, rfl, hb, hB, hno⟩ _
      obtain ⟨xa, hxa⟩ : ∃ xa, xa = x.1.2.a := ⟨_, rfl⟩
      obtain ⟨xs, hxs⟩ : ∃ xs, xs = x.1.2.s := ⟨_, rfl⟩
      have HRk : Hid (Row W (w.heap.size + 2) 253 #[.int .i64 a, .int .i64 s]) := (HRK.out.below HB4.out HRK.out.lt).below hB (by omega)
      have HRb := Lib.hid hb
      have HBw := Lib.hid hB
      have Hno := Lib.hid hno
      have j0 : ∀ t : Later W, t.u.cell? ⟨b, 0, none⟩ = some (.int .i64 x.1.2.a) := fun t => by rw [(HRb.out.below t.h HRb.out.lt).cell]; rfl
      have j1 : ∀ t : Later W, t.u.cell? ⟨b, 1, none⟩ = some (.int .i64 x.1.2.s) := fun t => by rw [(HRb.out.below t.h HRb.out.lt).cell]; rfl
      have j2 : ∀ t : Later W, t.u.cell? ⟨b, 2, none⟩ = some (.slice x.1.2.A x.1.2.l.length x.1.2.c) := fun t => by rw [(HRb.out.below t.h HRb.out.lt).cell]; rfl
      have j3 : ∀ t : Later W, t.u.cell? ⟨w.heap.size + 1 + 1, 0, none⟩ = some (.int .i64 a) := fun t => by rw [(HRk.out.below t.h HRk.out.lt).cell]; rfl
      have j4 : ∀ t : Later W, t.u.cell? ⟨w.heap.size + 1 + 1, 1, none⟩ = some (.int .i64 s) := fun t => by rw [(HRk.out.below t.h HRk.out.lt).cell]; rfl
      obtain ⟨β, hβ⟩ : ∃ β, β = decide (x.1.2.a = a ∧ x.1.2.s = s) := ⟨_, rfl⟩
      have HBe := Lib.hid hβ
      have hqq : ∀ w : World, (binOp .eql 253 (.agg #[.int .i64 x.1.2.a, .int .i64 x.1.2.s]) (.agg #[.int .i64 a, .int .i64 s])).run Tryz.prog w = .ok (.bool β) w := fun w => by rw [hβ]; exact run_eql_kv w _ _ a s
      have HOf : Hid (∀ w, CallsIn Fence.wide (n - 1 - 1 - 1) Tryz.prog 159 #[.agg #[.int .i64 x.1.2.a, .int .i64 x.1.2.s, .slice x.1.2.A x.1.2.l.length x.1.2.c]] w fun e w' => e = .returned (.agg #[.int .i64 x.1.2.a, .int .i64 x.1.2.s]) ∧ Below w.heap.size w w') := fun w => callsIn_wide.2 (of_any _ _ _ w)
      have hd1 : 1 ≤ n - 1 - 1 := by omega
      clear hb hB hno hxa hxs hβ
      gi_wp2
      refine wpIn_region_later_round (by kernel_rfl) (by kernel_rfl) (by kernel_rfl) ?_
      (repeat (gi_big_quiet_step ((all_goals (first | exact trivial | (gi_at_call 159; exact Later.callIn (CallsIn.inRound l (HOf.out _))))))))
      refine wpQuietIn_nil ?_
      intro t
      have HTl : Hid (Below w4.heap.size w4 t.u) := HBw.out.trans (t.h.mono HBw.out.size)
      clear hqq HOf
      cases β with
      | false =>
        clear j0 j1 j2 j3 j4
        gi_wp2
        refine ⟨⟨t.h.size, fun k o _ hk _ => (t.h.block k (Array.getElem?_eq_some_iff.1 hk).1).trans hk⟩, ⟨keep_of HBw.out HTl.out (by omega), keep_of HBw.out HTl.out hLk⟩, HTl.out, fun y hy => ?_⟩
        rw [List.mem_append, List.mem_singleton] at hy
        rcases hy with hy | rfl
        · exact Hno.out y hy
        · exact HBe.out.symm
      | true =>
        have HBt : Hid (Below w.heap.size w t.u) := (HBK.out.trans (HB4.out.mono HBK.out.size)).trans (HTl.out.mono (by omega))
        have HRt0 : Hid (Row t.u w.heap.size 53 #[.slice none 0 0]) := ((HR0.out.below HB4.out HR0.out.lt).below HTl.out (by omega))
        have HRt1 : Hid (Row t.u (w.heap.size + 1) 4 #[.bool false]) := ((HR1.out.below HB4.out HR1.out.lt).below HTl.out (by omega))
        have jj2 := j2 t
        have HD := Lib.hid ((H.out.dat x.1.2 (List.mem_of_getElem? x.2)).below HBt.out)
        have HCl := Lib.hid (CloneB_any x.1.2.A x.1.2.l.length x.1.2.c (intsV .u8 x.1.2.l) HD.out.short t.u HD.out.src.1 (fun u hu => by simp [intsV] at hu; obtain ⟨k, _, rfl⟩ := hu; rfl))
        clear j0 j1 j2 j3 j4
        gi_wp2_with (all_goals (first | exact trivial | (gi_at_call 83; refine (CallsIn.inRound l (callsIn_wide.2 HCl.out)).mono ?_)))
        rintro e w5 ⟨A', c', rfl, ho5, hb5⟩
        have HO5 := Lib.hid ho5
        have HB5 := Lib.hid hb5
        have HR50 : Hid (Row w5 w.heap.size 53 #[.slice none 0 0]) := HRt0.out.below hb5 HRt0.out.lt
        have HR51 : Hid (Row w5 (w.heap.size + 1) 4 #[.bool false]) := HRt1.out.below hb5 HRt1.out.lt
        have z0 := HR50.out.frozen 0
        have z1 := HR51.out.frozen 0
        have y0 := HR50.out.cell 0
        have y1 := HR51.out.cell 0
        simp at y0 y1
        clear ho5 hb5 HCl jj2
        gi_wp2
        have ht : KeepsFrom w4.heap.size W t.u := ⟨t.h.size, fun k o _ hk _ => (t.h.block k (Array.getElem?_eq_some_iff.1 hk).1).trans hk⟩
        have ht5 : KeepsFrom w4.heap.size t.u w5 := ⟨HB5.out.size, fun k o _ hk _ => (HB5.out.block k (Array.getElem?_eq_some_iff.1 hk).1).trans hk⟩
        have hk2 : KeepsOthers w5 ((w5.setCell ⟨w.heap.size, 0, none⟩ (.slice A' x.1.2.l.length c')).setCell ⟨w.heap.size + 1, 0, none⟩ (.bool true)) := (KeepsOthers.setCell _ _ _).trans (KeepsOthers.setCell _ _ _)
        have hbw5 : Below w.heap.size w w5 := HBt.out.trans (HB5.out.mono HBt.out.size)
        have htt := HBt.out.size
        have hszt : w4.heap.size ≤ t.u.heap.size := HTl.out.size
        refine ⟨(ht.trans ht5).trans (hk2.from _), rfl, pre, x, A', c', rfl, Hno.out, HBe.out.symm, ⟨?_, ?_, ?_⟩, ?_⟩
        · have := (HR50.out.put 0 (.slice A' x.1.2.l.length c')).far (p := ⟨w.heap.size + 1, 0, none⟩) (by simp) (.bool true)
          simpa using this
        · have := (HR51.out.far (p := ⟨w.heap.size, 0, none⟩) (by simp) (.slice A' x.1.2.l.length c')).put 0 (.bool true)
          simpa using this
        · have ht6 : Turns w5 ((w5.setCell ⟨w.heap.size, 0, none⟩ (.slice A' x.1.2.l.length c')).setCell ⟨w.heap.size + 1, 0, none⟩ (.bool true)) [w.heap.size, w.heap.size + 1] := ((Turns.refl _ _).setCell (by simp) _).setCell (by simp) _
          refine ht6.own (own_mono HO5.out htt) (fun k hk hm => ?_)
          have := (own_blk HO5.out k (by
            cases A' with
            | none => simp [Value.ownBlock] at hk
            | some a => simp [Value.ownBlock] at hk; simp [blk, hk])).1
          simp at hm
          omega
        · (have hsz0 := Below.size hbw5; repeat (first | (with_reducible refine Below.drew ?_) | (with_reducible refine below_drewN0 ?_ _) | ((with_reducible refine Below.setCell ?_ ?_ _); rotate_left; focus (first | omega | (simp; done) | (simp; omega) | (simp at *; omega))) | ((with_reducible refine Below.alloc ?_ ?_ _); rotate_left; focus (first | omega | (simp; done) | (simp; omega) | (simp at *; omega))) | ((with_reducible refine Below.trans ?_ (Below.mono hbw5 ?_)); rotate_left; focus (first | omega | (simp; done) | (simp; omega) | (simp at *; omega))) | (with_reducible exact Below.refl _ _)))
    case done =>
      rintro D ys W hD rfl ⟨hB, hno⟩ hK
      have HBw := Lib.hid hB
      have Hno := Lib.hid hno
      have HRt0 : Hid (Row W w.heap.size 53 #[.slice none 0 0]) := ((HR0.out.below HB4.out HR0.out.lt).below hB (by omega))
      have HRt1 : Hid (Row W (w.heap.size + 1) 4 #[.bool false]) := ((HR1.out.below HB4.out HR1.out.lt).below hB (by omega))
      have z0 := HRt0.out.frozen 0
      have z1 := HRt1.out.frozen 0
      have y0 := HRt0.out.cell 0
      have y1 := HRt1.out.cell 0
      simp at y0 y1
      have HKd := Lib.hid hK
      clear hB hno hK
      go_wp2
      have hB := (HBK.out.trans (HB4.out.mono HBK.out.size)).trans (HBw.out.mono (by omega))
      have hK2 : ((W.setCell ⟨w.heap.size, 0, none⟩ (.slice none 0 0)).setCell ⟨w.heap.size + 1, 0, none⟩ (.bool false)).heap[D]? = some (.deferred (some [])) :=
        ((KeepsOthers.setCell _ _ _).trans (KeepsOthers.setCell _ _ _)).same _ _ HKd.out rfl
      refine ⟨by simp, .inl ⟨_, _, rfl, run_takeDeferred hK2, ?_⟩⟩
      have hr0 : Row ((W.setCell ⟨w.heap.size, 0, none⟩ (.slice none 0 0)).setCell ⟨w.heap.size + 1, 0, none⟩ (.bool false)) w.heap.size 53 #[.slice none 0 0] := by
        have := (HRt0.out.put 0 (.slice none 0 0)).far (p := ⟨w.heap.size + 1, 0, none⟩) (by simp) (.bool false)
        simpa using this
      have hr1 : Row ((W.setCell ⟨w.heap.size, 0, none⟩ (.slice none 0 0)).setCell ⟨w.heap.size + 1, 0, none⟩ (.bool false)) (w.heap.size + 1) 4 #[.bool false] := by
        have := (HRt1.out.far (p := ⟨w.heap.size, 0, none⟩) (by simp) (.slice none 0 0)).put 0 (.bool false)
        simpa using this
      have hb2 : Below w.heap.size w ((W.setCell ⟨w.heap.size, 0, none⟩ (.slice none 0 0)).setCell ⟨w.heap.size + 1, 0, none⟩ (.bool false)) := by (have hsz0 := Below.size hB; repeat (first | (with_reducible refine Below.drew ?_) | (with_reducible refine below_drewN0 ?_ _) | ((with_reducible refine Below.setCell ?_ ?_ _); rotate_left; focus (first | omega | (simp; done) | (simp; omega) | (simp at *; omega))) | ((with_reducible refine Below.alloc ?_ ?_ _); rotate_left; focus (first | omega | (simp; done) | (simp; omega) | (simp at *; omega))) | ((with_reducible refine Below.trans ?_ (Below.mono hB ?_)); rotate_left; focus (first | omega | (simp; done) | (simp; omega) | (simp at *; omega))) | (with_reducible exact Below.refl _ _)))
      refine ⟨_, Get_results _ w _ (.slice none 0 0) (.bool false) rfl rfl ?_ ?_, ?_, hb2.trans (belowK_b (w := w) (Nat.le_refl _) _ D _ _ (by omega) hK2 rfl rfl)⟩
      · exact Row.cell (show Row _ w.heap.size 53 #[.slice none 0 0] from (World.putObj_heap_other (by omega)).trans hr0) 0
      · exact Row.cell (show Row _ (w.heap.size + 1) 4 #[.bool false] from (World.putObj_heap_other (by omega)).trans hr1) 0
      · have : items.reverse.find? (dropP a s) = none := by
          rw [List.find?_eq_none]
          intro x hx hp
          have hm : x ∈ (downs items items.length).map (fun x => x.1.2) := by rw [downs_rev items _ (Nat.le_refl _), ← List.length_reverse, List.take_length]; exact hx
          obtain ⟨y, hy, rfl⟩ := List.mem_map.1 hm
          rw [Hno.out y hy] at hp; cases hp
        rw [this]
    case stop =>
      rintro D cd pre W hD ⟨k, hk, hpre⟩ ⟨rfl, pre0, y, A', c', e1, e2, e3, ⟨h0, h1', h2⟩, hb⟩ hK
      have hfind : items.reverse.find? (dropP a s) = some y.1.2 := by
        have h3 : (pre0 ++ [y]).map (fun x => x.1.2) = items.reverse.take k := by rw [← e1, hpre]; exact downs_rev items k hk
        rw [← List.take_append_drop k items.reverse, ← h3, List.find?_append, List.map_append, List.find?_append]
        rw [List.find?_eq_none.2 (fun x hx => by
          obtain ⟨z, hz, rfl⟩ := List.mem_map.1 hx
          rw [e2 z hz]; simp)]
        simp [e3]
      have HD : Hid (W.heap[D]? = some (.deferred (some []))) := hK
      have HF := Lib.hid hfind
      have Hh0 := Lib.hid h0
      have Hh1 := Lib.hid h1'
      have Hh2 := Lib.hid h2
      have Hb := Lib.hid hb
      clear hK hfind h0 h1' h2 hb hpre e1 e2 e3
      gi_wp2
      refine ⟨by simp, .inl ⟨_, _, rfl, run_takeDeferred HD.out, ?_⟩⟩
      refine ⟨_, Get_results _ w _ (.slice A' y.1.2.l.length c') (.bool true) rfl rfl ?_ ?_, ?_, Hb.out.trans (belowK_b (w := w) (Nat.le_refl _) _ D _ _ (by omega) HD.out rfl rfl)⟩
      · exact Row.cell (show Row _ w.heap.size 53 #[.slice A' y.1.2.l.length c'] from (World.putObj_heap_other (by omega)).trans Hh0.out) 0
      · exact Row.cell (show Row _ (w.heap.size + 1) 4 #[.bool true] from (World.putObj_heap_other (by omega)).trans Hh1.out) 0
      · rw [HF.out]
        exact ⟨A', c', rfl, ownFrom_own w4.heap.size w.heap.size 5 1 (fun _ : Unit => .slice A' y.1.2.l.length c') (fun _ => y.1.2.l.length) (fun _ => intsV .u8 y.1.2.l) () W _ (some D) Hh2.out (grownBy_putObj' W D _) (fun r e => by cases e; exact ⟨hD, _, HD.out, rfl⟩)⟩
theorem Get_any (B C mb most c : Nat) (A : Option Addr) (items : List It) (g a s : Int) (w : World) (h : CHeld w B C mb most A c items g) (ha : W64 a) (hs : W64 s) :
    Calls Tryz.prog 89 #[.pointer (some ⟨C, 0, none⟩), .int .i64 a, .int .i64 s] w (GetPost w items a s) :=
  callsIn_wide.1 (Get_in 3 (Nat.le_refl _) B C mb most c A items g a s w h ha hs)
end Go.Proofs.YtclhhdodebdmjaaGreat.Vca

namespace Go.Proofs.YtclhhdodebdmjaaGreat.Vca
open Go.RowKit Go.Shelf
attribute [local go_sem] Oper.semAt_some
attribute [local simp, local go_sem] wide_fn
set_option linter.unusedVariables false
set_option maxRecDepth 100000
set_option linter.unusedSimpArgs false

/-- The blocks before K are as they were, but for some. -/
structure KpS (K : Nat) (S : List Nat) (W W' : World) : Prop where
  size : W.heap.size ≤ W'.heap.size
  block : ∀ k, k < K → k ∉ S → W'.heap[k]? = W.heap[k]?
/-- The number of the group that the k-th write is of. -/
def gno (items : List It) : Nat → Nat
  | 0 => 0
  | k + 1 => gno items k + (match items[k]?, items[k + 1]? with | some x, some y => if y.g = x.g then 0 else 1 | _, _ => 0)
def gpre (items : List It) : Nat → Nat
  | 0 => 0
  | k + 1 => gno items k
abbrev It.key (x : It) : Int × Int × List Nat × Int := (x.a, x.s, x.l, x.g)
/-- What All tells of the first k writes. -/
def told (items : List It) : Nat → List (Int × Int × List Nat × Int)
  | 0 => []
  | k + 1 => told items k ++ (match items[k]? with | some x => [(x.a, x.s, x.l, ((gno items k : Nat) : Int))] | none => [])
/-- What a round is told: the bytes are its own, the number is small. -/
def Tld (K : Nat) (items : List It) (x : It) (W : World) : Prop := DatIs W K x.d x.l ∧ (0 ≤ x.g ∧ x.g ≤ 1000) ∧ ∃ y ∈ items, x.a = y.a ∧ x.s = y.s ∧ x.l = y.l
abbrev encW (x : It) : Array Value := #[.int .i64 x.g, .agg #[.int .i64 x.a, .int .i64 x.s, .slice x.A x.l.length x.c]]
end Go.Proofs.YtclhhdodebdmjaaGreat.Vca

namespace Go.Proofs.YtclhhdodebdmjaaGreat.Grd
open Go.RowKit
set_option linter.unusedVariables false
set_option linter.unusedSimpArgs false
set_option maxRecDepth 100000

abbrev GHeld := Held 221 5 .u8
abbrev RHeld := Held 226 3 .i64
theorem neG : 221 ≠ 5 := by decide
theorem u8_info : (Tryz.prog.info? 5).map (fun i => (i.zero, i.size, i.bytes)) = some (some (.int .u8 0), 1, 1) := by kernel_rfl

theorem Level_any (x : Nat) (w : World) : Calls Tryz.prog 208 #[.int .u8 x] w fun e w' => e = .returned (.int .i64 (if x = 1 then 2 else if x = 2 then 3 else 1)) ∧ w = w' := by
  have key : x = 1 ∨ (x ≠ 1 ∧ x = 2) ∨ (x ≠ 1 ∧ x ≠ 2) := by omega
  rcases key with h1 | ⟨h1, h2⟩ | ⟨h1, h2⟩
  all_goals
    go_enter Tryz.func208, Tryz.ntmps208
    simp only [*] at *
    go_wp2
    try go_ret
    try simp_all

theorem New_yes (n : Nat) (h1 : 1 ≤ n) (h2 : n ≤ 256) (w : World) : Calls Tryz.prog 49 #[.int .i64 n] w fun e w' => ∃ G L c, e = .returned (.tuple #[.pointer (some ⟨G, 0, none⟩), .int .i64 0]) ∧ GHeld w' w.heap.size G L c (List.replicate n 0) ∧ Below w.heap.size w w' := by
  obtain ⟨i0, hi, hz0, hz1, hz2⟩ := info_parts u8_info
  have b1 : Hid (i0.bytes * n ≤ 281474976710656) := by unfold Hid; rw [hz2]; omega
  have b2 : Hid (n ≤ maxLen) := by unfold Hid maxLen; omega
  go_enter Tryz.func49, Tryz.ntmps49
  go_wp2_with (refine wpList_make_full _ rfl _ _ 53 rfl w.heap.size 5 i0 (.int .u8 0) 1 Tryz.underlying53 hi hz0 hz1 .i64 .i64 _ _ n rfl rfl rfl rfl b1.out b2.out (Nat.le_refl _) ?_; intro w1 hown hgrow)
  have hb : Below w.heap.size w w1 := (Below.refl _ w).grown hgrow (Nat.le_refl _) (by simp)
  have hs := hb.size
  have hz : intsV .u8 (List.replicate n 0) = (madeCells (Value.int .u8 0).cells (n * 1)).toList := by
    rw [show (Value.int .u8 0).cells = #[Value.int .u8 0] from rfl, toList_madeCells_one, Nat.mul_one]; simp [intsV]
  rw [← hz] at hown
  have hown := Lib.hid hown
  clear hz
  go_wp2
  refine bodyPost_ret (v := .tuple #[.pointer (some ⟨w1.heap.size, 0, none⟩), .int .i64 0]) (by simp [results, Tryz.results49, go_sem]) rfl ?_
  have ho : w1.ownsRow w.heap.size 5 1 (.slice (some ⟨w.heap.size, 0, none⟩) (List.replicate n 0).length n) (List.replicate n 0).length (intsV .u8 (List.replicate n 0)) := by rw [List.length_replicate]; exact hown.out
  refine ⟨w1.heap.size, w.heap.size, n, rfl, ⟨hs, ?_, own_below ho (by (repeat (first | (with_reducible refine Below.drew ?_) | (with_reducible refine below_drewN0 ?_ _) | ((with_reducible refine Below.setCell ?_ ?_ _); rotate_left; focus (first | omega | (simp; done) | (simp; omega) | (simp at *; omega))) | ((with_reducible refine Below.alloc ?_ ?_ _); rotate_left; focus (first | omega | (simp; done) | (simp; omega) | (simp at *; omega))) | (with_reducible exact Below.refl _ _))))⟩, by (have hsz0 := Below.size hb; repeat (first | (with_reducible refine Below.drew ?_) | (with_reducible refine below_drewN0 ?_ _) | ((with_reducible refine Below.setCell ?_ ?_ _); rotate_left; focus (first | omega | (simp; done) | (simp; omega) | (simp at *; omega))) | ((with_reducible refine Below.alloc ?_ ?_ _); rotate_left; focus (first | omega | (simp; done) | (simp; omega) | (simp at *; omega))) | ((with_reducible refine Below.trans ?_ (Below.mono hb ?_)); rotate_left; focus (first | omega | (simp; done) | (simp; omega) | (simp at *; omega))) | (with_reducible exact Below.refl _ _)))⟩
  rw [List.length_replicate]
  exact Row.fresh _ _ _
theorem there_any (p : Nat) (L c : Nat) (ks : List Nat) (g : Int) (w : World) (h : w.cell? ⟨p, 0, none⟩ = some (.slice (some ⟨L, 0, none⟩) ks.length c)) :
    Calls Tryz.prog 224 #[.pointer (some ⟨p, 0, none⟩), .int .i64 g] w fun e w' => e = .returned (.bool (decide (0 ≤ g ∧ g < ks.length))) ∧ w = w' := by
  revert h
  generalize ks.length = n
  intro h
  by_cases h1 : 0 ≤ g
  · by_cases h2 : g < n
    · go_enter Tryz.func224, Tryz.ntmps224
      go_wp2
      go_ret
      simp [h1, h2]
    · go_enter Tryz.func224, Tryz.ntmps224
      go_wp2
      go_ret
      simp [h1, h2]
  · go_enter Tryz.func224, Tryz.ntmps224
    go_wp2
    go_ret
    simp
    omega
set_option maxHeartbeats 400000 in
theorem May_any (G L c : Nat) (ks : List Nat) (hlen : ks.length ≤ 256) (g : Int) (B : Nat) (w : World) (h : GHeld w B G L c ks) (h4 : ∀ x ∈ ks, x < 4) :
    Calls Tryz.prog 165 #[.pointer (some ⟨G, 0, none⟩), .int .i64 g] w fun e w' => e = .returned (.bool (decide ((0 ≤ g ∧ g < ks.length) ∧ ks.getD g.toNat 0 = 0))) ∧ w = w' := by
  have HT := Lib.hid (there_any G L c ks g w h.cellG)
  have H := Lib.hid h
  by_cases hg : 0 ≤ g ∧ g < ks.length
  · obtain ⟨i, rfl⟩ := Int.eq_ofNat_of_zero_le hg.1
    have hi : i < ks.length := by omega
    have hgc := h.cellG
    have hc := h.cell i hi
    have hx : ks.getD i 0 < 4 := h4 _ (getD_mem _ _ hi)
    rw [show decide (((0 : Int) ≤ (i : Int) ∧ (i : Int) < ks.length) ∧ ks.getD (i : Int).toNat 0 = 0) = decide (ks.getD i 0 = 0) by simp [hi]]
    rw [show decide ((0 : Int) ≤ (i : Int) ∧ (i : Int) < ks.length) = true by simp [hi]] at HT
    clear h H hg
    generalize ks.getD i 0 = x at *
    generalize ks.length = n at *
    by_cases h0 : x = 0
    all_goals
      go_enter Tryz.func165, Tryz.ntmps165
      go_wp2_with fail
      refine (HT.out).mono ?_
      rintro e w' ⟨rfl, rfl⟩
      go_wp2
      go_ret
      simp [h0]
  · rw [show decide (((0 : Int) ≤ g ∧ g < ks.length) ∧ ks.getD g.toNat 0 = 0) = false by simp; omega]
    rw [show decide ((0 : Int) ≤ g ∧ g < ks.length) = false by simp; omega] at HT
    clear h H
    go_enter Tryz.func165, Tryz.ntmps165
    go_wp2_with fail
    refine (HT.out).mono ?_
    rintro e w' ⟨rfl, rfl⟩
    go_wp2
    go_ret
    simp
end Go.Proofs.YtclhhdodebdmjaaGreat.Grd

namespace Go.Proofs.YtclhhdodebdmjaaGreat.Grd
open Go.RowKit
set_option linter.unusedVariables false
set_option linter.unusedSimpArgs false
set_option maxRecDepth 100000

/-- A region that draws, whose first n operations leave the world alone: in the order of the text, the draw outermost. -/
theorem region_tail {P : Program} {id : Nat} {Q : Exit → Act → World → Prop} {a : Act} {w : World} {l : List Oper} (n : Nat) (hm : P.follows .mixedOrders = true) (hB : Region.lexTailB .any l.toArray n = true)
    (h : ∀ u : World, u = w.drew → wpStill P l.toArray u (fun a' => wpList P l.toArray Q (l.drop n) a' u) (l.take n) a) : (Code.region id l.toArray true).wp P Q a w :=
  wp_region_still_tail n hm hB (h _ rfl)

def inR (ks : List Nat) (g : Int) : Prop := 0 ≤ g ∧ g < ks.length
instance (ks : List Nat) (g : Int) : Decidable (inR ks g) := by unfold inR; infer_instance
def clearR (ks : List Nat) (g : Int) : Nat := if inR ks g then if ks.getD g.toNat 0 < 2 then 0 else 21 else 20
def clearK (ks : List Nat) (g : Int) : List Nat := if inR ks g ∧ ks.getD g.toNat 0 < 2 then ks.set g.toNat 0 else ks
def setR (ks : List Nat) (g k : Int) : Nat := if inR ks g then if 1 ≤ k ∧ k ≤ 3 then 0 else 1 else 20
def setK (ks : List Nat) (g k : Int) : List Nat := if inR ks g ∧ 1 ≤ k ∧ k ≤ 3 then ks.set g.toNat (max (ks.getD g.toNat 0) k.toNat) else ks

set_option maxHeartbeats 400000 in
theorem Clear_any (G L c : Nat) (ks : List Nat) (hlen : ks.length ≤ 256) (g : Int) (B : Nat) (w : World) (h : GHeld w B G L c ks) (h4 : ∀ x ∈ ks, x < 4) :
    Calls Tryz.prog 209 #[.pointer (some ⟨G, 0, none⟩), .int .i64 g] w fun e w' => e = .returned (.int .i64 (clearR ks g : Nat)) ∧ GHeld w' B G L c (clearK ks g) ∧ Turns w w' [L] := by
  have HT := Lib.hid (there_any G L c ks g w h.cellG)
  have H := Lib.hid h
  have HW := Lib.hid (Turns.refl w [L])
  by_cases hg : inR ks g
  · obtain ⟨i, rfl⟩ := Int.eq_ofNat_of_zero_le hg.1
    have hi : i < ks.length := by have := hg.2; omega
    have hgc := h.cellG
    have hc := h.cell i hi
    have hf := h.thaw i
    have hx : ks.getD i 0 < 4 := h4 _ (getD_mem _ _ hi)
    rw [show decide ((0 : Int) ≤ (i : Int) ∧ (i : Int) < ks.length) = true by simp [hi]] at HT
    by_cases h2 : ks.getD i 0 < 2
    · have e1 : clearR ks (i : Int) = 0 := by unfold clearR; rw [if_pos hg, Int.toNat_natCast, if_pos h2]
      have e2 : clearK ks (i : Int) = ks.set i 0 := by unfold clearK; rw [if_pos ⟨hg, by simpa using h2⟩]; simp
      have HP := Lib.hid (h.put neG i 0 hi)
      have HW' := Lib.hid ((Turns.refl w [L]).setCell (p := ⟨L, i, none⟩) (by simp) (Value.int .u8 ((0 : Nat) : Int)))
      rw [e1, e2]
      clear h H hg HW e1 e2
      generalize ks.set i 0 = ks' at *
      generalize ks.getD i 0 = x at *
      generalize ks.length = n at *
      go_enter Tryz.func209, Tryz.ntmps209
      go_wp2_with fail
      refine (HT.out).mono ?_
      rintro e w' ⟨rfl, rfl⟩
      go_wp2
      go_ret
      exact ⟨rfl, HP.out, HW'.out⟩
    · have e1 : clearR ks (i : Int) = 21 := by unfold clearR; rw [if_pos hg, Int.toNat_natCast, if_neg h2]
      have e2 : clearK ks (i : Int) = ks := by unfold clearK; rw [if_neg (fun e => h2 (by simpa using e.2))]
      rw [e1, e2]
      clear h hg e1 e2
      generalize ks.getD i 0 = x at *
      generalize ks.length = n at *
      go_enter Tryz.func209, Tryz.ntmps209
      go_wp2_with fail
      refine (HT.out).mono ?_
      rintro e w' ⟨rfl, rfl⟩
      go_wp2
      go_ret
      exact ⟨rfl, H.out, HW.out⟩
  · rw [show decide ((0 : Int) ≤ g ∧ g < ks.length) = false by simpa [inR] using hg] at HT
    have e1 : clearR ks g = 20 := by unfold clearR; rw [if_neg hg]
    have e2 : clearK ks g = ks := by unfold clearK; rw [if_neg (fun e => hg e.1)]
    rw [e1, e2]
    clear h hg e1 e2
    go_enter Tryz.func209, Tryz.ntmps209
    go_wp2_with fail
    refine (HT.out).mono ?_
    rintro e w' ⟨rfl, rfl⟩
    go_wp2
    go_ret
    exact ⟨rfl, H.out, HW.out⟩

set_option maxHeartbeats 400000 in
theorem Set_any (G L c : Nat) (ks : List Nat) (hlen : ks.length ≤ 256) (g k : Int) (B : Nat) (w : World) (h : GHeld w B G L c ks) (h4 : ∀ x ∈ ks, x < 4) :
    Calls Tryz.prog 207 #[.pointer (some ⟨G, 0, none⟩), .int .i64 g, .int .i64 k] w fun e w' => e = .returned (.int .i64 (setR ks g k : Nat)) ∧ GHeld w' B G L c (setK ks g k) ∧ Turns w w' [L] := by
  have HT := Lib.hid (there_any G L c ks g w h.cellG)
  have H := Lib.hid h
  have HW := Lib.hid (Turns.refl w [L])
  by_cases hg : inR ks g
  · obtain ⟨i, rfl⟩ := Int.eq_ofNat_of_zero_le hg.1
    have hi : i < ks.length := by have := hg.2; omega
    have hgc := h.cellG
    have hc := h.cell i hi
    have hf := h.thaw i
    have hx : ks.getD i 0 < 4 := h4 _ (getD_mem _ _ hi)
    rw [show decide ((0 : Int) ≤ (i : Int) ∧ (i : Int) < ks.length) = true by simp [hi]] at HT
    have key : k < 1 ∨ (¬ k < 1 ∧ 3 < k) ∨ (1 ≤ k ∧ k ≤ 3) := by omega
    rcases key with h1 | ⟨h1, h2⟩ | ⟨h1, h2⟩
    · have e1 : setR ks (i : Int) k = 1 := by unfold setR; rw [if_pos hg, if_neg (by omega)]
      have e2 : setK ks (i : Int) k = ks := by unfold setK; rw [if_neg (by omega)]
      rw [e1, e2]
      clear h hg e1 e2
      generalize ks.getD i 0 = x at *
      generalize ks.length = n at *
      go_enter Tryz.func207, Tryz.ntmps207
      go_wp2_with fail
      refine (HT.out).mono ?_
      rintro e w' ⟨rfl, rfl⟩
      go_wp2
      go_ret
      exact ⟨rfl, H.out, HW.out⟩
    · have e1 : setR ks (i : Int) k = 1 := by unfold setR; rw [if_pos hg, if_neg (by omega)]
      have e2 : setK ks (i : Int) k = ks := by unfold setK; rw [if_neg (by omega)]
      rw [e1, e2]
      clear h hg e1 e2
      generalize ks.getD i 0 = x at *
      generalize ks.length = n at *
      go_enter Tryz.func207, Tryz.ntmps207
      go_wp2_with fail
      refine (HT.out).mono ?_
      rintro e w' ⟨rfl, rfl⟩
      go_wp2
      go_ret
      exact ⟨rfl, H.out, HW.out⟩
    · have e1 : setR ks (i : Int) k = 0 := by unfold setR; rw [if_pos hg, if_pos ⟨h1, h2⟩]
      have e2 : setK ks (i : Int) k = ks.set i (max (ks.getD i 0) k.toNat) := by unfold setK; rw [if_pos ⟨hg, h1, h2⟩]; simp
      rw [e1, e2]
      obtain ⟨K, rfl⟩ := Int.eq_ofNat_of_zero_le (show 0 ≤ k by omega)
      rw [Int.toNat_natCast]
      have HP := Lib.hid (h.drewN 1 |>.put neG i (max (ks.getD i 0) K) hi)
      have HW' := Lib.hid (((Turns.refl w [L]).drewN 1).setCell (p := ⟨L, i, none⟩) (by simp) (Value.int .u8 ((max (ks.getD i 0) K : Nat) : Int)))
      clear h H hg HW e1 e2
      generalize ks.set i (max (ks.getD i 0) K) = ks' at *
      generalize ks.getD i 0 = x at *
      generalize ks.length = n at *
      go_enter Tryz.func207, Tryz.ntmps207
      go_wp2_with fail
      refine (HT.out).mono ?_
      rintro e w' ⟨rfl, rfl⟩
      go_wp2
      refine region_tail 16 (by kernel_rfl) (by kernel_rfl) (fun U hU => ?_)
      simp only [List.take_succ_cons, List.take_zero, List.drop_succ_cons, List.drop_zero]
      have hgcU : U.cell? ⟨G, 0, none⟩ = some (.slice (some ⟨L, 0, none⟩) n c) := by rw [hU]; exact hgc
      have hcU : U.cell? ⟨L, i, none⟩ = some (.int .u8 x) := by rw [hU]; exact hc
      have hfU : U.frozen? ⟨L, i, none⟩ = false := by rw [hU]; exact hf
      have eW : IntKind.u8.wrap (K : Int) = K := by rw [IntKind.wrap_u8]; omega
      have eM : (if (x : Int) < K then (K : Int) else x) = ((max x K : Nat) : Int) := by split <;> omega
      have HPU : Hid (GHeld (U.setCell ⟨L, i, none⟩ (.int .u8 ((max x K : Nat) : Int))) B G L c ks') := by rw [hU]; exact HP
      have HWU : Hid (Turns w (U.setCell ⟨L, i, none⟩ (.int .u8 ((max x K : Nat) : Int))) [L]) := by rw [hU]; exact HW'
      clear hU HP HW' hgc hc hf
      clear eM
      by_cases hxk : x < K
      · rw [Nat.max_eq_right (Nat.le_of_lt hxk)] at HPU HWU
        repeat still_step
        refine wpStill_nil ?_
        go_wp2
        go_ret
        exact ⟨rfl, HPU.out, HWU.out⟩
      · rw [Nat.max_eq_left (by omega)] at HPU HWU
        repeat still_step
        refine wpStill_nil ?_
        go_wp2
        go_ret
        exact ⟨rfl, HPU.out, HWU.out⟩
  · rw [show decide ((0 : Int) ≤ g ∧ g < ks.length) = false by simpa [inR] using hg] at HT
    have e1 : setR ks g k = 20 := by unfold setR; rw [if_neg hg]
    have e2 : setK ks g k = ks := by unfold setK; rw [if_neg (fun e => hg e.1)]
    rw [e1, e2]
    clear h hg e1 e2
    go_enter Tryz.func207, Tryz.ntmps207
    go_wp2_with fail
    refine (HT.out).mono ?_
    rintro e w' ⟨rfl, rfl⟩
    go_wp2
    go_ret
    exact ⟨rfl, H.out, HW.out⟩
end Go.Proofs.YtclhhdodebdmjaaGreat.Grd

namespace Go.Proofs.YtclhhdodebdmjaaGreat.Grd
open Go.RowKit
set_option linter.unusedVariables false
set_option linter.unusedSimpArgs false
set_option maxRecDepth 100000

set_option maxHeartbeats 400000 in
theorem Clone_any (L c : Nat) (l : List Nat) (h0 : 0 < l.length) (hlen : l.length ≤ 1000) (w : World) (hs : Src w 1 (some ⟨L, 0, none⟩) l.length (intsV .u8 l)) :
    Calls Tryz.prog 83 #[.slice (some ⟨L, 0, none⟩) l.length c] w fun e w' => ∃ L' c', e = .returned (.slice (some ⟨L', 0, none⟩) l.length c') ∧ w'.ownsRow w.heap.size 5 1 (.slice (some ⟨L', 0, none⟩) l.length c') l.length (intsV .u8 l) ∧ Below w.heap.size w w' := by
  obtain ⟨i0, hi, hz0, hz1, hz2⟩ := info_parts u8_info
  have q22 : ∀ (w : World) (a : Option Addr) (n c n' c' : Nat), (binOp .eql 53 (.slice a n c) (.slice none n' c')).run Tryz.prog w = .ok (.bool a.isNone) w := fun w a n c n' c' => Lib.run_eql_slice_nil w _ _ a n c n' c' Tryz.underlying53
  have H1 := Lib.hid (intsV_one .u8 l)
  have HO := Lib.hid (World.ownsRow_made (base := w.heap.size) (size := 1) (e := 5) w #[] 0 (Nat.le_refl _) (Nat.zero_le _) rfl)
  have HS := Lib.hid (hs.keep (w' := w.alloc (.cells #[] 5)) (fun a v h => (World.cell?_alloc_lt _ _ _ (World.block_lt_of_cell? w a h)).trans h))
  have HB : Hid (Below w.heap.size w (w.alloc (.cells #[] 5))) := by unfold Hid; (repeat (first | (with_reducible refine Below.drew ?_) | (with_reducible refine below_drewN0 ?_ _) | ((with_reducible refine Below.setCell ?_ ?_ _); rotate_left; focus (first | omega | (simp; done) | (simp; omega) | (simp at *; omega))) | ((with_reducible refine Below.alloc ?_ ?_ _); rotate_left; focus (first | omega | (simp; done) | (simp; omega) | (simp at *; omega))) | (with_reducible exact Below.refl _ _)))
  have b1 : Hid (0 + l.length ≤ maxLen) := by unfold Hid maxLen; omega
  have b2 : Hid ((0 + l.length) * 1 ≤ 140737488355328) := by unfold Hid; omega
  have H0 := Lib.hid h0
  clear hs h0
  generalize intsV .u8 l = xs at *
  generalize l.length = n at *
  go_enter Tryz.func83, Tryz.ntmps83
  go_wp2_with (at_builtin; refine wpList_append_src _ rfl _ _ 53 rfl w.heap.size 5 i0 (.int .u8 0) 1 1 Tryz.underlying53 hi hz0 hz1 hz2 rfl (by decide) _ 0 [] rfl HO.out (some ⟨L, 0, none⟩) n c xs rfl HS.out H1.out b1.out b2.out (by simp) ?_; intro v' w1 hown hgrow hv)
  rw [Nat.zero_add, List.nil_append] at hown
  obtain ⟨L', c', rfl, hLB, hLs, hLn, hLm⟩ := own_at hown H0.out
  have hown := Lib.hid hown
  go_wp2
  go_ret
  refine ⟨L', c', rfl, hown.out, HB.out.grown hgrow (by simp) ?_⟩
  intro k hk
  have : w.heap.size = k := by injection hk
  omega

def lastK (ks : List Nat) : List Nat := ks.map fun x => if x = 2 then 0 else x
theorem lastK_length (ks : List Nat) : (lastK ks).length = ks.length := by simp [lastK]
/-- What lasts, k of them looked at. -/
def lastTo (ks : List Nat) (k : Nat) : List Nat := lastK (ks.take k) ++ ks.drop k
theorem lastTo_zero (ks : List Nat) : lastTo ks 0 = ks := by simp [lastTo, lastK]
theorem lastTo_all (ks : List Nat) : lastTo ks ks.length = lastK ks := by simp [lastTo]
theorem lastTo_length (ks : List Nat) (k : Nat) : (lastTo ks k).length = ks.length := by simp [lastTo, lastK]; omega
theorem lastTo_get (ks : List Nat) (k : Nat) (hk : k < ks.length) : (lastTo ks k).getD k 0 = ks.getD k 0 := by
  have : (lastK (ks.take k)).length = k := by simp [lastK]; omega
  unfold lastTo
  simp only [List.getD]
  rw [List.getElem?_append_right (by omega), this, Nat.sub_self, List.getElem?_drop, Nat.add_zero]
theorem lastTo_succ (ks : List Nat) (k : Nat) (hk : k < ks.length) : lastTo ks (k + 1) = (lastTo ks k).set k (if ks.getD k 0 = 2 then 0 else ks.getD k 0) := by
  have hl : (lastK (ks.take k)).length = k := by simp [lastK]; omega
  have e : ks.getD k 0 = ks[k] := by simp [List.getD, hk]
  have e2 : ∀ (a : List Nat) (x : Nat), lastK (a ++ [x]) = lastK a ++ [if x = 2 then 0 else x] := fun a x => by simp only [lastK, List.map_append, List.map_cons, List.map_nil]
  unfold lastTo
  rw [List.set_append_right _ _ (by omega), hl, Nat.sub_self, List.drop_eq_getElem_cons hk, List.set_cons_zero, List.take_succ_eq_append_getElem hk, e2, e, List.append_assoc]
  rfl
theorem lastTo_same (ks : List Nat) (k : Nat) (hk : k < ks.length) (h : ks.getD k 0 ≠ 2) : lastTo ks (k + 1) = lastTo ks k := by
  rw [lastTo_succ ks k hk, if_neg h]
  apply List.ext_getElem?
  intro i
  by_cases hi : i = k
  · subst hi
    have := lastTo_get ks i hk
    have h2 : i < (lastTo ks i).length := by rw [lastTo_length]; exact hk
    rw [List.getElem?_set_self h2, ← this]
    simp [List.getD, h2]
  · rw [List.getElem?_set_ne (fun e => hi e.symm)]

set_option maxHeartbeats 800000 in
theorem Lasting_any (G L c : Nat) (ks : List Nat) (h0 : 0 < ks.length) (hlen : ks.length ≤ 256) (B : Nat) (w : World) (h : GHeld w B G L c ks) (h4 : ∀ x ∈ ks, x < 4) :
    Calls Tryz.prog 155 #[.pointer (some ⟨G, 0, none⟩)] w fun e w' => ∃ L' c', e = .returned (.slice (some ⟨L', 0, none⟩) ks.length c') ∧ w'.ownsRow w.heap.size 5 1 (.slice (some ⟨L', 0, none⟩) ks.length c') ks.length (intsV .u8 (lastK ks)) ∧ Below w.heap.size w w' := by
  have hgc := h.cellG
  have HC := Lib.hid (Clone_any L c ks h0 (by omega) w (Src.of_own h.own))
  have H4 := Lib.hid h4
  clear h h4
  go_enter Tryz.func155, Tryz.ntmps155
  go_wp2_with fail
  refine HC.out.mono ?_
  rintro e w1 ⟨L', c', rfl, hown, hb⟩
  have hLL := own_at hown h0
  obtain ⟨g, c2, e2, hg0, hg1, hg2, hg3⟩ := hLL
  injection e2 with e2 _ e3
  injection e2 with e2
  injection e2 with e2
  subst e2 e3
  have HB := Lib.hid hb
  clear HC hgc hb
  go_wp2
  go_loopw [13] (fun i wr => ∃ k : Nat, k ≤ ks.length ∧ i = .int .i64 k ∧ wr.ownsRow w.heap.size 5 1 (.slice (some ⟨L', 0, none⟩) ks.length c') ks.length (intsV .u8 (lastTo ks k)) ∧ Below w.heap.size w wr) (fun i _ => ks.length - (intOf i).toNat)
  case atStart => exact ⟨0, by omega, rfl, by rw [lastTo_zero]; exact hown, HB.out⟩
  case round =>
    obtain ⟨k, hk, rfl, hown, hb⟩ := hrel
    have HO := Lib.hid hown
    have HW := Lib.hid hb
    by_cases hkl : k < ks.length
    · have hx := H4.out _ (getD_mem ks k hkl)
      have hc := own_cell hown k (by rw [lastTo_length]; exact hkl)
      rw [lastTo_get ks k hkl] at hc
      have hf := own_thaw hown k
      by_cases h2 : ks.getD k 0 = 2
      · rw [h2] at hc
        have HO2 : Hid ((wr.setCell ⟨L', k, none⟩ (.int .u8 ((0 : Nat) : Int))).ownsRow w.heap.size 5 1 (.slice (some ⟨L', 0, none⟩) ks.length c') ks.length (intsV .u8 (lastTo ks (k + 1)))) := by
          rw [lastTo_succ ks k hkl, if_pos h2]; exact own_put hown k 0 (by rw [lastTo_length]; exact hkl)
        clear hown hb h2 hx HO
        clear H4 h0
        generalize ks.length = n at *
        go_wp2
        go_roundw
        case rel => exact ⟨k + 1, by omega, by go_num, HO2.out, by have hw := HW.out; (have hsz0 := Below.size hw; repeat (first | (with_reducible refine Below.drew ?_) | (with_reducible refine below_drewN0 ?_ _) | ((with_reducible refine Below.setCell ?_ ?_ _); rotate_left; focus (first | omega | (simp; done) | (simp; omega) | (simp at *; omega))) | ((with_reducible refine Below.alloc ?_ ?_ _); rotate_left; focus (first | omega | (simp; done) | (simp; omega) | (simp at *; omega))) | ((with_reducible refine Below.trans ?_ (Below.mono hw ?_)); rotate_left; focus (first | omega | (simp; done) | (simp; omega) | (simp at *; omega))) | (with_reducible exact Below.refl _ _)))⟩
        case measure => simp [intOf]; omega
      · have HO2 : Hid (wr.ownsRow w.heap.size 5 1 (.slice (some ⟨L', 0, none⟩) ks.length c') ks.length (intsV .u8 (lastTo ks (k + 1)))) := by
          rw [lastTo_same ks k hkl h2]; exact hown
        clear hown hb HO
        generalize ks.getD k 0 = x at *
        clear H4 h0
        generalize ks.length = n at *
        go_wp2
        go_roundw
        case rel => exact ⟨k + 1, by omega, by go_num, HO2.out, HW.out⟩
        case measure => simp [intOf]; omega
    · obtain rfl : k = ks.length := by omega
      rw [lastTo_all] at HO
      clear hown hb
      go_wp2
      go_ret
      exact ⟨_, _, rfl, HO.out, HW.out⟩

end Go.Proofs.YtclhhdodebdmjaaGreat.Grd

namespace Go.Proofs.YtclhhdodebdmjaaGreat.Grd
open Go.RowKit Go.Shelf
attribute [local go_sem] Oper.semAt_some
set_option linter.unusedVariables false
set_option linter.unusedSimpArgs false
set_option maxRecDepth 100000

/-- A group that is not free, and its kind. -/
abbrev Ev := { x : Nat × Nat // x.1 < 256 ∧ x.2 < 4 }
abbrev encE (x : Ev) : Array Value := #[.int .i64 (x.1.1 : Nat), .int .i64 (x.1.2 : Nat)]
/-- The groups below k that are not free. -/
def evs (f : Nat → Nat) : Nat → List Ev
  | 0 => []
  | k + 1 => evs f k ++ (if h : f k ≠ 0 ∧ (k < 256 ∧ f k < 4) then [⟨(k, f k), h.2⟩] else [])
/-- A block that is as it was. -/
def keepB (b : Nat) (W W' : World) : Prop := W'.heap[b]? = W.heap[b]?

/-- One group's bit laid in. -/
def bitIn (fr : Int) (o : Nat) (x : Ev) : Nat := if 0 ≤ fr ∧ fr ≤ x.1.1 ∧ (x.1.1 : Int) - fr < 32 then o ||| 2 ^ ((x.1.1 : Int) - fr).toNat else o
def bitsIn (fr : Int) (l : List Ev) : Nat := l.foldl (bitIn fr) 0
end Go.Proofs.YtclhhdodebdmjaaGreat.Grd

namespace Go.Proofs.YtclhhdodebdmjaaGreat.Grd
open Go.RowKit Go.Shelf
attribute [local go_sem] Oper.semAt_some
set_option linter.unusedVariables false
set_option linter.unusedSimpArgs false
set_option maxRecDepth 100000

/-- What Bits answers. -/
def bitsK (fr : Int) (ks : List Nat) : Nat := bitsIn fr (evs (fun j => ks.getD j 0) ks.length)
end Go.Proofs.YtclhhdodebdmjaaGreat.Grd

namespace Go.Proofs.YtclhhdodebdmjaaGreat.Grd
end Go.Proofs.YtclhhdodebdmjaaGreat.Grd

namespace Go.Proofs.YtclhhdodebdmjaaGreat.Grd
open Go.RowKit
set_option linter.unusedVariables false
set_option linter.unusedSimpArgs false

/-- Kinds. -/
def Kinds (n : Nat) (ks : List Nat) : Prop := ks.length = n ∧ ∀ x ∈ ks, x < 4
theorem set_lt {ks : List Nat} {i x : Nat} (h : ∀ y ∈ ks, y < 4) (hx : x < 4) : ∀ y ∈ ks.set i x, y < 4 := by
  intro y hy
  rcases List.mem_or_eq_of_mem_set hy with h1 | h1
  · exact h y h1
  · omega
theorem getD_lt (ks : List Nat) (h : ∀ y ∈ ks, y < 4) (i : Nat) : ks.getD i 0 < 4 := by
  by_cases hi : i < ks.length
  · exact h _ (getD_mem _ _ hi)
  · simp [List.getD, hi]
theorem setK_kinds {n : Nat} {ks : List Nat} (h : Kinds n ks) (g k : Int) : Kinds n (setK ks g k) := by
  unfold setK
  split
  · rename_i hc
    exact ⟨by rw [List.length_set]; exact h.1, set_lt h.2 (by have := getD_lt ks h.2 g.toNat; omega)⟩
  · exact h
theorem clearK_kinds {n : Nat} {ks : List Nat} (h : Kinds n ks) (g : Int) : Kinds n (clearK ks g) := by
  unfold clearK
  split
  · exact ⟨by rw [List.length_set]; exact h.1, set_lt h.2 (by omega)⟩
  · exact h
end Go.Proofs.YtclhhdodebdmjaaGreat.Grd

namespace Go.Proofs.YtclhhdodebdmjaaGreat.Grd
open Go.RowKit
set_option linter.unusedVariables false
set_option linter.unusedSimpArgs false

def kindK (ks : List Nat) (g : Int) : Nat := if inR ks g then ks.getD g.toNat 0 else 0
end Go.Proofs.YtclhhdodebdmjaaGreat.Grd
