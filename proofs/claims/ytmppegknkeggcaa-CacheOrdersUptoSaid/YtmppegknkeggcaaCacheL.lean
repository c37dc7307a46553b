/- vcache: slices.Backward over items, its closure. -/
import Derived.Test.YtmppegknkeggcaaCacheK
import Derived.RangeFuncNested
import Derived.RangeFuncBound
import Derived.RangeFuncCalls
import Derived.RangeFuncLeaves
import Derived.Shelf.Abstract
import Derived.Shelf.RegionOpen
import Derived.OwnWalkIn
import Derived.TacticsInMore
import Derived.LoopNIn
import Derived.LoopIn
namespace Go.Proofs.Ytmppegknkeggcaa
open Go.RowKit Go.Shelf
attribute [local go_sem] Oper.semAt_some
set_option linter.unusedVariables false
set_option linter.unusedSimpArgs false

/-- A block that is as it was. -/
def keepB (b : Nat) (W W' : World) : Prop := W'.heap[b]? = W.heap[b]?
/-- A place of a row, and what lies there. -/
abbrev Pl (items : List It) := { p : Nat × It // items[p.1]? = some p.2 }
abbrev encB {items : List It} (x : Pl items) : Array Value := #[.int .i64 (x.1.1 : Nat), x.1.2.agg]
/-- The last d places, the last one first. -/
def downs (items : List It) : Nat → List (Pl items)
  | 0 => []
  | d + 1 => downs items d ++ (if h : d < items.length then [⟨(items.length - 1 - d, items[items.length - 1 - d]'(by omega)), List.getElem?_eq_getElem _⟩] else [])
theorem downs_step (items : List It) (d q : Nat) (x : It) (hd : d + (q + 1) = items.length) (hx : items[q]? = some x) : downs items (d + 1) = downs items d ++ [⟨(q, x), hx⟩] := by
  have h : d < items.length := by omega
  have e : items.length - 1 - d = q := by omega
  obtain ⟨hq, e2⟩ := List.getElem?_eq_some_iff.1 hx
  rw [show downs items (d + 1) = downs items d ++ (if h : d < items.length then [⟨(items.length - 1 - d, items[items.length - 1 - d]'(by omega)), List.getElem?_eq_getElem _⟩] else []) from rfl, dif_pos h]
  subst e2
  subst e
  rfl
theorem downs_length (items : List It) (d : Nat) : (downs items d).length ≤ d := by
  induction d with
  | zero => simp [downs]
  | succ d ih => unfold downs; split <;> simp <;> omega
theorem downs_rev (items : List It) (d : Nat) (hd : d ≤ items.length) : (downs items d).map (fun x => x.1.2) = items.reverse.take d := by
  induction d with
  | zero => simp [downs]
  | succ d ih =>
    unfold downs
    rw [dif_pos (by omega), List.map_append, ih (by omega), List.take_add_one]
    congr 1
    rw [List.getElem?_reverse (by omega), List.getElem?_eq_getElem (by omega)]
    simp

theorem Backward_any (v : Value) (A : Option Addr) (n c : Nat) (w : World) :
    Calls Try.prog 26 #[.slice A n c] w fun e w' => e = .returned (.func (.func 31) #[] #[.pointer (some ⟨w.heap.size, 0, none⟩)]) ∧ w' = w.alloc (.cells #[.slice A n c] 53) := by
  go_enter Try.func26, Try.ntmps26
  go_wp2
  go_ret
  exact ⟨rfl, rfl⟩

set_option maxRecDepth 100000 in
set_option maxHeartbeats 2000000 in
theorem Backward1_in (F : Fence) (n : Nat) (h8 : F.fn 31) (hro : F.round = none) (hn : 1 ≤ n) (l Bs L cap : Nat) (A : Option Addr) (items : List It) (hlen : items.length ≤ 1000) (J Jx : List (Pl items) → World → Prop)
    (hY : ∀ pre x W, J pre W → pre.length < items.length → YieldAt F (n - 1) Try.prog l (encB x) W fun e W' =>
      (e = .returned (.bool true) ∧ J (pre ++ [x]) W' ∧ (keepB Bs W W' ∧ keepB L W W')) ∨ (e = .returned (.bool false) ∧ Jx (pre ++ [x]) W'))
    (W : World) (hBs : W.cell? ⟨Bs, 0, none⟩ = some (.slice A items.length cap))
    (hc : ∀ j x, items[j]? = some x → A = some ⟨L, 0, none⟩ ∧ W.cell? ⟨L, j * 4, none⟩ = some (.int .i64 x.a) ∧ W.cell? ⟨L, j * 4 + 1, none⟩ = some (.int .i64 x.s) ∧ W.cell? ⟨L, j * 4 + 2, none⟩ = some (.slice x.A x.l.length x.c) ∧ W.cell? ⟨L, j * 4 + 3, none⟩ = some (.int .i64 x.g)) (h0 : J [] W) :
    CallsIn F n Try.prog 31 #[.func (.yield l) #[] #[], .pointer (some ⟨Bs, 0, none⟩)] W fun e W' => (∃ v, e = .returned v) ∧
      ((∃ ys, ys = downs items items.length ∧ J ys W') ∨ (∃ pre, (∃ k, k ≤ items.length ∧ pre = downs items k) ∧ Jx pre W')) := by
  have HC := Lib.hid hc
  have HY := Lib.hid hY
  obtain ⟨len, hl⟩ : ∃ len, len = items.length := ⟨_, rfl⟩
  have HL := Lib.hid hl
  rw [← hl] at hBs hlen
  clear hc hY hl
  refine callsIn_of_wp Try.func31 rfl h8 ?_ hro
  simp only [Try.ntmps31, List.size_toArray, List.length_cons, List.length_nil, Nat.reduceAdd, Nat.reduceSub, Array.replicate_succ, Array.replicate_zero, List.push_toArray, List.append_toArray, List.nil_append, List.cons_append]
  have hw0 : IntKind.i64.wrap ((len : Int) - 1) = (len : Int) - 1 := by rw [IntKind.wrap_i64]; omega
  gi_wp2
  gi_loopw [3] (fun i wr => ∃ d q : Nat, d + q = len ∧ i = .int .i64 ((q : Int) - 1) ∧ J (downs items d) wr ∧ (keepB Bs W wr ∧ keepB L W wr))
    (fun i _ => (intOf i + 1).toNat)
  case atStart => exact ⟨0, len, by omega, rfl, h0, rfl, rfl⟩
  case round =>
    obtain ⟨d, q, hdq, rfl, hJs, hk1, hk2⟩ := hrel
    have hbs : wr.cell? ⟨Bs, 0, none⟩ = some (.slice A len cap) := (World.cell?_of_block (a := ⟨Bs, 0, none⟩) hk1).trans hBs
    cases q with
    | succ q =>
      obtain ⟨x, hx⟩ : ∃ x, items[q]? = some x := ⟨_, List.getElem?_eq_getElem (by rw [← HL.out]; omega)⟩
      obtain ⟨eA, c0, c1, c2, c3⟩ := HC.out q x hx
      subst eA
      replace c0 := (World.cell?_of_block (a := ⟨L, q * 4, none⟩) hk2).trans c0
      replace c1 := (World.cell?_of_block (a := ⟨L, q * 4 + 1, none⟩) hk2).trans c1
      replace c2 := (World.cell?_of_block (a := ⟨L, q * 4 + 2, none⟩) hk2).trans c2
      replace c3 := (World.cell?_of_block (a := ⟨L, q * 4 + 3, none⟩) hk2).trans c3
      have hql : q < len := by omega
      obtain ⟨fn, tmps, assign, body, hy, hR⟩ := HY.out _ ⟨(q, x), hx⟩ wr hJs (by have := downs_length items d; rw [← HL.out]; omega)
      try dsimp only [encB, It.agg] at hy
      rw [← downs_step items d q x (by rw [← HL.out]; omega) hx] at hR
      rw [show ((q + 1 : Nat) : Int) - 1 = (q : Int) by omega]
      have hw1 : IntKind.i64.wrap ((q : Int) - 1) = (q : Int) - 1 := by rw [IntKind.wrap_i64]; omega
      have hK1 := Lib.hid hk1
      have hK2 := Lib.hid hk2
      clear hx hBs hk1 hk2 h0 hw0
      gi_wp2
      refine hR.mono ?_
      rintro e W3 (⟨rfl, hJ3, hk3, hk4⟩ | ⟨rfl, hJx3⟩)
      · gi_wp2
        go_roundw
        case rel => exact ⟨d + 1, q, by omega, rfl, hJ3, Eq.trans hk3 hK1.out, Eq.trans hk4 hK2.out⟩
        case measure => simp [intOf]
      · gi_wp2
        refine bodyPost_ret (results_none rfl _ _ _) rfl ?_
        exact ⟨⟨_, rfl⟩, .inr ⟨_, ⟨d + 1, by rw [← HL.out]; omega, rfl⟩, hJx3⟩⟩
    | zero =>
      obtain rfl : d = len := by omega
      gi_wp2
      go_end0
      rw [HL.out] at hJs
      exact ⟨⟨_, rfl⟩, .inl ⟨_, rfl, hJs⟩⟩

theorem Back_stops (F : Fence) (n : Nat) (h8 : F.fn 31) (hro : F.round = none) (hn : 1 ≤ n) (Bx B c : Nat) (A : Option Addr) (items : List It) (hlen : items.length ≤ 1000) (w : World)
    (hr : Row w Bx 53 #[.slice A items.length c]) (ho : OwnI w B (.slice A items.length c) items.length items) :
    SeqStopsK F n Try.prog 31 #[.pointer (some ⟨Bx, 0, none⟩)] (encB (items := items)) (fun W W' => keepB Bx W W' ∧ keepB ((A.map (·.block)).getD 0) W W') (fun ys => ys = downs items items.length) (fun pre => ∃ k, k ≤ items.length ∧ pre = downs items k) items.length w := fun l J Jx W hW _ _ hY h0 => by
  have hr' := hr.below hW hr.lt
  have ho' : OwnI W B (.slice A items.length c) items.length items := own_below ho hW
  refine Backward1_in F n h8 hro hn l Bx ((A.map (·.block)).getD 0) c A items hlen J Jx hY W (by rw [hr'.cell]; simp) (fun j x hx => ?_) h0
  obtain ⟨L, e, c0, c1, c2, c3⟩ := OwnI.at4 ho' j x hx
  subst e
  exact ⟨rfl, c0, c1, c2, c3⟩
end Go.Proofs.Ytmppegknkeggcaa
