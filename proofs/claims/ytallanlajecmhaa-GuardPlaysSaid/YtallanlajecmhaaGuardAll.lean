/- guard: All, its closure, Bits: a range over a function. -/
import Derived.Test.YtallanlajecmhaaGuard3
import Derived.RangeFuncNested
import Derived.RangeFuncBound
import Derived.RangeFuncCalls
import Derived.RangeFuncLeaves
import Derived.Shelf.Abstract
import Derived.Shelf.RegionOpen
import Derived.OwnWalkIn
import Derived.TacticsInMore
import Derived.LoopNIn
import Derived.LoopIn
namespace Go.Proofs.Ytallanlajecmhaa
open Go.RowKit Go.Shelf
attribute [local go_sem] Oper.semAt_some
set_option linter.unusedVariables false
set_option linter.unusedSimpArgs false

/-- A group that is not free, and its kind. -/
abbrev Ev := { x : Nat × Nat // x.1 < 256 ∧ x.2 < 4 }
abbrev encE (x : Ev) : Array Value := #[.int .i64 (x.1.1 : Nat), .int .i64 (x.1.2 : Nat)]
/-- The groups below k that are not free. -/
def evs (f : Nat → Nat) : Nat → List Ev
  | 0 => []
  | k + 1 => evs f k ++ (if h : f k ≠ 0 ∧ (k < 256 ∧ f k < 4) then [⟨(k, f k), h.2⟩] else [])
theorem evs_yes (f : Nat → Nat) (k : Nat) (h : f k ≠ 0) (h' : k < 256 ∧ f k < 4) : evs f (k + 1) = evs f k ++ [⟨(k, f k), h'⟩] := by
  simp [evs, h, h']
theorem evs_no (f : Nat → Nat) (k : Nat) (h : f k = 0) : evs f (k + 1) = evs f k := by simp [evs, h]
theorem evs_length (f : Nat → Nat) (k : Nat) : (evs f k).length ≤ k := by
  induction k with
  | zero => simp [evs]
  | succ k ih => unfold evs; split <;> simp <;> omega

/-- A block that is as it was. -/
def keepB (b : Nat) (W W' : World) : Prop := W'.heap[b]? = W.heap[b]?

set_option maxHeartbeats 400000 in
theorem All_any (G L c : Nat) (ks : List Nat) (h0 : 0 < ks.length) (hlen : ks.length ≤ 256) (B : Nat) (w : World) (h : GHeld w B G L c ks) :
    Calls Try.prog 26 #[.pointer (some ⟨G, 0, none⟩)] w fun e w' => ∃ Bx L' c', e = .returned (.func (.func 34) #[] #[.pointer (some ⟨Bx, 0, none⟩)]) ∧ w.heap.size ≤ Bx ∧ Row w' Bx 44 #[.slice (some ⟨L', 0, none⟩) ks.length c'] ∧ w'.ownsRow w.heap.size 5 1 (.slice (some ⟨L', 0, none⟩) ks.length c') ks.length (intsV .u8 ks) ∧ Below w.heap.size w w' := by
  have hgc := h.cellG
  have HC := Lib.hid (Clone_any L c ks h0 (by omega) w (Src.of_own h.own))
  clear h
  go_enter Try.func26, Try.ntmps26
  go_wp2_with fail
  refine HC.out.mono ?_
  rintro e w1 ⟨L', c', rfl, hown, hb⟩
  have hown := Lib.hid hown
  have HB := Lib.hid hb
  clear HC hgc
  go_wp2
  go_ret
  exact ⟨_, _, _, rfl, hb.size, Row.fresh _ _ _, own_below hown.out (by (repeat (first | (with_reducible refine Below.drew ?_) | (with_reducible refine below_drewN0 ?_ _) | ((with_reducible refine Below.setCell ?_ ?_ _); rotate_left; focus (first | omega | (simp; done) | (simp; omega) | (simp at *; omega))) | ((with_reducible refine Below.alloc ?_ ?_ _); rotate_left; focus (first | omega | (simp; done) | (simp; omega) | (simp at *; omega))) | (with_reducible exact Below.refl _ _)))), by (have hsz0 := Below.size hb; repeat (first | (with_reducible refine Below.drew ?_) | (with_reducible refine below_drewN0 ?_ _) | ((with_reducible refine Below.setCell ?_ ?_ _); rotate_left; focus (first | omega | (simp; done) | (simp; omega) | (simp at *; omega))) | ((with_reducible refine Below.alloc ?_ ?_ _); rotate_left; focus (first | omega | (simp; done) | (simp; omega) | (simp at *; omega))) | ((with_reducible refine Below.trans ?_ (Below.mono hb ?_)); rotate_left; focus (first | omega | (simp; done) | (simp; omega) | (simp at *; omega))) | (with_reducible exact Below.refl _ _)))⟩

set_option maxRecDepth 100000 in
set_option maxHeartbeats 2000000 in
theorem All1_in (F : Fence) (n : Nat) (h8 : F.fn 34) (hro : F.round = none) (hn : 1 ≤ n) (l Bs b cap : Nat) (ks : List Nat) (hlen : ks.length ≤ 256) (h4 : ∀ x ∈ ks, x < 4) (J Jx : List Ev → World → Prop)
    (hY : ∀ pre x W, J pre W → pre.length < ks.length → YieldAt F (n - 1) Try.prog l (encE x) W fun e W' =>
      (e = .returned (.bool true) ∧ J (pre ++ [x]) W' ∧ keepB b W W') ∨ (e = .returned (.bool false) ∧ Jx (pre ++ [x]) W'))
    (W : World) (hBs : W.cell? ⟨Bs, 0, none⟩ = some (.slice (some ⟨b, 0, none⟩) ks.length cap)) (hc : ∀ j, j < ks.length → W.cell? ⟨b, j, none⟩ = some (.int .u8 (ks.getD j 0 : Nat))) (h0 : J [] W) :
    CallsIn F n Try.prog 34 #[.func (.yield l) #[] #[], .pointer (some ⟨Bs, 0, none⟩)] W fun e W' => (∃ v, e = .returned v) ∧
      ((∃ ys, ys = evs (fun j => ks.getD j 0) ks.length ∧ J ys W') ∨ (∃ pre, (∃ k, k ≤ ks.length ∧ pre = evs (fun j => ks.getD j 0) k) ∧ Jx pre W')) := by
  have H4 : Hid (∀ j, j < ks.length → ks.getD j 0 < 4) := fun j hj => h4 _ (getD_mem _ _ hj)
  obtain ⟨f, hf⟩ : ∃ f : Nat → Nat, (fun j => ks.getD j 0) = f := ⟨_, rfl⟩
  have hcf : ∀ j, j < ks.length → W.cell? ⟨b, j, none⟩ = some (.int .u8 (f j : Nat)) := fun j hj => by rw [← hf]; exact hc j hj
  have H4 : Hid (∀ j, j < ks.length → f j < 4) := fun j hj => by rw [← hf]; exact h4 _ (getD_mem _ _ hj)
  rw [hf]
  clear h4 hc hf
  generalize ks.length = len at *
  refine callsIn_of_wp Try.func34 rfl h8 ?_ hro
  simp only [Try.ntmps34, List.size_toArray, List.length_cons, List.length_nil, Nat.reduceAdd, Nat.reduceSub, Array.replicate_succ, Array.replicate_zero, List.push_toArray, List.append_toArray, List.nil_append, List.cons_append]
  gi_wp2
  gi_loopw [7] (fun i wr => ∃ k : Nat, k ≤ len ∧ i = .int .i64 k ∧ J (evs f k) wr ∧ keepB b W wr)
    (fun i _ => len - (intOf i).toNat)
  case atStart => exact ⟨0, Nat.zero_le _, rfl, h0, rfl⟩
  case round =>
    obtain ⟨k, hk, rfl, hJs, hnx⟩ := hrel
    by_cases hlt : k < len
    · have hcx' : wr.cell? ⟨b, k, none⟩ = some (.int .u8 (f k : Nat)) := (World.cell?_of_block (a := ⟨b, k, none⟩) (show wr.heap[b]? = W.heap[b]? from hnx)).trans (hcf k hlt)
      have hk4 := H4.out k hlt
      by_cases hz : f k = 0
      · have hJ3 : J (evs f (k + 1)) wr := by rw [evs_no f k hz]; exact hJs
        rw [hz] at hcx'
        clear hz
        gi_wp2
        refine ⟨fun _ h => (by cases h), ?_⟩
        gi_wp2
        go_roundw
        case rel => exact ⟨k + 1, by omega, by simp, hJ3, hnx⟩
        case measure => simp [intOf]; omega
      · obtain ⟨fn, tmps, assign, body, hy, hR⟩ := hY _ ⟨(k, f k), ⟨by omega, hk4⟩⟩ wr hJs (Nat.lt_of_le_of_lt (evs_length f k) hlt)
        try dsimp only [encE] at hy
        rw [← evs_yes f k hz ⟨by omega, hk4⟩] at hR
        generalize f k = x at *
        gi_wp2
        refine hR.mono ?_
        rintro e W3 (⟨rfl, hJ3, hk3⟩ | ⟨rfl, hJx3⟩)
        · gi_wp2
          go_roundw
          case rel => exact ⟨k + 1, by omega, by simp, hJ3, Eq.trans hk3 hnx⟩
          case measure => simp [intOf]; omega
        · gi_wp2
          refine bodyPost_ret (results_none rfl _ _ _) rfl ?_
          exact ⟨⟨_, rfl⟩, .inr ⟨_, ⟨k + 1, by omega, rfl⟩, hJx3⟩⟩
    · obtain rfl : k = len := by omega
      gi_wp2
      go_end0
      exact ⟨⟨_, rfl⟩, .inl ⟨_, rfl, hJs⟩⟩

theorem All_stops (F : Fence) (n : Nat) (h8 : F.fn 34) (hro : F.round = none) (hn : 1 ≤ n) (Bx L c Bo : Nat) (ks : List Nat) (hlen : ks.length ≤ 256) (h4 : ∀ x ∈ ks, x < 4) (w : World)
    (hr : Row w Bx 44 #[.slice (some ⟨L, 0, none⟩) ks.length c]) (ho : w.ownsRow Bo 5 1 (.slice (some ⟨L, 0, none⟩) ks.length c) ks.length (intsV .u8 ks)) :
    SeqStopsK F n Try.prog 34 #[.pointer (some ⟨Bx, 0, none⟩)] encE (keepB L) (fun ys => ys = evs (fun j => ks.getD j 0) ks.length) (fun pre => ∃ k, k ≤ ks.length ∧ pre = evs (fun j => ks.getD j 0) k) ks.length w := fun l J Jx W hW _ _ hY h0 => by
  have hr' := hr.below hW hr.lt
  have ho' := own_below ho hW
  exact All1_in F n h8 hro hn l Bx L c ks hlen h4 J Jx hY W (by rw [hr'.cell]; simp) (fun j hj => own_cell ho' j hj) h0

/-- One group's bit laid in. -/
def bitIn (fr : Int) (o : Nat) (x : Ev) : Nat := if 0 ≤ fr ∧ fr ≤ x.1.1 ∧ (x.1.1 : Int) - fr < 32 then o ||| 2 ^ ((x.1.1 : Int) - fr).toNat else o
def bitsIn (fr : Int) (l : List Ev) : Nat := l.foldl (bitIn fr) 0
theorem bitsIn_snoc (fr : Int) (l : List Ev) (x : Ev) : bitsIn fr (l ++ [x]) = bitIn fr (bitsIn fr l) x := by simp [bitsIn]
theorem bitIn_lt (fr : Int) (o : Nat) (x : Ev) (ho : o < 4294967296) : bitIn fr o x < 4294967296 := by
  unfold bitIn
  split
  · rename_i h
    have : 2 ^ ((x.1.1 : Int) - fr).toNat < 2 ^ 32 := Nat.pow_lt_pow_right (by omega) (by omega)
    exact Nat.or_lt_two_pow (n := 32) (by omega) this
  · exact ho
theorem bitsIn_lt (fr : Int) (l : List Ev) : bitsIn fr l < 4294967296 := by
  unfold bitsIn
  suffices ∀ o, o < 4294967296 → l.foldl (bitIn fr) o < 4294967296 by exact this 0 (by omega)
  induction l with
  | nil => intro o h; exact h
  | cons x l ih => intro o h; exact ih _ (bitIn_lt fr o x h)
end Go.Proofs.Ytallanlajecmhaa
