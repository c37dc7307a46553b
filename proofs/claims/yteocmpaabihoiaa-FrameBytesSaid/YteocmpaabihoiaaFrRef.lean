/- locketref17: lay, Encode, read, Decode, Read, Response, Find: they compute what the program's do. -/
import Derived.Test.YteocmpaabihoiaaRefCrc7
import Derived.Test.YteocmpaabihoiaaFrReadLong
import Derived.Test.YteocmpaabihoiaaFrFinds
import Derived.StillTailTactics
namespace Go.Proofs.Yteocmpaabihoiaa
open Go.RowKit
set_option linter.unusedVariables false
set_option linter.unusedSimpArgs false

/-- A region that draws, whose first n operations leave the world alone: in the order of the text, the draw outermost. -/
theorem region_tail {P : Program} {id : Nat} {Q : Exit → Act → World → Prop} {a : Act} {w : World} {l : List Oper} (n : Nat) (hm : P.follows .mixedOrders = true) (hB : Region.lexTailB .any l.toArray n = true)
    (h : ∀ u : World, u = w.drew → wpStill P l.toArray u (fun a' => wpList P l.toArray Q (l.drop n) a' u) (l.take n) a) : (Code.region id l.toArray true).wp P Q a w :=
  wp_region_still_tail n hm hB (h _ rfl)

set_option maxHeartbeats 1000000 in
theorem refLay_any (a v : Nat) (ha : a < 256) (hv : v < 4294967296) (w : World) :
    Calls Try.prog 29 #[.int .u8 a, .int .u32 v] w fun e w' => e = .returned (laid a v) ∧ Below w.heap.size w w' := by
  have hs := sum7_lt a v ha hv
  have e := or1 (sum7 a v) hs
  have Hl : Hid (laid a v = .agg #[.int .u8 a, .int .u8 ((v : Int) / 16777216), .int .u8 ((v : Int) / 65536 % 256), .int .u8 ((v : Int) / 256 % 256), .int .u8 ((v : Int) % 256), .int .u8 ((sum7 a v : Int) * 2 + 1)]) := Lib.hid rfl
  have HS := Lib.hid (fun b w' hc' => RefSeven_any (some ⟨b, 0, none⟩) (body a v) 5 5 rfl (by simp [body, maxLen]) (body_lt a v ha hv) w' hc')
  rw [show C7 (body a v) = sum7 a v from rfl] at HS
  revert hs Hl e HS
  generalize sum7 a v = s
  intro hs e Hl HS
  go_enter Try.func29, Try.ntmps29
  go_wp2_with fail
  have HB : Hid (Cells8 ((w.alloc (.cells #[.int .u8 0, .int .u8 0, .int .u8 0, .int .u8 0, .int .u8 0, .int .u8 0] 26)).alloc (.cells #[.int .u8 (a : Int), .int .u8 ((v : Int) / 16777216), .int .u8 ((v : Int) / 65536 % 256), .int .u8 ((v : Int) / 256 % 256), .int .u8 ((v : Int) % 256)] 5)) (some ⟨w.heap.size + 1, 0, none⟩) (body a v)) := by
    intro i hi
    refine ⟨_, _, rfl, ?_⟩
    simp only [body, List.length_cons, List.length_nil] at hi
    have : i = 0 ∨ i = 1 ∨ i = 2 ∨ i = 3 ∨ i = 4 := by omega
    rcases this with rfl | rfl | rfl | rfl | rfl <;> simp [body, go_sem]
  obtain ⟨W, hW⟩ : ∃ W, W = ((w.alloc (.cells #[.int .u8 0, .int .u8 0, .int .u8 0, .int .u8 0, .int .u8 0, .int .u8 0] 26)).alloc (.cells #[.int .u8 (a : Int), .int .u8 ((v : Int) / 16777216), .int .u8 ((v : Int) / 65536 % 256), .int .u8 ((v : Int) / 256 % 256), .int .u8 ((v : Int) % 256)] 5)) := ⟨_, rfl⟩
  refine region_tail 20 (by kernel_rfl) (by kernel_rfl) (fun U hU => ?_)
  simp only [List.take_succ_cons, List.take_zero, List.drop_succ_cons, List.drop_zero]
  rw [← hW] at hU
  have HBU : Hid (Cells8 U (some ⟨w.heap.size + 1, 0, none⟩) (body a v)) := by rw [hU, hW]; exact HB.out
  have hBU : Below w.heap.size w U := by rw [hU, hW]; (repeat (first | (with_reducible refine Below.drew ?_) | (with_reducible refine below_drewN0 ?_ _) | ((with_reducible refine Below.setCell ?_ ?_ _); rotate_left; focus (first | omega | (simp; done) | (simp; omega) | (simp at *; omega))) | ((with_reducible refine Below.alloc ?_ ?_ _); rotate_left; focus (first | omega | (simp; done) | (simp; omega) | (simp at *; omega))) | (with_reducible exact Below.refl _ _)))
  have c0 := HBU.out.at0 0 (by simp [body])
  have c1 := HBU.out.at0 1 (by simp [body])
  have c2 := HBU.out.at0 2 (by simp [body])
  have c3 := HBU.out.at0 3 (by simp [body])
  have c4 := HBU.out.at0 4 (by simp [body])
  simp [body] at c0 c1 c2 c3 c4
  have HR : Hid (Row U w.heap.size 26 #[.int .u8 0, .int .u8 0, .int .u8 0, .int .u8 0, .int .u8 0, .int .u8 0]) := by rw [hU, hW]; exact (Row.fresh w _ _).alloc _
  have HU := Lib.hid hBU
  clear hBU hU hW HB
  repeat still_step
  still_call ((HS.out _ _ HBU.out).mono fun _ _ h => ⟨h.1, h.2.symm⟩)
  repeat still_step
  refine wpStill_nil ?_
  have r0 := HR.out.cell 0
  have f0 := HR.out.frozen 0
  have r1 := HR.out.cell 1
  have f1 := HR.out.frozen 1
  have r2 := HR.out.cell 2
  have f2 := HR.out.frozen 2
  have r3 := HR.out.cell 3
  have f3 := HR.out.frozen 3
  have r4 := HR.out.cell 4
  have f4 := HR.out.frozen 4
  have r5 := HR.out.cell 5
  have f5 := HR.out.frozen 5
  simp at r0 r1 r2 r3 r4 r5
  go_wp2
  refine bodyPost_ret (v := laid a v) (by rw [Hl.out]; simp [results, Try.results29, go_sem, e, r0, r1, r2, r3, r4, r5]) rfl ⟨rfl, ?_⟩
  have hb := HU.out
  (have hsz0 := Below.size hb; repeat (first | (with_reducible refine Below.drew ?_) | (with_reducible refine below_drewN0 ?_ _) | ((with_reducible refine Below.setCell ?_ ?_ _); rotate_left; focus (first | omega | (simp; done) | (simp; omega) | (simp at *; omega))) | ((with_reducible refine Below.alloc ?_ ?_ _); rotate_left; focus (first | omega | (simp; done) | (simp; omega) | (simp at *; omega))) | ((with_reducible refine Below.trans ?_ (Below.mono hb ?_)); rotate_left; focus (first | omega | (simp; done) | (simp; omega) | (simp at *; omega))) | (with_reducible exact Below.refl _ _)))

set_option maxHeartbeats 400000 in
theorem refEncode_no (n : Int) (v : Nat) (hn : n < 0 ∨ 63 < n) (w : World) :
    Calls Try.prog 15 #[.agg #[.int .i64 n, .int .u32 v]] w fun e w' =>
      e = .returned (.tuple #[.agg #[.int .u8 0, .int .u8 0, .int .u8 0, .int .u8 0, .int .u8 0, .int .u8 0], .int .i64 1]) ∧ Below w.heap.size w w' := by
  have key : (n < 0) ∨ (¬ n < 0 ∧ 63 < n) := by omega
  rcases key with h1 | ⟨h1, h2⟩
  all_goals
    go_enter Try.func15, Try.ntmps15
    go_wp2
    refine bodyPost_ret (v := .tuple #[.agg #[.int .u8 0, .int .u8 0, .int .u8 0, .int .u8 0, .int .u8 0, .int .u8 0], .int .i64 1]) (by simp [results, Try.results15, go_sem]) rfl ⟨rfl, ?_⟩
    exact ((Below.refl _ _).alloc (Nat.le_refl _) _).alloc (by simp) _

set_option maxHeartbeats 400000 in
theorem refEncode_yes (n v : Nat) (hn : n < 64) (hv : v < 4294967296) (w : World) :
    Calls Try.prog 15 #[.agg #[.int .i64 n, .int .u32 v]] w fun e w' =>
      e = .returned (.tuple #[laid (n + 64) v, .int .i64 0]) ∧ Below w.heap.size w w' := by
  have e := or64 n hn
  go_enter Try.func15, Try.ntmps15
  go_wp2_with fail
  rw [show ((n : Int) + 64) = ((n + 64 : Nat) : Int) from by simp]
  refine (refLay_any (n + 64) v (by omega) hv _).mono ?_
  rintro e w1 ⟨rfl, hb⟩
  obtain ⟨hc, hf⟩ := bcell hb
  have hz : w.heap.size + 1 < w1.heap.size := by have := hb.size; simp at this; omega
  unfold laid
  go_wp2
  refine bodyPost_ret (v := .tuple #[laid (n + 64) v, .int .i64 0]) (by simp [results, Try.results15, go_sem, laid, hc, hz]) rfl ⟨rfl, ?_⟩
  (have hsz0 := Below.size hb; repeat (first | (with_reducible refine Below.drew ?_) | (with_reducible refine below_drewN0 ?_ _) | ((with_reducible refine Below.setCell ?_ ?_ _); rotate_left; focus (first | omega | (simp; done) | (simp; omega) | (simp at *; omega))) | ((with_reducible refine Below.alloc ?_ ?_ _); rotate_left; focus (first | omega | (simp; done) | (simp; omega) | (simp at *; omega))) | ((with_reducible refine Below.trans ?_ (Below.mono hb ?_)); rotate_left; focus (first | omega | (simp; done) | (simp; omega) | (simp at *; omega))) | (with_reducible exact Below.refl _ _)))

set_option maxHeartbeats 400000 in
theorem refResponse_any (n : Int) (v : Nat) (hv : v < 4294967296) (w : World) :
    Calls Try.prog 20 #[.int .i64 n, .int .u32 v] w fun e w' => e = .returned (laid (low6 n) v) ∧ Below w.heap.size w w' := by
  have e : bits .and .u8 (n % 256) 63 = ((low6 n : Nat) : Int) := by
    have h := u8_and_nat (n % 256).toNat 63 (by omega) (by omega)
    rw [show (((n % 256).toNat : Nat) : Int) = n % 256 by omega] at h
    exact h
  have hl := low6_lt n
  have Hfin : Hid (laid (low6 n) v = .agg #[.int .u8 (low6 n : Nat), .int .u8 ((v : Int) / 16777216), .int .u8 ((v : Int) / 65536 % 256), .int .u8 ((v : Int) / 256 % 256), .int .u8 ((v : Int) % 256), .int .u8 ((sum7 (low6 n) v : Int) * 2 + 1)]) := rfl
  go_enter Try.func20, Try.ntmps20
  go_wp2_with fail
  refine (refLay_any (low6 n) v (by omega) hv _).mono ?_
  rintro e w1 ⟨rfl, hb⟩
  obtain ⟨hc, hf⟩ := bcell hb
  have hz := hb.size
  unfold laid
  go_wp2
  refine bodyPost_ret (v := laid (low6 n) v) (by rw [Hfin.out]; simp [results, Try.results20, go_sem, hc]) rfl ⟨rfl, ?_⟩
  (have hsz0 := Below.size hb; repeat (first | (with_reducible refine Below.drew ?_) | (with_reducible refine below_drewN0 ?_ _) | ((with_reducible refine Below.setCell ?_ ?_ _); rotate_left; focus (first | omega | (simp; done) | (simp; omega) | (simp at *; omega))) | ((with_reducible refine Below.alloc ?_ ?_ _); rotate_left; focus (first | omega | (simp; done) | (simp; omega) | (simp at *; omega))) | ((with_reducible refine Below.trans ?_ (Below.mono hb ?_)); rotate_left; focus (first | omega | (simp; done) | (simp; omega) | (simp at *; omega))) | (with_reducible exact Below.refl _ _)))
end Go.Proofs.Yteocmpaabihoiaa
