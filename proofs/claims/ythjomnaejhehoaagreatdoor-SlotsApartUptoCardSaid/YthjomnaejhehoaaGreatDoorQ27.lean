/- What follows is laid together from several texts of mine, in their order. -/
import Derived.Test.YthjomnaejhehoaaGreatDoorQ26
import Derived.StillTailTactics
import Derived.Test.YthjomnaejhehoaaGreatDoorQ25

namespace Go.Proofs.YthjomnaejhehoaaGreatDoor
open Go.RowKit Go.MapKept Go.ChangeMaps
set_option linter.unusedVariables false
set_option linter.unusedSimpArgs false

/-- A region that draws, whose first n operations leave the world alone: in the order of the text, the draw outermost. -/
theorem region_tail {P : Program} {id : Nat} {Q : Exit → Act → World → Prop} {a : Act} {w : World} {l : List Oper} (n : Nat) (hm : P.follows .mixedOrders = true) (hB : Region.lexTailB .any l.toArray n = true)
    (h : ∀ u : World, u = w.drew → wpStill P l.toArray u (fun a' => wpList P l.toArray Q (l.drop n) a' u) (l.take n) a) : (Code.region id l.toArray true).wp P Q a w :=
  wp_region_still_tail n hm hB (h _ rfl)

section
variable {w0 w : World} {A : Ad} {x : X9}
set_option maxRecDepth 100000 in
set_option maxHeartbeats 4000000 in
theorem step_other (h : W9 w0 w A x) (hU : x.U = x.V) (hopn : x.op = false) (hoff : x.S.off = false) (hq : x.q + 1 < 9223372036854775808) (a : Ac) (hA : AcAt w0 a) (hks : a.ks.length ≤ 16384) (hvss : a.vss.length ≤ 16384 ∧ ∀ y ∈ a.vss, y.length ≤ 16384) (hop : a.op ≠ 1 ∧ a.op ≠ 2 ∧ a.op ≠ 3 ∧ a.op ≠ 4 ∧ a.op ≠ 5) :
    Calls Tryz.prog 17 #[.pointer (some ⟨A.W, 0, none⟩), .agg a.vs.toArray] w (StepL w0 A x (a.op ≤ 2)) := by
  obtain ⟨op, Ak, ck, ks, Av, cv, vss, n⟩ := a
  unfold Ac.vs
  dsimp only at hop hks hvss hA ⊢
  skip
  obtain ⟨nk, hnk⟩ : ∃ nk, nk = ks.length := ⟨_, rfl⟩
  obtain ⟨nv, hnv⟩ : ∃ nv, nv = vss.length := ⟨_, rfl⟩
  have HNk := Lib.hid (And.intro hnk hnv)
  rw [← hnk, ← hnv]
  obtain ⟨w1, hw1⟩ : ∃ w1, w1 = w.alloc (.cells #[.int .i64 op, .slice Ak nk ck, .slice Av nv cv, .int .i64 n] 56) := ⟨_, rfl⟩
  have HB1 : Hid (Below w.heap.size w w1) := by unfold Hid; rw [hw1]; exact (Below.refl _ _).alloc (Nat.le_refl _) _
  have HW1 := Lib.hid hw1
  have HD := Lib.hid (h.below HB1.out)
  have HA := Lib.hid hA
  have HU := Lib.hid (And.intro hU (And.intro hopn (And.intro hoff (And.intro hq (And.intro hks hvss)))))
  clear h hA hU hopn hoff hq hks hvss hw1 hnk hnv
  obtain ⟨o1, o2, o3, o4, o5⟩ := hop
  go_enter Tryz.func17, Tryz.ntmps17
  go_wp2
  rw [← HW1.out]
  go_ret
  exact StepL.none HD.out HU.out.1 HU.out.2.1 HU.out.2.2.1
set_option maxRecDepth 100000 in
set_option maxHeartbeats 4000000 in
theorem step_all (h : W9 w0 w A x) (hU : x.U = x.V) (hopn : x.op = false) (hoff : x.S.off = false) (hq : x.q + 1 < 9223372036854775808) (a : Ac) (hA : AcAt w0 a) (hks : a.ks.length ≤ 16384) (hvss : a.vss.length ≤ 16384 ∧ ∀ y ∈ a.vss, y.length ≤ 16384) (hop : a.op = 1) :
    Calls Tryz.prog 17 #[.pointer (some ⟨A.W, 0, none⟩), .agg a.vs.toArray] w (StepL w0 A x (a.op ≤ 2)) := by
  obtain ⟨op, Ak, ck, ks, Av, cv, vss, n⟩ := a
  unfold Ac.vs
  dsimp only at hop hks hvss hA ⊢
  subst hop
  obtain ⟨nk, hnk⟩ : ∃ nk, nk = ks.length := ⟨_, rfl⟩
  obtain ⟨nv, hnv⟩ : ∃ nv, nv = vss.length := ⟨_, rfl⟩
  have HNk := Lib.hid (And.intro hnk hnv)
  rw [← hnk, ← hnv]
  obtain ⟨w1, hw1⟩ : ∃ w1, w1 = w.alloc (.cells #[.int .i64 1, .slice Ak nk ck, .slice Av nv cv, .int .i64 n] 56) := ⟨_, rfl⟩
  have HB1 : Hid (Below w.heap.size w w1) := by unfold Hid; rw [hw1]; exact (Below.refl _ _).alloc (Nat.le_refl _) _
  have HW1 := Lib.hid hw1
  have HD := Lib.hid (h.below HB1.out)
  have HA := Lib.hid hA
  have HU := Lib.hid (And.intro hU (And.intro hopn (And.intro hoff (And.intro hq (And.intro hks hvss)))))
  clear h hA hU hopn hoff hq hks hvss hw1 hnk hnv
  have HPu : Hid (Calls Tryz.prog 11 #[.pointer (some ⟨A.W, 0, none⟩), .slice Ak nk ck, .slice Av nv cv, .bool false] w1 (PutL w0 A x)) := by
    rw [HNk.out.1, HNk.out.2]
    exact lput_any HD.out HU.out.1 HU.out.2.1 HU.out.2.2.1 HU.out.2.2.2.1 Ak ck ks (HA.out.ks.keep (keep_below HD.out.bel)) (by have := HU.out.2.2.2.2.1; omega) Av cv vss (HA.out.vs.keep (keep_below HD.out.bel)) (by have := HU.out.2.2.2.2.2.1; omega) (fun y hy => ⟨HA.out.small y hy, by have := HU.out.2.2.2.2.2.2 y hy; omega⟩) false (by simp) (by simp)
  go_enter Tryz.func17, Tryz.ntmps17
  go_wp2_with fail
  rw [← HW1.out]
  refine HPu.out.mono ?_
  rintro e w2 hp
  obtain ⟨rfl, -⟩ := id hp
  have HP : Hid (∀ lo, StepL w0 A x lo (.returned (.bool true)) w2) := fun lo => PutL.step hp
  clear hp HPu
  go_wp2_with fail
  go_ret
  exact HP.out _
theorem cells_take {w : World} {A : Option Addr} {ks : List Int} (h : CellsI w A ks) (h0 : 0 < ks.length) : CellsI w A (ks.take 1) := fun i hi => by
  obtain rfl : i = 0 := by rw [List.length_take] at hi; omega
  obtain ⟨b, off, e, hc⟩ := h 0 h0
  refine ⟨b, off, e, ?_⟩
  rw [hc]
  cases ks with
  | nil => simp at h0
  | cons k r => rfl
theorem svs_take {w : World} {A : Option Addr} {vss : List (List Nat)} (h : SvIs w A vss) (h0 : 0 < vss.length) : SvIs w A (vss.take 1) := fun i hi => by
  obtain rfl : i = 0 := by rw [List.length_take] at hi; omega
  have h1 := h 0 h0
  cases vss with
  | nil => simp at h0
  | cons k r => exact h1
set_option maxRecDepth 100000 in
set_option maxHeartbeats 4000000 in
theorem step_one (h : W9 w0 w A x) (hU : x.U = x.V) (hopn : x.op = false) (hoff : x.S.off = false) (hq : x.q + 1 < 9223372036854775808) (a : Ac) (hA : AcAt w0 a) (hks : a.ks.length ≤ 16384) (hvss : a.vss.length ≤ 16384 ∧ ∀ y ∈ a.vss, y.length ≤ 16384) (hop : a.op = 2) :
    Calls Tryz.prog 17 #[.pointer (some ⟨A.W, 0, none⟩), .agg a.vs.toArray] w (StepL w0 A x (a.op ≤ 2)) := by
  obtain ⟨op, Ak, ck, ks, Av, cv, vss, n⟩ := a
  unfold Ac.vs
  dsimp only at hop hks hvss hA ⊢
  subst hop
  obtain ⟨nk, hnk⟩ : ∃ nk, nk = ks.length := ⟨_, rfl⟩
  obtain ⟨nv, hnv⟩ : ∃ nv, nv = vss.length := ⟨_, rfl⟩
  have HNk := Lib.hid (And.intro hnk hnv)
  rw [← hnk, ← hnv]
  obtain ⟨w1, hw1⟩ : ∃ w1, w1 = w.alloc (.cells #[.int .i64 2, .slice Ak nk ck, .slice Av nv cv, .int .i64 n] 56) := ⟨_, rfl⟩
  have HB1 : Hid (Below w.heap.size w w1) := by unfold Hid; rw [hw1]; exact (Below.refl _ _).alloc (Nat.le_refl _) _
  have HW1 := Lib.hid hw1
  have HD := Lib.hid (h.below HB1.out)
  have HA := Lib.hid hA
  have HU := Lib.hid (And.intro hU (And.intro hopn (And.intro hoff (And.intro hq (And.intro hks hvss)))))
  clear h hA hU hopn hoff hq hks hvss hw1 hnk hnv
  obtain ⟨⟨ck1, ck2⟩, ⟨cv1, cv2⟩⟩ : (nk ≤ ck ∧ ck ≤ maxLen) ∧ (nv ≤ cv ∧ cv ≤ maxLen) := ⟨by rw [HNk.out.1]; exact HA.out.ck, by rw [HNk.out.2]; exact HA.out.cv⟩
  by_cases h1 : 0 < nk
  · by_cases h2 : 0 < nv
    · obtain ⟨kb, ko, eK, -⟩ := HA.out.ks 0 (by have := HNk.out.1; dsimp only; omega)
      obtain ⟨vb, vo, -, -, eV, -⟩ := HA.out.vs 0 (by have := HNk.out.2; dsimp only; omega)
      dsimp only at eK eV
      subst eK eV
      have hc1 : 1 ≤ ck := by omega
      have hc2 : 1 ≤ cv := by omega
      have hc3 : (1 : Int) ≤ ck := by omega
      have hc4 : (1 : Int) ≤ cv := by omega
      have hX : Row w1 w.heap.size 56 #[.int .i64 2, .slice (some ⟨kb, ko, none⟩) nk ck, .slice (some ⟨vb, vo, none⟩) nv cv, .int .i64 n] := by rw [HW1.out]; exact Row.fresh _ _ _
      have HPu : Hid (∀ W', Below w1.heap.size w1 W' → Calls Tryz.prog 11 #[.pointer (some ⟨A.W, 0, none⟩), .slice (some ⟨kb, ko, none⟩) 1 ck, .slice (some ⟨vb, vo, none⟩) 1 cv, .bool true] W' (PutL w0 A x)) := fun W' hb => by
        have hDb := HD.out.below hb
        have e1 : (ks.take 1).length = 1 := by rw [List.length_take]; have := HNk.out.1; omega
        have e2 : (vss.take 1).length = 1 := by rw [List.length_take]; have := HNk.out.2; omega
        have hk0 : 0 < ks.length := by have := HNk.out.1; omega
        have hv0 : 0 < vss.length := by have := HNk.out.2; omega
        have := lput_any hDb HU.out.1 HU.out.2.1 HU.out.2.2.1 HU.out.2.2.2.1 _ ck (ks.take 1) (cells_take (HA.out.ks.keep (keep_below hDb.bel)) hk0) (by omega) _ cv (vss.take 1) (svs_take (HA.out.vs.keep (keep_below hDb.bel)) hv0) (by omega) (fun y hy => ⟨HA.out.small y (List.mem_of_mem_take hy), by have := HU.out.2.2.2.2.2.2 y (List.mem_of_mem_take hy); omega⟩) true (fun _ => ⟨e1, e2⟩)
          (fun _ => ⟨fun g o e hg => by
            have h3 := HA.out.ks.lt hk0 g o e
            rcases List.mem_cons.1 hg with e4 | hg
            · have := hDb.st.hS; omega
            · have := hDb.med.at_least g hg; omega, fun g o e hg => by
            have h3 := HA.out.vs.lt hv0 g o e
            rcases List.mem_cons.1 hg with e4 | hg
            · have := hDb.st.hS; omega
            · have := hDb.med.at_least g hg; omega⟩)
        rw [e1, e2] at this
        exact this
      have x1 := hX.cell 1
      have x2 := hX.cell 2
      simp only [List.getElem?_toArray, List.getElem?_cons_zero, List.getElem?_cons_succ] at x1 x2
      clear hX
      go_enter Tryz.func17, Tryz.ntmps17
      go_wp2
      rw [← HW1.out]
      refine region_tail 7 (by kernel_rfl) (by kernel_rfl) (fun U hU => ?_)
      simp only [List.take_succ_cons, List.take_zero, List.drop_succ_cons, List.drop_zero]
      have HPU : Hid (Calls Tryz.prog 11 #[.pointer (some ⟨A.W, 0, none⟩), .slice (some ⟨kb, ko, none⟩) 1 ck, .slice (some ⟨vb, vo, none⟩) 1 cv, .bool true] U (PutL w0 A x)) := by rw [hU]; exact HPu.out _ (Below.refl _ _).drew
      have u1 : U.cell? ⟨w.heap.size, 1, none⟩ = some (.slice (some ⟨kb, ko, none⟩) nk ck) := by rw [hU]; exact x1
      have u2 : U.cell? ⟨w.heap.size, 2, none⟩ = some (.slice (some ⟨vb, vo, none⟩) nv cv) := by rw [hU]; exact x2
      clear hU HPu x1 x2
      repeat still_step
      refine wpStill_nil ?_
      go_wp2_with fail
      refine HPU.out.mono ?_
      rintro e w2 hp
      obtain ⟨rfl, -⟩ := id hp
      have HP : Hid (∀ lo, StepL w0 A x lo (.returned (.bool true)) w2) := fun lo => PutL.step hp
      clear hp HPU u1 u2
      go_wp2
      go_ret
      exact HP.out _
    · obtain rfl : nv = 0 := by omega
      go_enter Tryz.func17, Tryz.ntmps17
      go_wp2
      rw [← HW1.out]
      go_ret
      exact StepL.none HD.out HU.out.1 HU.out.2.1 HU.out.2.2.1
  · obtain rfl : nk = 0 := by omega
    go_enter Tryz.func17, Tryz.ntmps17
    go_wp2
    rw [← HW1.out]
    go_ret
    exact StepL.none HD.out HU.out.1 HU.out.2.1 HU.out.2.2.1
set_option maxRecDepth 100000 in
set_option maxHeartbeats 4000000 in
theorem step_arm (h : W9 w0 w A x) (hU : x.U = x.V) (hopn : x.op = false) (hoff : x.S.off = false) (hq : x.q + 1 < 9223372036854775808) (a : Ac) (hA : AcAt w0 a) (hks : a.ks.length ≤ 16384) (hvss : a.vss.length ≤ 16384 ∧ ∀ y ∈ a.vss, y.length ≤ 16384) (hop : a.op = 3) :
    Calls Tryz.prog 17 #[.pointer (some ⟨A.W, 0, none⟩), .agg a.vs.toArray] w (StepL w0 A x (a.op ≤ 2)) := by
  obtain ⟨op, Ak, ck, ks, Av, cv, vss, n⟩ := a
  unfold Ac.vs
  dsimp only at hop hks hvss hA ⊢
  subst hop
  obtain ⟨nk, hnk⟩ : ∃ nk, nk = ks.length := ⟨_, rfl⟩
  obtain ⟨nv, hnv⟩ : ∃ nv, nv = vss.length := ⟨_, rfl⟩
  have HNk := Lib.hid (And.intro hnk hnv)
  rw [← hnk, ← hnv]
  obtain ⟨w1, hw1⟩ : ∃ w1, w1 = w.alloc (.cells #[.int .i64 3, .slice Ak nk ck, .slice Av nv cv, .int .i64 n] 56) := ⟨_, rfl⟩
  have HB1 : Hid (Below w.heap.size w w1) := by unfold Hid; rw [hw1]; exact (Below.refl _ _).alloc (Nat.le_refl _) _
  have HW1 := Lib.hid hw1
  have HD := Lib.hid (h.below HB1.out)
  have HA := Lib.hid hA
  have HU := Lib.hid (And.intro hU (And.intro hopn (And.intro hoff (And.intro hq (And.intro hks hvss)))))
  clear h hA hU hopn hoff hq hks hvss hw1 hnk hnv
  have hX : Row w1 w.heap.size 56 #[.int .i64 3, .slice Ak nk ck, .slice Av nv cv, .int .i64 n] := by rw [HW1.out]; exact Row.fresh _ _ _
  have x3 := hX.cell 3
  have x0 := HD.out.cells.1
  simp only [List.getElem?_toArray, List.getElem?_cons_zero, List.getElem?_cons_succ] at x3
  clear hX
  go_enter Tryz.func17, Tryz.ntmps17
  go_wp2
  rw [← HW1.out]
  refine region_tail 8 (by kernel_rfl) (by kernel_rfl) (fun U hU => ?_)
  simp only [List.take_succ_cons, List.take_zero, List.drop_succ_cons, List.drop_zero]
  have HAr := Lib.hid ((show W9 w0 U A x by rw [hU]; exact HD.out.below (Below.refl _ _).drew).arm n (by have h1 := HA.out.n.2; dsimp only at h1; omega))
  have u3 : U.cell? ⟨w.heap.size, 3, none⟩ = some (.int .i64 n) := by rw [hU]; exact x3
  have u0 : U.cell? ⟨A.W, 0, none⟩ = some (.pointer (some ⟨A.F, 0, none⟩)) := by rw [hU]; exact x0
  clear hU x3 x0
  repeat still_step
  refine wpStill_nil ?_
  go_wp2_with fail
  refine HAr.out.mono ?_
  rintro e w2 ⟨rfl, h2, -⟩
  have H2 := Lib.hid h2
  clear h2 HAr u3 u0
  go_wp2
  go_ret
  exact ⟨rfl, A, _, H2.out, HU.out.1, Nat.le_succ _, HU.out.2.1, HU.out.2.2.1, rfl, rfl, rfl, rfl, rfl, rfl, rfl, fun h => absurd h (by decide)⟩
set_option maxRecDepth 100000 in
set_option maxHeartbeats 4000000 in
theorem step_cut4 (h : W9 w0 w A x) (hU : x.U = x.V) (hopn : x.op = false) (hoff : x.S.off = false) (hq : x.q + 1 < 9223372036854775808) (a : Ac) (hA : AcAt w0 a) (hks : a.ks.length ≤ 16384) (hvss : a.vss.length ≤ 16384 ∧ ∀ y ∈ a.vss, y.length ≤ 16384) (hop : a.op = 4) :
    Calls Tryz.prog 17 #[.pointer (some ⟨A.W, 0, none⟩), .agg a.vs.toArray] w (StepL w0 A x (a.op ≤ 2)) := by
  obtain ⟨op, Ak, ck, ks, Av, cv, vss, n⟩ := a
  unfold Ac.vs
  dsimp only at hop hks hvss hA ⊢
  subst hop
  obtain ⟨nk, hnk⟩ : ∃ nk, nk = ks.length := ⟨_, rfl⟩
  obtain ⟨nv, hnv⟩ : ∃ nv, nv = vss.length := ⟨_, rfl⟩
  have HNk := Lib.hid (And.intro hnk hnv)
  rw [← hnk, ← hnv]
  obtain ⟨w1, hw1⟩ : ∃ w1, w1 = w.alloc (.cells #[.int .i64 4, .slice Ak nk ck, .slice Av nv cv, .int .i64 n] 56) := ⟨_, rfl⟩
  have HB1 : Hid (Below w.heap.size w w1) := by unfold Hid; rw [hw1]; exact (Below.refl _ _).alloc (Nat.le_refl _) _
  have HW1 := Lib.hid hw1
  have HD := Lib.hid (h.below HB1.out)
  have HA := Lib.hid hA
  have HU := Lib.hid (And.intro hU (And.intro hopn (And.intro hoff (And.intro hq (And.intro hks hvss)))))
  clear h hA hU hopn hoff hq hks hvss hw1 hnk hnv
  have x0 := HD.out.cells.1
  have HCu := Lib.hid HD.out.cut
  rw [HW1.out] at x0
  go_enter Tryz.func17, Tryz.ntmps17
  go_wp2_with fail
  rw [← HW1.out]
  refine HCu.out.mono ?_
  rintro e w2 ⟨rfl, h2, -⟩
  have HBk : Hid (Calls Tryz.prog 13 #[.pointer (some ⟨A.W, 0, none⟩)] w2 (BackPost w0 A { x with S := { x.S with off := true, armed := 0 } })) := back_any h2 HU.out.1 (fun ho => by have := HU.out.2.1; dsimp only at ho; rw [this] at ho; cases ho)
  clear h2 HCu x0
  go_wp2_with fail
  refine HBk.out.mono ?_
  rintro e w3 hp
  obtain ⟨rfl, -⟩ := id hp
  have HP : Hid (∀ lo, ¬ lo → StepL w0 A x lo (.returned (.bool true)) w3) := fun lo hlo => (show BackPost w0 A x _ w3 from hp).step hlo
  clear hp HBk
  go_wp2
  go_ret
  exact HP.out _ (by decide)
end
end Go.Proofs.YthjomnaejhehoaaGreatDoor

namespace Go.Proofs.YthjomnaejhehoaaGreatDoor
open Go.RowKit Go.MapKept Go.ChangeMaps
set_option linter.unusedVariables false
set_option linter.unusedSimpArgs false

theorem tmod_abs (n : Int) (m : Nat) (hm : 0 < m) : ∃ k : Nat, k < m ∧ (n.tmod m = k ∨ (0 < k ∧ n.tmod m = -(k : Int))) := by
  have h1 : (n.tmod m).natAbs < m := by rw [Int.natAbs_tmod]; exact Nat.mod_lt _ (by simpa using hm)
  exact ⟨(n.tmod m).natAbs, h1, by omega⟩
section
variable {w0 w : World} {A : Ad} {x : X9}
set_option maxRecDepth 100000 in
set_option maxHeartbeats 4000000 in
theorem step_fail (h : W9 w0 w A x) (hU : x.U = x.V) (hopn : x.op = false) (hoff : x.S.off = false) (hq : x.q + 1 < 9223372036854775808) (a : Ac) (hA : AcAt w0 a) (hks : a.ks.length ≤ 16384) (hvss : a.vss.length ≤ 16384 ∧ ∀ y ∈ a.vss, y.length ≤ 16384) (hop : a.op = 5) :
    Calls Tryz.prog 17 #[.pointer (some ⟨A.W, 0, none⟩), .agg a.vs.toArray] w (StepL w0 A x (a.op ≤ 2)) := by
  obtain ⟨op, Ak, ck, ks, Av, cv, vss, n⟩ := a
  unfold Ac.vs
  dsimp only at hop hks hvss hA ⊢
  subst hop
  obtain ⟨nk, hnk⟩ : ∃ nk, nk = ks.length := ⟨_, rfl⟩
  obtain ⟨nv, hnv⟩ : ∃ nv, nv = vss.length := ⟨_, rfl⟩
  have HNk := Lib.hid (And.intro hnk hnv)
  rw [← hnk, ← hnv]
  obtain ⟨w1, hw1⟩ : ∃ w1, w1 = w.alloc (.cells #[.int .i64 5, .slice Ak nk ck, .slice Av nv cv, .int .i64 n] 56) := ⟨_, rfl⟩
  have HB1 : Hid (Below w.heap.size w w1) := by unfold Hid; rw [hw1]; exact (Below.refl _ _).alloc (Nat.le_refl _) _
  have HW1 := Lib.hid hw1
  have HD := Lib.hid (h.below HB1.out)
  have HA := Lib.hid hA
  have HU := Lib.hid (And.intro hU (And.intro hopn (And.intro hoff (And.intro hq (And.intro hks hvss)))))
  clear h hA hU hopn hoff hq hks hvss hw1 hnk hnv
  have hX : Row w1 w.heap.size 56 #[.int .i64 5, .slice Ak nk ck, .slice Av nv cv, .int .i64 n] := by rw [HW1.out]; exact Row.fresh _ _ _
  have x3 := hX.cell 3
  simp only [List.getElem?_toArray, List.getElem?_cons_zero, List.getElem?_cons_succ] at x3
  obtain ⟨c0, -, -, c3, -, -, -, c7⟩ := HD.out.cells
  obtain ⟨m, hm⟩ : ∃ m, m = A.vs.length := ⟨_, rfl⟩
  obtain ⟨fl, hfl⟩ : ∃ fl, fl = x.fail := ⟨_, rfl⟩
  have HM := Lib.hid (And.intro hm hfl)
  rw [← hm] at c3
  rw [← hfl] at c7
  obtain ⟨hm3, hm4, hfl2⟩ : 3 ≤ m ∧ m ≤ 1024 ∧ fl + 2 ≤ m := ⟨by rw [hm]; exact HD.out.ok.1, by rw [hm]; exact HD.out.few, by rw [hm, hfl]; exact HD.out.nf.2⟩
  obtain ⟨k, hk, hr⟩ := tmod_abs n m (by omega)
  obtain ⟨b, off, eA, hc⟩ := HD.out.ls k (by rw [← hm]; exact hk)
  have hmem : A.vs.getD k 0 ∈ A.vs := by rw [List.getD_eq_getElem?_getD, List.getElem?_eq_getElem (by omega)]; exact List.getElem_mem _
  obtain ⟨hv0, hv1⟩ := HD.out.ok.2.2 _ hmem
  obtain ⟨bk, hbk⟩ : ∃ bk : Nat, A.vs.getD k 0 = bk := ⟨(A.vs.getD k 0).toNat, by omega⟩
  rw [hbk] at hc hmem hv1
  rw [eA] at c3
  have HBk : Hid (bk ∈ natsI A.vs ∧ bk < x.S.nb) := ⟨(mem_natsI (fun y hy => (HD.out.ok.2.2 y hy).1) bk).2 hmem, by omega⟩
  clear hX hm hfl eA hmem hv0 hv1 hbk
  rw [HW1.out] at x3 c0 c3 c7 hc
  rcases hr with hr | ⟨hk0, hr⟩
  · go_enter Tryz.func17, Tryz.ntmps17
    go_wp2
    go_quiet (fail)
    go_wp2_with fail
    rw [← HW1.out]
    obtain ⟨u0, hu0⟩ : ∃ u0, u0 = w1.drewN nq := ⟨_, rfl⟩
    rw [← hu0]
    have HD0 : Hid (W9 w0 u0 A x) := by unfold Hid; rw [hu0]; exact HD.out.drewN _
    have d0 : u0.cell? ⟨A.W, 0, none⟩ = some (.pointer (some ⟨A.F, 0, none⟩)) := HD0.out.cells.1
    have d3 : u0.cell? ⟨A.W, 3, none⟩ = some (.slice (some ⟨b, off, none⟩) m A.cl) := by rw [hu0, HW1.out]; exact c3
    have d7 : u0.cell? ⟨A.W, 7, none⟩ = some (.int .i64 fl) := by rw [hu0, HW1.out]; exact c7
    have dc : u0.cell? ⟨b, off + k, none⟩ = some (.int .i64 bk) := by rw [hu0, HW1.out]; exact hc
    clear hu0 x3 c0 c3 c7 hc hr
    by_cases hroom : fl + 3 ≤ m
    · have hw : IntKind.i64.wrap ((m : Int) - fl) = (m : Int) - fl := by rw [IntKind.wrap_i64]; omega
      have hw2 : (2 : Int) < (m : Int) - fl := by omega
      have hw3 : decide ((2 : Int) < (m : Int) - fl) = true := decide_eq_true hw2
      have HFa : Hid (∀ j, Calls Tryz.prog 35 #[.pointer (some ⟨A.F, 0, none⟩), .int .i64 bk] (u0.drewN j) fun e w' => e = .returned (.bool (x.S.b bk).failed) ∧ u0.drewN j = w') := fun j => Failed_any (HD0.out.drewN j).med.fl bk HBk.out.2
      obtain ⟨ff, hff⟩ : ∃ ff, ff = (x.S.b bk).failed := ⟨_, rfl⟩
      have HFF := Lib.hid hff
      rw [← hff] at HFa
      clear hff
      cases ff with
      | true =>
        go_quiet ((go_at_call 35; exact Calls.quiet_of_same ((HFa.out _).mono fun e w' h => ⟨h.1, h.2.symm⟩)))
        go_wp2_with fail
        go_ret
        exact StepL.none (HD0.out.drewN _) HU.out.1 HU.out.2.1 HU.out.2.2.1
      | false =>
        go_quiet ((go_at_call 35; exact Calls.quiet_of_same ((HFa.out _).mono fun e w' h => ⟨h.1, h.2.symm⟩)))
        go_wp2_with fail
        refine region_tail 11 (by kernel_rfl) (by kernel_rfl) (fun U hU => ?_)
        simp only [List.take_succ_cons, List.take_zero, List.drop_succ_cons, List.drop_zero]
        have HDU : Hid (W9 w0 U A x) := by unfold Hid; rw [hU]; exact (HD0.out.drewN _).below (Below.refl _ _).drew
        have HFl := Lib.hid (Fail_in HDU.out.med.fl bk HBk.out.2)
        have e0 : U.cell? ⟨A.W, 0, none⟩ = some (.pointer (some ⟨A.F, 0, none⟩)) := by rw [hU]; exact d0
        have e3 : U.cell? ⟨A.W, 3, none⟩ = some (.slice (some ⟨b, off, none⟩) m A.cl) := by rw [hU]; exact d3
        have ec : U.cell? ⟨b, off + k, none⟩ = some (.int .i64 bk) := by rw [hU]; exact dc
        have e7 : U.cell? ⟨A.W, 7, none⟩ = some (.int .i64 fl) := by rw [hU]; exact d7
        clear hU d0 d3 dc d7 HFa hw hw2 hw3
        repeat still_step
        refine wpStill_nil ?_
        go_wp2_with fail
        refine HFl.out.mono ?_
        rintro e w2 ⟨rfl, hf2, ht2⟩
        have h2 := HDU.out.fail HBk.out.1 HFF.out.symm (by rw [← HM.out.1, ← HM.out.2]; exact hroom) hf2 ht2
        rw [← HM.out.2] at h2
        have H2 := Lib.hid h2
        have HWL : Hid (A.W ∉ [A.L]) := fun hm => HDU.out.med.no_row HDU.out.row (by decide) (by decide) (by decide) (by decide) (by rw [List.mem_singleton.1 hm]; exact mem_medT.2 (.inr (.inr (.inr (.inl rfl)))))
        have g7 : w2.cell? ⟨A.W, 7, none⟩ = some (.int .i64 fl) := ht2.cell e7 HWL.out
        have fz : w2.frozen? ⟨A.W, 7, none⟩ = false := (ht2.row HDU.out.row HWL.out).frozen 7
        have hwf : wrap64 ((fl : Int) + 1) = ((fl + 1 : Nat) : Int) := by unfold wrap64; omega
        have hwf2 : IntKind.i64.wrap ((fl : Int) + 1) = ((fl + 1 : Nat) : Int) := by rw [IntKind.wrap_i64]; omega
        clear hf2 ht2 h2 HFl e0 e3 ec e7
        go_wp2
        go_ret
        exact ⟨rfl, A, _, H2.out, HU.out.1, Nat.le_succ _, HU.out.2.1, HU.out.2.2.1, rfl, rfl, rfl, rfl, rfl, rfl, rfl, fun h => absurd h (by decide)⟩
    · have hw : IntKind.i64.wrap ((m : Int) - fl) = (m : Int) - fl := by rw [IntKind.wrap_i64]; omega
      have hw2 : ¬ (2 : Int) < (m : Int) - fl := by omega
      have hw3 : decide ((2 : Int) < (m : Int) - fl) = false := decide_eq_false hw2
      go_quiet (fail)
      go_wp2_with fail
      go_ret
      exact StepL.none (HD0.out.drewN _) HU.out.1 HU.out.2.1 HU.out.2.2.1
  · go_enter Tryz.func17, Tryz.ntmps17
    go_wp2
    go_quiet (fail)
    go_wp2_with fail
    rw [← HW1.out]
    obtain ⟨u0, hu0⟩ : ∃ u0, u0 = w1.drewN nq := ⟨_, rfl⟩
    rw [← hu0]
    have HD0 : Hid (W9 w0 u0 A x) := by unfold Hid; rw [hu0]; exact HD.out.drewN _
    have d0 : u0.cell? ⟨A.W, 0, none⟩ = some (.pointer (some ⟨A.F, 0, none⟩)) := HD0.out.cells.1
    have d3 : u0.cell? ⟨A.W, 3, none⟩ = some (.slice (some ⟨b, off, none⟩) m A.cl) := by rw [hu0, HW1.out]; exact c3
    have d7 : u0.cell? ⟨A.W, 7, none⟩ = some (.int .i64 fl) := by rw [hu0, HW1.out]; exact c7
    have dc : u0.cell? ⟨b, off + k, none⟩ = some (.int .i64 bk) := by rw [hu0, HW1.out]; exact hc
    clear hu0 x3 c0 c3 c7 hc hr
    by_cases hroom : fl + 3 ≤ m
    · have hw : IntKind.i64.wrap ((m : Int) - fl) = (m : Int) - fl := by rw [IntKind.wrap_i64]; omega
      have hw2 : (2 : Int) < (m : Int) - fl := by omega
      have hw3 : decide ((2 : Int) < (m : Int) - fl) = true := decide_eq_true hw2
      have HFa : Hid (∀ j, Calls Tryz.prog 35 #[.pointer (some ⟨A.F, 0, none⟩), .int .i64 bk] (u0.drewN j) fun e w' => e = .returned (.bool (x.S.b bk).failed) ∧ u0.drewN j = w') := fun j => Failed_any (HD0.out.drewN j).med.fl bk HBk.out.2
      obtain ⟨ff, hff⟩ : ∃ ff, ff = (x.S.b bk).failed := ⟨_, rfl⟩
      have HFF := Lib.hid hff
      rw [← hff] at HFa
      clear hff
      cases ff with
      | true =>
        go_quiet ((go_at_call 35; exact Calls.quiet_of_same ((HFa.out _).mono fun e w' h => ⟨h.1, h.2.symm⟩)))
        go_wp2_with fail
        go_ret
        exact StepL.none (HD0.out.drewN _) HU.out.1 HU.out.2.1 HU.out.2.2.1
      | false =>
        go_quiet ((go_at_call 35; exact Calls.quiet_of_same ((HFa.out _).mono fun e w' h => ⟨h.1, h.2.symm⟩)))
        go_wp2_with fail
        refine region_tail 11 (by kernel_rfl) (by kernel_rfl) (fun U hU => ?_)
        simp only [List.take_succ_cons, List.take_zero, List.drop_succ_cons, List.drop_zero]
        have HDU : Hid (W9 w0 U A x) := by unfold Hid; rw [hU]; exact (HD0.out.drewN _).below (Below.refl _ _).drew
        have HFl := Lib.hid (Fail_in HDU.out.med.fl bk HBk.out.2)
        have e0 : U.cell? ⟨A.W, 0, none⟩ = some (.pointer (some ⟨A.F, 0, none⟩)) := by rw [hU]; exact d0
        have e3 : U.cell? ⟨A.W, 3, none⟩ = some (.slice (some ⟨b, off, none⟩) m A.cl) := by rw [hU]; exact d3
        have ec : U.cell? ⟨b, off + k, none⟩ = some (.int .i64 bk) := by rw [hU]; exact dc
        have e7 : U.cell? ⟨A.W, 7, none⟩ = some (.int .i64 fl) := by rw [hU]; exact d7
        clear hU d0 d3 dc d7 HFa hw hw2 hw3
        repeat still_step
        refine wpStill_nil ?_
        go_wp2_with fail
        refine HFl.out.mono ?_
        rintro e w2 ⟨rfl, hf2, ht2⟩
        have h2 := HDU.out.fail HBk.out.1 HFF.out.symm (by rw [← HM.out.1, ← HM.out.2]; exact hroom) hf2 ht2
        rw [← HM.out.2] at h2
        have H2 := Lib.hid h2
        have HWL : Hid (A.W ∉ [A.L]) := fun hm => HDU.out.med.no_row HDU.out.row (by decide) (by decide) (by decide) (by decide) (by rw [List.mem_singleton.1 hm]; exact mem_medT.2 (.inr (.inr (.inr (.inl rfl)))))
        have g7 : w2.cell? ⟨A.W, 7, none⟩ = some (.int .i64 fl) := ht2.cell e7 HWL.out
        have fz : w2.frozen? ⟨A.W, 7, none⟩ = false := (ht2.row HDU.out.row HWL.out).frozen 7
        have hwf : wrap64 ((fl : Int) + 1) = ((fl + 1 : Nat) : Int) := by unfold wrap64; omega
        have hwf2 : IntKind.i64.wrap ((fl : Int) + 1) = ((fl + 1 : Nat) : Int) := by rw [IntKind.wrap_i64]; omega
        clear hf2 ht2 h2 HFl e0 e3 ec e7
        go_wp2
        go_ret
        exact ⟨rfl, A, _, H2.out, HU.out.1, Nat.le_succ _, HU.out.2.1, HU.out.2.2.1, rfl, rfl, rfl, rfl, rfl, rfl, rfl, fun h => absurd h (by decide)⟩
    · have hw : IntKind.i64.wrap ((m : Int) - fl) = (m : Int) - fl := by rw [IntKind.wrap_i64]; omega
      have hw2 : ¬ (2 : Int) < (m : Int) - fl := by omega
      have hw3 : decide ((2 : Int) < (m : Int) - fl) = false := decide_eq_false hw2
      go_quiet (fail)
      go_wp2_with fail
      go_ret
      exact StepL.none (HD0.out.drewN _) HU.out.1 HU.out.2.1 HU.out.2.2.1
/-- Any step of the law. -/
theorem step_any (h : W9 w0 w A x) (hU : x.U = x.V) (hopn : x.op = false) (hoff : x.S.off = false) (hq : x.q + 1 < 9223372036854775808) (a : Ac) (hA : AcAt w0 a) (hks : a.ks.length ≤ 16384) (hvss : a.vss.length ≤ 16384 ∧ ∀ y ∈ a.vss, y.length ≤ 16384) :
    Calls Tryz.prog 17 #[.pointer (some ⟨A.W, 0, none⟩), .agg a.vs.toArray] w (StepL w0 A x (a.op ≤ 2)) := by
  by_cases h1 : a.op = 1
  · exact step_all h hU hopn hoff hq a hA hks hvss h1
  · by_cases h2 : a.op = 2
    · exact step_one h hU hopn hoff hq a hA hks hvss h2
    · by_cases h3 : a.op = 3
      · exact step_arm h hU hopn hoff hq a hA hks hvss h3
      · by_cases h4 : a.op = 4
        · exact step_cut4 h hU hopn hoff hq a hA hks hvss h4
        · by_cases h5 : a.op = 5
          · exact step_fail h hU hopn hoff hq a hA hks hvss h5
          · exact step_other h hU hopn hoff hq a hA hks hvss ⟨h1, h2, h3, h4, h5⟩
end
end Go.Proofs.YthjomnaejhehoaaGreatDoor

namespace Go.Proofs.YthjomnaejhehoaaGreatDoor
open Go.RowKit Go.MapKept Go.ChangeMaps
set_option linter.unusedVariables false
set_option linter.unusedSimpArgs false

theorem acsN_take (acs : List Ac) (i : Nat) (a : Ac) (h : acs[i]? = some a) : acsN (acs.take (i + 1)) = acsN (acs.take i) + a.cnt := by
  have e : acs.take (i + 1) = acs.take i ++ [a] := by rw [List.take_add_one, h]; rfl
  unfold acsN; rw [e, List.map_append, List.sum_append]; simp
theorem vsN_take (vss : List (List Nat)) (i : Nat) (y : List Nat) (h : vss[i]? = some y) : vsN (vss.take (i + 1)) = vsN (vss.take i) + y.length := by
  have e : vss.take (i + 1) = vss.take i ++ [y] := by rw [List.take_add_one, h]; rfl
  unfold vsN; rw [e, List.map_append, List.sum_append]; simp
theorem acsN_le (acs : List Ac) (i : Nat) : acsN (acs.take i) ≤ acsN acs := by
  have h := List.take_append_drop i acs
  unfold acsN
  conv => rhs; rw [← h]
  rw [List.map_append, List.sum_append]; omega
theorem vsN_le (vss : List (List Nat)) (i : Nat) : vsN (vss.take i) ≤ vsN vss := by
  have h := List.take_append_drop i vss
  unfold vsN
  conv => rhs; rw [← h]
  rw [List.map_append, List.sum_append]; omega
theorem vsN_mem {vss : List (List Nat)} {y : List Nat} (h : y ∈ vss) : y.length ≤ vsN vss := by
  induction vss with
  | nil => cases h
  | cons x r ih =>
    unfold vsN at ih ⊢
    simp only [List.map_cons, List.sum_cons]
    rcases List.mem_cons.1 h with rfl | h
    · omega
    · have := ih h; omega
theorem acsN_mem {acs : List Ac} {a : Ac} (h : a ∈ acs) : a.cnt ≤ acsN acs := by
  induction acs with
  | nil => cases h
  | cons x r ih =>
    unfold acsN at ih ⊢
    simp only [List.map_cons, List.sum_cons]
    rcases List.mem_cons.1 h with rfl | h
    · omega
    · have := ih h; omega
set_option maxRecDepth 100000 in
set_option maxHeartbeats 4000000 in
theorem few_any (A : Option Addr) (c : Nat) (acs : List Ac) (hlen : acs.length ≤ 2097152) (hN : acsN acs ≤ 2097152) (w : World) (hA : SlActs w A acs) :
    Calls Tryz.prog 16 #[.slice A acs.length c] w fun e w' => e = .returned (.bool (decide (acs.length ≤ 60 ∧ acsN acs ≤ 16384))) ∧ Below w.heap.size w w' := by
  have HA : Hid (∀ wr, Below w.heap.size w wr → SlActs wr A acs) := fun wr hb => hA.keep (keep_below hb)
  obtain ⟨m, hm⟩ : ∃ m, m = acs.length := ⟨_, rfl⟩
  have HM := Lib.hid hm
  have HNt := Lib.hid hN
  rw [← hm] at hlen ⊢
  clear hA hm hN
  go_enter Tryz.func16, Tryz.ntmps16
  go_wp2
  go_loopw [3, 4] (fun n i wr => ∃ k t : Nat, i = .int .i64 k ∧ n = .int .i64 t ∧ k ≤ m ∧ t = acsN (acs.take k) ∧ Below w.heap.size w wr) (fun _ i _ => m - (intOf i).toNat)
  case atStart => exact ⟨0, 0, rfl, rfl, by omega, rfl, Below.refl _ _⟩
  case round =>
    obtain ⟨k, t, rfl, rfl, hk, ht, hb⟩ := hrel
    have HB := Lib.hid hb
    have HT := Lib.hid ht
    have ht20 : t ≤ 2097152 := by rw [ht]; exact Nat.le_trans (acsN_le acs k) HNt.out
    clear hb ht
    by_cases hkm : k < m
    · obtain ⟨a, ha⟩ : ∃ a, acs[k]? = some a := ⟨_, List.getElem?_eq_getElem (by rw [← HM.out]; exact hkm)⟩
      obtain ⟨⟨b, off, e1, hc⟩, hat⟩ := HA.out wr HB.out k a ha
      subst e1
      have q1 := hc 1 _ rfl
      have q2 := hc 2 _ rfl
      rw [← Nat.add_assoc] at q1 q2
      have HSt := Lib.hid (acsN_take acs k a ha)
      have hcn := acsN_mem (List.mem_of_getElem? ha)
      have HGw : Hid (∀ wx, Below wr.heap.size wr wx → SvIs wx a.Av a.vss ∧ wx.cell? ⟨b, off + k * 4 + 2, none⟩ = some (.slice a.Av a.vss.length a.cv)) := fun wx hb => ⟨hat.vs.below hb, keep_below hb _ _ q2⟩
      obtain ⟨l1, hl1⟩ : ∃ l, l = a.ks.length := ⟨_, rfl⟩
      obtain ⟨l2, hl2⟩ : ∃ l, l = a.vss.length := ⟨_, rfl⟩
      have hb1 : l1 + l2 + vsN a.vss ≤ 2097152 := by rw [hl1, hl2]; exact Nat.le_trans hcn HNt.out
      have HCn : Hid (a.cnt = l1 + l2 + vsN a.vss) := by unfold Hid Ac.cnt; rw [hl1, hl2]
      have HL2 := Lib.hid hl2
      rw [← hl1] at q1
      rw [← hl2] at q2 HGw
      have HGn := Lib.hid hb1
      have hlsum : l1 ≤ 2097152 ∧ l2 ≤ 2097152 := by omega
      obtain ⟨hs1, hs2⟩ := hlsum
      clear hc hat ha hcn hl1 hl2 hb1 HA
      go_wp2_with fail
      go_quiet (fail)
      clear q1
      have HBq : Hid (Below wr.heap.size wr (wr.drewN nq)) := below_drewN0 (Below.refl _ _) nq
      go_wp2_with fail
      go_loopw [3, 5] (fun n i wx => ∃ j u : Nat, i = .int .i64 j ∧ n = .int .i64 u ∧ j ≤ l2 ∧ u = t + l1 + l2 + vsN (a.vss.take j) ∧ Below wr.heap.size wr wx) (fun _ i _ => l2 - (intOf i).toNat)
      case atStart => exact ⟨0, t + l1 + l2, rfl, by go_num, by omega, rfl, HBq.out⟩
      case round =>
        obtain ⟨j, u, rfl, rfl, hj, hu, hb⟩ := hrel
        have HBx := Lib.hid hb
        have HU := Lib.hid hu
        have q2 := (HGw.out _ hb).2
        have hu20 : u ≤ 4194304 := by have h1 := vsN_le a.vss j; have h2 := HGn.out; omega
        by_cases hj2 : j < l2
        · obtain ⟨g, hg⟩ : ∃ g, a.vss[j]? = some g := ⟨_, List.getElem?_eq_getElem (by rw [← HL2.out]; exact hj2)⟩
          obtain ⟨b2, off2, Ai, ci, e2, q5, _⟩ := (HGw.out _ hb).1 j (by rw [← HL2.out]; exact hj2)
          rw [List.getD_eq_getElem?_getD, hg] at q5
          rw [e2] at q2
          have HSg := Lib.hid (vsN_take a.vss j g hg)
          have hgl := vsN_mem (List.mem_of_getElem? hg)
          obtain ⟨gl, hgle⟩ : ∃ l, l = g.length := ⟨_, rfl⟩
          have HGl := Lib.hid hgle
          have hgl2 : gl ≤ 2097152 := by have h2 := HGn.out; omega
          rw [Option.getD_some, ← hgle] at q5
          clear hb hu hg hgl hgle
          go_wp2_with fail
          clear q2 q5
          go_roundw
          case rel => exact ⟨j + 1, u + gl, by go_num, by go_num, by omega, by rw [HSg.out, ← HGl.out]; have := HU.out; omega, HBx.out⟩
          case measure => simp [intOf]; omega
        · obtain rfl : j = l2 := by omega
          have HE : Hid (acsN (acs.take (k + 1)) = u) := by
            unfold Hid
            rw [HSt.out, HCn.out, HU.out, HL2.out, List.take_length, ← HT.out]; omega
          clear hb hu
          go_wp2_with fail
          clear q2
          go_roundw
          case rel => exact ⟨k + 1, u, by go_num, by go_num, by omega, HE.out.symm, HB.out.trans (HBx.out.mono HB.out.size)⟩
          case measure => simp [intOf]; omega
    · obtain rfl : k = m := by omega
      have HF : Hid (acsN acs = t) := by
        unfold Hid
        rw [HT.out, HM.out, List.take_length]
      by_cases h1 : k ≤ 60
      · by_cases h2 : t ≤ 16384
        · have HD : Hid (decide (k ≤ 60 ∧ acsN acs ≤ 16384) = true) := decide_eq_true ⟨h1, by rw [HF.out]; exact h2⟩
          go_wp2_with fail
          go_ret
          exact ⟨by first | rfl | (rw [HD.out]; first | rfl | (simp; done) | (simp; omega)), HB.out⟩
        · have HD : Hid (decide (k ≤ 60 ∧ acsN acs ≤ 16384) = false) := decide_eq_false (fun h => h2 (by rw [← HF.out]; exact h.2))
          go_wp2_with fail
          go_ret
          exact ⟨by first | rfl | (rw [HD.out]; first | rfl | (simp; done) | (simp; omega)), HB.out⟩
      · have HD : Hid (decide (k ≤ 60 ∧ acsN acs ≤ 16384) = false) := decide_eq_false (fun h => h1 h.1)
        go_wp2_with fail
        go_ret
        exact ⟨by first | rfl | (rw [HD.out]; first | rfl | (simp; done) | (simp; omega)), HB.out⟩
end Go.Proofs.YthjomnaejhehoaaGreatDoor

namespace Go.Proofs.YthjomnaejhehoaaGreatDoor
open Go.RowKit Go.MapKept Go.ChangeMaps
set_option linter.unusedVariables false
set_option linter.unusedSimpArgs false

/-- What a play's World is. -/
def St9 (w0 wr : World) (Wd q : Nat) : Prop := ∃ A x, W9 w0 wr A x ∧ x.U = x.V ∧ x.q ≤ q ∧ x.op = false ∧ x.S.off = false ∧ A.W = Wd
theorem St9.bel {w0 w : World} {Wd q : Nat} (h : St9 w0 w Wd q) : Below w0.heap.size w0 w := by
  obtain ⟨A, x, h, _⟩ := h
  exact h.bel
theorem St9.below {w0 w w' : World} {Wd q : Nat} (h : St9 w0 w Wd q) (hb : Below w.heap.size w w') : St9 w0 w' Wd q := by
  obtain ⟨A, x, h, h1⟩ := h
  exact ⟨A, x, h.below hb, h1⟩
theorem step_st {w0 w : World} {Wd q : Nat} (h : St9 w0 w Wd q) (hq : q + 1 < 9223372036854775808) (a : Ac) (hA : AcAt w0 a) (hN : a.cnt ≤ 16384) :
    Calls Tryz.prog 17 #[.pointer (some ⟨Wd, 0, none⟩), .agg a.vs.toArray] w fun e w' => e = .returned (.bool true) ∧ St9 w0 w' Wd (q + 1) := by
  obtain ⟨A, x, h, hU, hxq, hop, hoff, rfl⟩ := h
  unfold Ac.cnt at hN
  exact (step_any h hU hop hoff (by omega) a hA (by omega) ⟨by omega, fun y hy => by have := vsN_mem hy; omega⟩).mono fun e w' hs => by
    obtain ⟨h1, A', x', a1, a2, a3, a4, a5, a6, a7, a8, _⟩ := hs
    exact ⟨h1, A', x', a1, a2, by omega, a4, a5, a8⟩
theorem st_new {w0 w : World} {A : Ad} {x : X9} (h : W9 w0 w A x) (hn : New9 A x) : St9 w0 w A.W 1 := ⟨A, x, h, by rw [hn.U, hn.V], by rw [hn.q]; exact Nat.le_refl _, hn.op, hn.off, rfl⟩
set_option maxRecDepth 100000 in
set_option maxHeartbeats 4000000 in
theorem plays_any (which : Int) (Aa : Option Addr) (ca : Nat) (acs : List Ac) (hlen : acs.length ≤ 2097152) (hN : acsN acs ≤ 2097152) (w0 : World) (hT : Tab w0) (hA : SlActs w0 Aa acs) :
    Calls Tryz.prog 5 #[.int .i64 which, .slice Aa acs.length ca] w0 fun e w' => e = .returned (.bool true) ∧ Below w0.heap.size w0 w' := by
  have HKn := Lib.hid (known_any w0 hT)
  have HT := Lib.hid hT
  have HA := Lib.hid hA
  obtain ⟨m, hm⟩ : ∃ m, m = acs.length := ⟨_, rfl⟩
  have HM := Lib.hid hm
  obtain ⟨dd, hdd⟩ : ∃ dd, dd = decide (m ≤ 60 ∧ acsN acs ≤ 16384) := ⟨_, rfl⟩
  have HD := Lib.hid hdd
  have HFw : Hid (∀ w', Below w0.heap.size w0 w' → Calls Tryz.prog 16 #[.slice Aa m ca] w' fun e w'' => e = .returned (.bool dd) ∧ Below w'.heap.size w' w'') := fun w' hb => by rw [hdd, hm]; exact few_any Aa ca acs hlen hN w' (hA.keep (keep_below hb))
  rw [← hm]
  clear hT hA hm hdd hlen hN
  go_enter Tryz.func5, Tryz.ntmps5
  go_wp2_with fail
  refine HKn.out.mono ?_
  rintro e w1 ⟨rfl, hb1⟩
  have HF := Lib.hid (HFw.out w1 hb1)
  have HB1 := Lib.hid hb1
  clear HKn HFw hb1
  go_wp2_with fail
  refine HF.out.mono ?_
  rintro e w2 ⟨rfl, hb2⟩
  have HB2 : Hid (Below w0.heap.size w0 w2) := HB1.out.trans (hb2.mono HB1.out.size)
  clear HF hb2
  cases dd with
  | false =>
    go_wp2
    go_ret
    exact ⟨rfl, HB2.out⟩
  | true =>
    have HDd : Hid (m ≤ 60 ∧ acsN acs ≤ 16384) := Lib.hid (of_decide_eq_true HD.out.symm)
    have hm60 : m ≤ 60 := HDd.out.1
    have HR := Lib.hid (row_any which w2)
    clear HD
    go_wp2_with fail
    refine HR.out.mono ?_
    rintro e w3 ⟨g, c, vs, rfl, hg, hc, hr, hok, h5, hb3⟩
    have HBe := Lib.hid (begun_any w0 w3 (HB2.out.trans (hb3.mono HB2.out.size)) HT.out (some ⟨g, 0, none⟩) c vs hc (fun g' o e => .inr (by injection e with e; injection e with e _ _; subst e; exact hr)) hok (by omega))
    obtain ⟨vl, hvl⟩ : ∃ vl, vl = vs.length := ⟨_, rfl⟩
    rw [← hvl] at HBe ⊢
    clear HR hg hc hr hok h5 hb3 hvl
    go_wp2_with fail
    refine HBe.out.mono ?_
    rintro e w4 ⟨A, x, rfl, h4, hn, -, -, -⟩
    have H4 := Lib.hid (st_new h4 hn)
    generalize A.W = Wd at *
    clear HBe h4 hn
    go_wp2
    go_loopw [6] (fun v wr => ∃ k : Nat, v = .int .i64 k ∧ k ≤ m ∧ St9 w0 wr Wd (1 + k)) (fun v _ => m - (intOf v).toNat)
    case atStart => exact ⟨0, rfl, by omega, H4.out⟩
    case round =>
      obtain ⟨k, rfl, hk, hs⟩ := hrel
      have HS := Lib.hid hs
      clear hs H4
      by_cases hkm : k < m
      · obtain ⟨a, ha⟩ : ∃ a, acs[k]? = some a := ⟨_, List.getElem?_eq_getElem (by rw [← HM.out]; exact hkm)⟩
        obtain ⟨⟨b, off, e1, hc⟩, hat⟩ := HA.out k a ha
        subst e1
        have q0 := keep_below HS.out.bel _ _ (hc 0 _ rfl)
        have q1 := keep_below HS.out.bel _ _ (hc 1 _ rfl)
        have q2 := keep_below HS.out.bel _ _ (hc 2 _ rfl)
        have q3 := keep_below HS.out.bel _ _ (hc 3 _ rfl)
        rw [Nat.add_zero] at q0
        rw [← Nat.add_assoc] at q1 q2 q3
        have HSt := Lib.hid (step_st HS.out (by omega) a hat (Nat.le_trans (acsN_mem (List.mem_of_getElem? ha)) HDd.out.2))
        obtain ⟨op, Ak, ck, ks, Av, cv, vss, n⟩ := a
        unfold Ac.vs at HSt
        dsimp only at q0 q1 q2 q3 HSt
        clear hc hat ha
        generalize ks.length = nk at *
        generalize vss.length = nv at *
        go_wp2_with fail
        refine HSt.out.mono ?_
        rintro e w5 ⟨rfl, hs5⟩
        have H5 := Lib.hid hs5
        clear hs5 HSt q0 q1 q2 q3 HS
        go_wp2
        go_roundw
        case rel => exact ⟨k + 1, by go_num, by omega, H5.out⟩
        case measure => simp [intOf]; omega
      · obtain rfl : k = m := by omega
        obtain ⟨A, x, h, hU, -, hop, -, rfl⟩ := HS.out
        have HCu := Lib.hid h.cut
        have HUo := Lib.hid (And.intro hU hop)
        have c0 := h.cells.1
        clear h hU hop HS
        go_wp2_with fail
        refine HCu.out.mono ?_
        rintro e w5 ⟨rfl, h5, -⟩
        have HBk : Hid (Calls Tryz.prog 13 #[.pointer (some ⟨A.W, 0, none⟩)] w5 (BackPost w0 A { x with S := { x.S with off := true, armed := 0 } })) := back_any h5 HUo.out.1 (fun ho => by have := HUo.out.2; dsimp only at ho; rw [this] at ho; cases ho)
        clear HCu h5 c0
        go_wp2_with fail
        refine HBk.out.mono ?_
        rintro e w6 ⟨rfl, A6, x6, h6, -⟩
        have HB6 := Lib.hid h6.bel
        clear h6 HBk
        go_wp2
        go_ret
        exact ⟨rfl, HB6.out⟩
end Go.Proofs.YthjomnaejhehoaaGreatDoor

namespace Go.Proofs.YthjomnaejhehoaaGreatDoor
open Go.RowKit Go.MapKept Go.ChangeMaps
set_option linter.unusedVariables false
set_option linter.unusedSimpArgs false

def seenA (vs : List Int) : Nat → Nat → Bool
  | 0 => fun _ => false
  | k + 1 => if 0 ≤ vs.getD k 0 ∧ vs.getD k 0 < 6 then setBad (seenA vs k) (vs.getD k 0).toNat else seenA vs k
def okA (vs : List Int) : Nat → Bool
  | 0 => true
  | k + 1 => okA vs k && (decide (0 ≤ vs.getD k 0) && decide (vs.getD k 0 < 6) && !seenA vs k (vs.getD k 0).toNat)
theorem take_succ_getD (vs : List Int) (k : Nat) (hk : k < vs.length) : vs.take (k + 1) = vs.take k ++ [vs.getD k 0] := by
  rw [List.take_succ_eq_append_getElem hk, List.getD_eq_getElem?_getD, List.getElem?_eq_getElem hk]; rfl
theorem seenA_iff (vs : List Int) : ∀ k, k ≤ vs.length → ∀ b, b < 6 → (seenA vs k b = true ↔ (b : Int) ∈ vs.take k)
  | 0, _, b, _ => by simp [seenA]
  | k + 1, hk, b, hb => by
    have ih := seenA_iff vs k (by omega) b hb
    rw [take_succ_getD vs k (by omega), List.mem_append, List.mem_singleton]
    unfold seenA
    by_cases hv : 0 ≤ vs.getD k 0 ∧ vs.getD k 0 < 6
    · rw [if_pos hv]
      unfold setBad
      rw [Bool.or_eq_true, ih, beq_iff_eq]
      constructor
      · rintro (e | h)
        · right; omega
        · exact .inl h
      · rintro (h | e)
        · exact .inr h
        · left; omega
    · rw [if_neg hv, ih]
      constructor
      · exact .inl
      · rintro (h | e)
        · exact h
        · exact absurd ⟨by omega, by omega⟩ hv
theorem okA_iff (vs : List Int) : ∀ k, k ≤ vs.length → (okA vs k = true ↔ (vs.take k).Nodup ∧ ∀ x ∈ vs.take k, 0 ≤ x ∧ x < 6)
  | 0, _ => by simp [okA]
  | k + 1, hk => by
    have ih := okA_iff vs k (by omega)
    have hs := seenA_iff vs k (by omega)
    rw [take_succ_getD vs k (by omega)]
    unfold okA
    rw [Bool.and_eq_true, Bool.and_eq_true, Bool.and_eq_true, ih, decide_eq_true_eq, decide_eq_true_eq, Bool.not_eq_true']
    constructor
    · rintro ⟨⟨h1, h2⟩, ⟨h3, h4⟩, h5⟩
      have h6 : vs.getD k 0 ∉ vs.take k := fun hm => by
        have := (hs (vs.getD k 0).toNat (by omega)).2 (by rw [Int.toNat_of_nonneg h3]; exact hm)
        rw [h5] at this; cases this
      refine ⟨?_, fun x hx => ?_⟩
      · rw [List.nodup_append]
        exact ⟨h1, by simp, fun a ha b hb => by rw [List.mem_singleton.1 hb]; intro e; exact h6 (e ▸ ha)⟩
      · rcases List.mem_append.1 hx with hx | hx
        · exact h2 x hx
        · rw [List.mem_singleton.1 hx]; exact ⟨h3, h4⟩
    · rintro ⟨h1, h2⟩
      have h3 := h2 (vs.getD k 0) (by simp)
      rw [List.nodup_append] at h1
      refine ⟨⟨h1.1, fun x hx => h2 x (List.mem_append.2 (.inl hx))⟩, h3, ?_⟩
      cases hx : seenA vs k (vs.getD k 0).toNat with
      | false => rfl
      | true =>
        have := (hs (vs.getD k 0).toNat (by omega)).1 hx
        rw [Int.toNat_of_nonneg h3.1] at this
        exact absurd rfl (h1.2.2 _ this _ (by simp))
theorem okA_all (vs : List Int) : ((decide (3 ≤ vs.length) && okA vs vs.length) = true ↔ okOn 6 vs) := by
  have h := okA_iff vs vs.length (Nat.le_refl _)
  rw [List.take_length] at h
  rw [Bool.and_eq_true, h, decide_eq_true_eq]
  rfl
def boolRow (f : Nat → Bool) : Array Value := #[.bool (f 0), .bool (f 1), .bool (f 2), .bool (f 3), .bool (f 4), .bool (f 5)]
theorem boolRow_get (f : Nat → Bool) (b : Nat) (hb : b < 6) : (boolRow f)[b]? = some (.bool (f b)) := by
  match b, hb with
  | 0, _ => rfl
  | 1, _ => rfl
  | 2, _ => rfl
  | 3, _ => rfl
  | 4, _ => rfl
  | 5, _ => rfl
theorem boolRow_set (f : Nat → Bool) (b : Nat) (hb : b < 6) : (boolRow f).setIfInBounds b (.bool true) = boolRow (setBad f b) := by
  match b, hb with
  | 0, _ => simp [boolRow, setBad]
  | 1, _ => simp [boolRow, setBad]
  | 2, _ => simp [boolRow, setBad]
  | 3, _ => simp [boolRow, setBad]
  | 4, _ => simp [boolRow, setBad]
  | 5, _ => simp [boolRow, setBad]
/-- A World that is made over a store, beside a row of its own. -/
theorem W9.build {w0 w3 : World} {F L M Q St Bk Vb c' k : Nat} {P : Nat → Nat} {S' : Fl} {bad' : Nat → Bool} {md' : Int} {G : Nat → Option (Nat × Vals)} {Al : Option Addr} {cl : Nat} {vs : List Int} {g : Nat} {cs : Array Value}
    (hb : Below w0.heap.size w0 w3) (h2 : MedIs w3 w0.heap.size M Q F L P S' 192 bad' md') (h3 : StIs w3 w0.heap.size St Bk Vb M (natsI vs) c' (k : Nat) 1 (fun _ => none)) (h4 : Vb ≠ Q) (h6 : Sl S' 192 bad' (natsI vs) k 1 (fun _ => none) G)
    (h9 : S'.nb = 6) (h12 : ∀ i, (S'.b i).failed = false) (h13 : ∀ i, i ∉ natsI vs → (S'.b i).next = 0 ∧ (S'.b i).half = false) (hls : CellsI w3 Al vs) (hA : ∀ g o, Al = some ⟨g, o, none⟩ → g < w0.heap.size) (hok : okOn 6 vs) (hlen : vs.length ≤ 1024) (hg : Row w3 g 4 cs) :
    W9 w0 ((w3.alloc (.map #[] 0)).alloc (.cells #[.pointer (some ⟨F, 0, none⟩), .pointer (some ⟨M, 0, none⟩), .pointer (some ⟨St, 0, none⟩), .slice Al vs.length cl, .map (some w3.heap.size), .map none, .bool false, .int .i64 0] 36))
      ⟨w3.heap.size + 1, St, Bk, Vb, M, Q, F, L, w3.heap.size, P, Al, cl, c', vs, some (g, cs)⟩ ⟨S', bad', md', k, 1, fun _ => none, G, fun _ => none, .map none, false, 0⟩ := by
  obtain ⟨w4, hw4⟩ : ∃ w4, w4 = (w3.alloc (.map #[] 0)).alloc (.cells #[.pointer (some ⟨F, 0, none⟩), .pointer (some ⟨M, 0, none⟩), .pointer (some ⟨St, 0, none⟩), .slice Al vs.length cl, .map (some w3.heap.size), .map none, .bool false, .int .i64 0] 36) := ⟨_, rfl⟩
  have hb4 : Below w3.heap.size w3 w4 := by rw [hw4]; exact ((Below.refl _ _).alloc (Nat.le_refl _) _).alloc (by simp) _
  have hz := hb.size
  rw [← hw4]
  refine ⟨h2.below hb4, h3.below hb4, h4, h6, ?_, ⟨by have := h2.bad.lt; dsimp only; omega, hz⟩, ⟨OkV.none, fit_none 192 (by omega)⟩, ?_, by dsimp only; omega, hls.below' hb4, fun g o e => .inl (hA g o e), by dsimp only; rw [h9]; exact hok, hlen, ⟨nfail_none h12, by have := hok.1; dsimp only; omega⟩, h13, hb.trans (hb4.mono hb.size), fun g' cs' e => ?_⟩
  · dsimp only
    rw [hw4]
    exact (HasIs.fresh w3).below ((Below.refl _ _).alloc (Nat.le_refl _) _)
  · have := Row.fresh (w3.alloc (.map #[] 0)) 36 #[.pointer (some ⟨F, 0, none⟩), .pointer (some ⟨M, 0, none⟩), .pointer (some ⟨St, 0, none⟩), .slice Al vs.length cl, .map (some w3.heap.size), .map none, .bool false, .int .i64 0]
    rw [World.size_alloc, ← hw4] at this
    dsimp only
    unfold w9cells
    dsimp only
    exact this
  · injection e with e
    injection e with e1 e2
    subst e1 e2
    exact hg.below hb4 hg.lt
/-- What the World is behind some acts. -/
def St10 (w0 wr : World) (Wd Fd Sd q : Nat) (vs : List Int) (g : Nat) (cs : Array Value) : Prop := ∃ A x, W9 w0 wr A x ∧ x.U = x.V ∧ x.q ≤ q ∧ x.op = false ∧ x.S.off = false ∧ x.S.armed = 0 ∧ x.fail = 0 ∧ x.S.nb = 6 ∧ A.W = Wd ∧ A.F = Fd ∧ A.St = Sd ∧ A.vs = vs ∧ A.X = some (g, cs)
theorem St10.bel {w0 w : World} {Wd Fd Sd q : Nat} {vs : List Int} {g : Nat} {cs : Array Value} (h : St10 w0 w Wd Fd Sd q vs g cs) : Below w0.heap.size w0 w := by
  obtain ⟨A, x, h, _⟩ := h
  exact h.bel
theorem step_st10 {w0 w : World} {Wd Fd Sd q : Nat} {vs : List Int} {g : Nat} {cs : Array Value} (h : St10 w0 w Wd Fd Sd q vs g cs) (hq : q + 1 < 9223372036854775808) (a : Ac) (hA : AcAt w0 a) (hN : a.cnt ≤ 16384) (hop : a.op ≤ 2) :
    Calls Tryz.prog 17 #[.pointer (some ⟨Wd, 0, none⟩), .agg a.vs.toArray] w fun e w' => e = .returned (.bool true) ∧ St10 w0 w' Wd Fd Sd (q + 1) vs g cs := by
  obtain ⟨A, x, h, hU, hxq, hopn, hoff, har, hfl, hnb, rfl, rfl, rfl, rfl, hX⟩ := h
  unfold Ac.cnt at hN
  exact (step_any h hU hopn hoff (by omega) a hA (by omega) ⟨by omega, fun y hy => by have := vsN_mem hy; omega⟩).mono fun e w' hs => by
    obtain ⟨h1, A', x', a1, a2, a3, a4, a5, a6, a7, a8, a9, a10, a11, a12, a13⟩ := hs
    obtain ⟨b1, b2, b3⟩ := a13 hop har
    injection a12 with _ a12
    exact ⟨h1, A', x', a1, a2, by omega, a4, a5, b2, by rw [b3, hfl], by rw [a6, hnb], a8, a9, b1, a7, by rw [a12, hX]⟩
end Go.Proofs.YthjomnaejhehoaaGreatDoor

namespace Go.Proofs.YthjomnaejhehoaaGreatDoor
open Go.RowKit Go.MapKept Go.ChangeMaps
set_option linter.unusedVariables false
set_option linter.unusedSimpArgs false

theorem bool_info : (Tryz.prog.info? 4).map (fun i => (i.zero, i.size, i.bytes)) = some (some (.bool false), 1, 1) := by kernel_rfl
theorem made_bool : madeCells #[.bool false] 6 = boolRow (fun _ => false) := by first | rfl | (with_unfolding_all rfl)
set_option maxRecDepth 100000 in
set_option maxHeartbeats 8000000 in
theorem apart_any (Al : Option Addr) (cl : Nat) (vs : List Int) (Aa : Option Addr) (ca : Nat) (acs : List Ac) (hvl : vs.length ≤ 2097152) (hlen : acs.length ≤ 2097152) (hN : acsN acs ≤ 2097152) (w0 : World) (hT : Tab w0) (hV : CellsI w0 Al vs) (hA : SlActs w0 Aa acs) :
    Calls Tryz.prog 7 #[.slice Al vs.length cl, .slice Aa acs.length ca] w0 fun e w' => e = .returned (.bool true) ∧ Below w0.heap.size w0 w' := by
  have HKn := Lib.hid (known_any w0 hT)
  have HT := Lib.hid hT
  have HA := Lib.hid hA
  have HV := Lib.hid hV
  obtain ⟨m, hm⟩ : ∃ m, m = acs.length := ⟨_, rfl⟩
  have HM := Lib.hid hm
  obtain ⟨dd, hdd⟩ : ∃ dd, dd = decide (m ≤ 60 ∧ acsN acs ≤ 16384) := ⟨_, rfl⟩
  have HD := Lib.hid hdd
  have HFw : Hid (∀ w', Below w0.heap.size w0 w' → Calls Tryz.prog 16 #[.slice Aa m ca] w' fun e w'' => e = .returned (.bool dd) ∧ Below w'.heap.size w' w'') := fun w' hb => by rw [hdd, hm]; exact few_any Aa ca acs hlen hN w' (hA.keep (keep_below hb))
  rw [← hm]
  obtain ⟨nl, hnl⟩ : ∃ nl, nl = vs.length := ⟨_, rfl⟩
  have HNl := Lib.hid hnl
  rw [← hnl] at hvl ⊢
  have hmk : ∀ v : World, (Instr.makeSlice 64 (.int .i64 6) (.int .i64 6)).run Tryz.prog v = .ok (.slice (some ⟨v.heap.size, 0, none⟩) 6 6) (v.alloc (.cells (boolRow fun _ => false) 4)) := fun v => by
    rw [← made_bool]
    exact run_make_row' (P := Tryz.prog) 64 4 (.bool false) 1 Tryz.underlying64 bool_info rfl .i64 .i64 6 (by omega) (by omega) v
  clear hT hA hV hm hdd hlen hN hnl
  go_enter Tryz.func7, Tryz.ntmps7
  go_wp2_with fail
  refine HKn.out.mono ?_
  rintro e w1 ⟨rfl, hb1⟩
  have HF := Lib.hid (HFw.out w1 hb1)
  have HB1 := Lib.hid hb1
  clear HKn HFw hb1
  go_wp2_with fail
  refine HF.out.mono ?_
  rintro e w2 ⟨rfl, hb2⟩
  have HB2 : Hid (Below w0.heap.size w0 w2) := HB1.out.trans (hb2.mono HB1.out.size)
  clear HF hb2
  cases dd with
  | false =>
    go_wp2
    go_ret
    exact ⟨rfl, HB2.out⟩
  | true =>
    have HDd : Hid (m ≤ 60 ∧ acsN acs ≤ 16384) := Lib.hid (of_decide_eq_true HD.out.symm)
    have hm60 : m ≤ 60 := HDd.out.1
    clear HD
    by_cases h20 : nl ≤ 20
    · have HN := Lib.hid (New_any 6 8 3 (by omega) (by omega) (by omega) w2)
      go_wp2_with fail
      refine HN.out.mono ?_
      rintro e w3 ⟨F, L, P, rfl, hf, hb⟩
      have HB3 : Hid (Below w0.heap.size w0 w3) := HB2.out.trans (hb.mono HB2.out.size)
      have HT3 : Hid (Tab w3) := HT.out.keep (keep_below HB3.out)
      have HT2 : Hid (Tab w2) := HT.out.keep (keep_below HB2.out)
      have HM1 := Lib.hid (New_yes hf HT2.out.lt HT3.out 192 (by decide) none [] (by decide) 0 (fun i h => absurd h (by simp)) (by decide) rfl)
      clear hf hb HN
      go_wp2_with fail
      refine HM1.out.mono ?_
      rintro e w4 ⟨Mb, Q, rfl, hmd, hb, _, _⟩
      have HB4 : Hid (Below w0.heap.size w0 w4) := HB3.out.trans (hb.mono HB3.out.size)
      have HMd : Hid (MedIs w4 w0.heap.size Mb Q F L P (Fl.new 6 8 3) 192 (inL []) 0) := hmd.low (by have := HT.out.lt; omega) HB2.out.size
      clear hmd hb HM1
      obtain ⟨w5, hw5⟩ : ∃ w5, w5 = w4.alloc (.cells (boolRow fun _ => false) 4) := ⟨_, rfl⟩
      obtain ⟨g, hg⟩ : ∃ g, g = w4.heap.size := ⟨_, rfl⟩
      have HE5 := Lib.hid (And.intro hw5 hg)
      have hb5 : Below w4.heap.size w4 w5 := by rw [hw5]; exact (Below.refl _ _).alloc (Nat.le_refl _) _
      have HB5 : Hid (Below w0.heap.size w0 w5) := HB4.out.trans (hb5.mono HB4.out.size)
      have HMd5 : Hid (MedIs w5 w0.heap.size Mb Q F L P (Fl.new 6 8 3) 192 (inL []) 0) := HMd.out.below hb5
      have HR0 : Hid (Row w5 g 4 (boolRow (seenA vs 0))) := by unfold Hid; rw [hw5, hg]; exact Row.fresh w4 4 _
      have HGe : Hid (w0.heap.size ≤ g) := by unfold Hid; rw [hg]; exact HB4.out.size
      obtain ⟨d3, hd3⟩ : ∃ d3, decide ((3 : Int) ≤ nl) = d3 := ⟨_, rfl⟩
      have HD3 : Hid (d3 = decide (3 ≤ nl)) := by unfold Hid; rw [← hd3]; congr 1; simp; omega
      clear hw5 hg hb5
      go_wp2_with fail
      rw [← HE5.out.1, ← HE5.out.2]
      clear hd3
      go_loopw [9, 10] (fun ok i wr => ∃ k : Nat, i = .int .i64 k ∧ k ≤ nl ∧ ok = .bool (d3 && okA vs k) ∧ Row wr g 4 (boolRow (seenA vs k)) ∧ Turns w5 wr [g]) (fun _ i _ => nl - (intOf i).toNat)
      case atStart => exact ⟨0, rfl, by omega, by simp [okA], HR0.out, Turns.refl _ _⟩
      case round =>
        obtain ⟨k, rfl, hk, rfl, hr, ht⟩ := hrel
        have HRw := Lib.hid hr
        have HTw := Lib.hid ht
        clear hr ht
        have HBw : Hid (Below w0.heap.size w0 wr) := HTw.out.below HB5.out HB5.out.size (fun q hq => by rw [List.mem_singleton.1 hq]; exact HGe.out)
        by_cases hkn : k < nl
        · obtain ⟨b0, off, eA, hc⟩ := HV.out k (by rw [← HNl.out]; exact hkn)
          subst eA
          have cv := keep_below HBw.out _ _ hc
          obtain ⟨v, hv⟩ : ∃ v, v = vs.getD k 0 := ⟨_, rfl⟩
          rw [← hv] at cv
          obtain ⟨okk, hokk⟩ : ∃ okk, okk = (d3 && okA vs k) := ⟨_, rfl⟩
          have HOk := Lib.hid hokk
          rw [← hokk]
          have HSn : Hid (seenA vs (k + 1) = if 0 ≤ v ∧ v < 6 then setBad (seenA vs k) v.toNat else seenA vs k) := by unfold Hid; rw [hv]; rfl
          have HOn : Hid (okA vs (k + 1) = (okA vs k && (decide (0 ≤ v) && decide (v < 6) && !seenA vs k v.toNat))) := by unfold Hid; rw [hv]; rfl
          clear hc hv hokk
          by_cases h0 : v < 0
          · have HRn : Hid (Row wr g 4 (boolRow (seenA vs (k + 1)))) := by unfold Hid; rw [HSn.out, if_neg (by omega)]; exact HRw.out
            have HF : Hid (Value.bool false = .bool (d3 && okA vs (k + 1))) := by unfold Hid; rw [HOn.out, decide_eq_false (show ¬ 0 ≤ v by omega)]; simp
            clear HSn HOn
            go_wp2
            go_roundw
            case rel => exact ⟨k + 1, by go_num, by omega, HF.out, HRn.out, HTw.out⟩
            case measure => simp [intOf]; omega
          · by_cases h6 : 6 ≤ v
            · have HRn : Hid (Row wr g 4 (boolRow (seenA vs (k + 1)))) := by unfold Hid; rw [HSn.out, if_neg (by omega)]; exact HRw.out
              have HF : Hid (Value.bool false = .bool (d3 && okA vs (k + 1))) := by unfold Hid; rw [HOn.out, decide_eq_false (show ¬ v < 6 by omega)]; simp
              clear HSn HOn
              go_wp2
              go_roundw
              case rel => exact ⟨k + 1, by go_num, by omega, HF.out, HRn.out, HTw.out⟩
              case measure => simp [intOf]; omega
            · obtain ⟨b, rfl⟩ := Int.eq_ofNat_of_zero_le (show 0 ≤ v by omega)
              have hb6 : b < 6 := by omega
              rw [Int.toNat_natCast, if_pos ⟨by omega, by omega⟩] at HSn
              rw [Int.toNat_natCast, decide_eq_true (show (0 : Int) ≤ (b : Int) by omega), decide_eq_true (show (b : Int) < 6 by omega)] at HOn
              have cs := HRw.out.cell b
              rw [boolRow_get _ _ hb6] at cs
              have fz := HRw.out.frozen b
              have HSet : Hid (Row (wr.setCell ⟨g, b, none⟩ (.bool true)) g 4 (boolRow (seenA vs (k + 1)))) := by unfold Hid; rw [HSn.out, ← boolRow_set _ _ hb6]; exact HRw.out.put b (.bool true)
              obtain ⟨sb, hsb⟩ : ∃ sb, sb = seenA vs k b := ⟨_, rfl⟩
              rw [← hsb] at cs HOn
              have HSb := Lib.hid hsb
              clear hsb
              cases sb with
              | true =>
                have HRn : Hid (Row wr g 4 (boolRow (seenA vs (k + 1)))) := by
                  unfold Hid
                  have e : setBad (seenA vs k) b = seenA vs k := by
                    funext i
                    unfold setBad
                    by_cases hi : i = b
                    · subst hi; rw [← HSb.out]; simp
                    · simp [hi]
                  rw [HSn.out, e]; exact HRw.out
                have HF : Hid (Value.bool false = .bool (d3 && okA vs (k + 1))) := by unfold Hid; rw [HOn.out]; simp
                clear HSn HOn HSet
                go_wp2
                go_roundw
                case rel => exact ⟨k + 1, by go_num, by omega, HF.out, HRn.out, HTw.out⟩
                case measure => simp [intOf]; omega
              | false =>
                have HF : Hid (Value.bool okk = .bool (d3 && okA vs (k + 1))) := by unfold Hid; rw [HOn.out, HOk.out]; simp
                have HTn : Hid (Turns w5 (wr.setCell ⟨g, b, none⟩ (.bool true)) [g]) := HTw.out.setCell (by simp) _
                clear HSn HOn HRw HTw
                go_wp2
                go_roundw
                case rel => exact ⟨k + 1, by go_num, by omega, HF.out, HSet.out, HTn.out⟩
                case measure => simp [intOf]; omega
        · obtain rfl : k = nl := by omega
          obtain ⟨okk, hokk⟩ : ∃ okk, okk = (d3 && okA vs k) := ⟨_, rfl⟩
          have HOk : Hid (okk = true ↔ okOn 6 vs) := by unfold Hid; rw [hokk, HD3.out, HNl.out]; exact okA_all vs
          rw [← hokk]
          have hg0 : g ∉ medT Mb Q F L P (Fl.new 6 8 3).nb := HMd5.out.no_row HR0.out (by decide) (by decide) (by decide) (by decide)
          have HMw : Hid (MedIs wr w0.heap.size Mb Q F L P (Fl.new 6 8 3) 192 (inL []) 0) := HMd5.out.aside HTw.out (fun q hq => by rw [List.mem_singleton.1 hq]; exact hg0) (fun q cs hr hq => by rw [List.mem_singleton.1 hq] at hr; exact Row.ne_type hr HR0.out (by decide) rfl) (fun hq => by have h1 := List.mem_singleton.1 hq; have h2 := HGe.out; have h3 := HT.out.lt; omega)
          have HGm := Lib.hid hg0
          have HVw : Hid (CellsI wr Al vs) := HV.out.keep (keep_below HBw.out)
          clear hokk hg0
          cases okk with
          | false =>
            have HFo := Lib.hid (Format_bad HMw.out Al cl vs (by have := HNl.out; omega) HVw.out (fun h => by have := HOk.out.2 h; cases this))
            rw [← HNl.out] at HFo
            go_wp2_with fail
            refine HFo.out.mono ?_
            rintro e w6 ⟨⟨v, rfl, hfv⟩, hb6⟩
            have HIs := Lib.hid (is_any v 1 w6 hfv)
            have HB6 : Hid (Below w0.heap.size w0 w6) := HBw.out.trans (hb6.mono HBw.out.size)
            clear hfv hb6 HFo
            go_wp2_with fail
            refine HIs.out.mono ?_
            rintro e w7 ⟨rfl, rfl⟩
            clear HIs
            go_wp2
            go_ret
            exact ⟨rfl, HB6.out⟩
          | true =>
            have HOn : Hid (okOn 6 vs) := HOk.out.1 rfl
            have HFo := Lib.hid (Format_ok HMw.out Al cl vs (by have := HNl.out; omega) HVw.out HOn.out rfl rfl (fun k => by simp [inL]) (fun k => rfl) (by omega))
            rw [← HNl.out] at HFo
            have hmm := @run_makeMap Tryz.prog
            go_wp2_with fail
            refine HFo.out.mono ?_
            rintro e w6 ⟨St, Bk, Vb, c', kk, S', md', bad', G, rfl, h2, h3, h4, h5, h6, h7, h8, h9, -, -, h12, h13, h14⟩
            have hb6 : Below w0.heap.size w0 w6 := h14.below HBw.out HBw.out.size HMw.out.at_least
            have hr6 := h14.row HRw.out HGm.out
            have h10 := W9.build (cl := cl) hb6 h2 h3 h4 h6 h9 h12 (fun i hi => by rw [h13 i hi]; exact ⟨rfl, rfl⟩) (HV.out.keep (keep_below hb6)) (HV.out.lt (by have := HOn.out.1; omega)) HOn.out (by have := HNl.out; omega) hr6
            rw [← HNl.out] at h10
            have H10 : Hid (St10 w0 _ (w6.heap.size + 1) F St 1 vs g (boolRow (seenA vs k))) := ⟨_, _, h10, rfl, Nat.le_refl _, rfl, h7, h8, rfl, h9, rfl, rfl, rfl, rfl, rfl⟩
            obtain ⟨bcs, hbcs⟩ : ∃ bcs, bcs = boolRow (seenA vs k) := ⟨_, rfl⟩
            have HBc := Lib.hid hbcs
            rw [← hbcs] at H10
            clear h2 h3 h4 h5 h6 h7 h8 h9 h12 h13 h14 hb6 hr6 h10 hbcs HFo HMw HMd5 HRw HTw HBw HVw
            go_wp2_with fail
            generalize w6.heap.size + 1 = Wd at *
            go_loopw [14] (fun v wr => ∃ j : Nat, v = .int .i64 j ∧ j ≤ m ∧ St10 w0 wr Wd F St (1 + j) vs g bcs) (fun v _ => m - (intOf v).toNat)
            case atStart => exact ⟨0, rfl, by omega, H10.out⟩
            case round =>
              obtain ⟨j, rfl, hj, hs⟩ := hrel
              have HS := Lib.hid hs
              clear hs H10
              by_cases hjm : j < m
              · obtain ⟨a, ha⟩ : ∃ a, acs[j]? = some a := ⟨_, List.getElem?_eq_getElem (by rw [← HM.out]; exact hjm)⟩
                obtain ⟨⟨b, off, e1, hc⟩, hat⟩ := HA.out j a ha
                subst e1
                have hbel : Below w0.heap.size w0 wr := HS.out.bel
                have q0 := keep_below hbel _ _ (hc 0 _ rfl)
                have q1 := keep_below hbel _ _ (hc 1 _ rfl)
                have q2 := keep_below hbel _ _ (hc 2 _ rfl)
                have q3 := keep_below hbel _ _ (hc 3 _ rfl)
                rw [Nat.add_zero] at q0
                rw [← Nat.add_assoc] at q1 q2 q3
                have hcnt := Nat.le_trans (acsN_mem (List.mem_of_getElem? ha)) HDd.out.2
                by_cases hop : a.op ≤ 2
                · have HSt := Lib.hid (step_st10 HS.out (by omega) a hat hcnt hop)
                  obtain ⟨op, Ak, ck, ks, Av, cv, vss, n⟩ := a
                  unfold Ac.vs at HSt
                  dsimp only at q0 q1 q2 q3 HSt hop
                  clear hc hat ha hbel hcnt
                  generalize ks.length = nk at *
                  generalize vss.length = nv at *
                  go_wp2_with fail
                  refine HSt.out.mono ?_
                  rintro e w7 ⟨rfl, hs7⟩
                  have H7 := Lib.hid hs7
                  clear hs7 HSt q0 q1 q2 q3 HS
                  go_wp2
                  go_roundw
                  case rel => exact ⟨j + 1, by go_num, by omega, H7.out⟩
                  case measure => simp [intOf]; omega
                · obtain ⟨op, Ak, ck, ks, Av, cv, vss, n⟩ := a
                  dsimp only at q0 hop
                  clear hc hat ha hbel hcnt q1 q2 q3
                  go_wp2
                  go_roundw
                  case rel => exact ⟨j + 1, by go_num, by omega, by obtain ⟨A', x', b1, b2, b3, b4⟩ := HS.out; exact ⟨A', x', b1, b2, by omega, b4⟩⟩
                  case measure => simp [intOf]; omega
              · obtain rfl : j = m := by omega
                obtain ⟨A, x, h, -, -, -, hoff, -, hfl, hnb, rfl, rfl, rfl, hvs, hX⟩ := HS.out
                obtain ⟨W0, hW0⟩ : ∃ W0, W0 = wr := ⟨_, rfl⟩
                subst hW0
                have HW := Lib.hid h
                have HVs := Lib.hid hvs
                have HRg : Hid (Row W0 g 4 bcs) := h.ext g bcs hX
                have HNx : Hid (∀ b, b < 6 → Calls Tryz.prog 23 #[.pointer (some ⟨A.F, 0, none⟩), .int .i64 (b : Nat)] W0 fun e w' => e = .returned (.int .i64 (if (x.S.b b).half then -1 else ((x.S.b b).next : Int))) ∧ W0 = w') := fun b hb => Next_in h.med.fl b (by rw [hnb]; exact hb)
                have HSeen : Hid (∀ b, b < 6 → (seenA vs k b = true ↔ b ∈ natsI vs)) := fun b hb => by
                  have h1 := seenA_iff vs k (by have := HNl.out; omega) b hb
                  rw [List.take_of_length_le (by have := HNl.out; omega)] at h1
                  rw [h1, mem_natsI (fun y hy => (HOn.out.2.2 y hy).1)]
                have HBl : Hid (Calls Tryz.prog 24 #[.pointer (some ⟨A.St, 0, none⟩)] W0 fun e w' => ∃ g c', e = .returned (.slice (some ⟨g, 0, none⟩) k c') ∧ w'.ownsRow W0.heap.size 3 1 (.slice (some ⟨g, 0, none⟩) k c') k (natsV (natsI vs)) ∧ Below W0.heap.size W0 w') := by
                  have hlt : ∀ k ∈ natsI A.vs, k < x.S.nb := h.sl.lt
                  have hgd : good x.bad (natsI A.vs) = natsI A.vs := good_all _ _ (fun k hk => by
                    cases hb : x.bad k with
                    | false => rfl
                    | true =>
                      have h1 := h.sl.bad k hb
                      have h2 := h.nf.1
                      rw [hfl] at h2
                      unfold nfail at h2
                      have h3 := List.length_eq_zero_iff.1 h2
                      have : k ∈ (natsI A.vs).filter fun k => (x.S.b k).failed := List.mem_filter.2 ⟨hk, h1⟩
                      rw [h3] at this; cases this)
                  have hl : (natsI A.vs).length = k := by rw [natsI_length, hvs, HNl.out]
                  have h1 := Blocks_any h.med h.st (by have := h.ok.1; rw [natsI_length]; omega) hlt
                  rw [hgd, hl, hvs] at h1
                  exact h1.mono fun e w' ⟨g, r, c', h2, h3, h4, h5⟩ => ⟨g, c', by rw [h2, h3], by rw [h3] at h4; exact h4, h5⟩
                clear HS h hoff hfl hnb hX
                go_wp2_with fail
                go_loopw [15] (fun v wr => ∃ b : Nat, v = .int .i64 b ∧ b ≤ 6 ∧ wr = W0) (fun v _ => 6 - (intOf v).toNat)
                case atStart => exact ⟨0, rfl, by omega, rfl⟩
                case round =>
                  obtain ⟨b, rfl, hb, rfl⟩ := hrel
                  by_cases hb6 : b < 6
                  · have cs := HRg.out.cell b
                    rw [HBc.out, boolRow_get _ _ hb6] at cs
                    have hSb := HSeen.out b hb6
                    obtain ⟨sb, hsb⟩ : ∃ sb, sb = seenA vs k b := ⟨_, rfl⟩
                    rw [← hsb] at cs hSb
                    have HSb := Lib.hid hSb
                    clear hsb hSb
                    cases sb with
                    | true =>
                      go_wp2
                      go_roundw
                      case rel => exact ⟨b + 1, by go_num, by omega, by first | trivial | rfl⟩
                      case measure => simp [intOf]; omega
                    | false =>
                      have ho := HW.out.out b (fun hm => by rw [HVs.out] at hm; have := HSb.out.2 hm; cases this)
                      have hN := HNx.out b hb6
                      rw [ho.1, ho.2] at hN
                      simp only [Bool.false_eq_true, if_false, Int.natCast_zero] at hN
                      have HN := Lib.hid hN
                      clear ho hN
                      go_wp2_with fail
                      refine HN.out.mono ?_
                      rintro e w7 ⟨rfl, rfl⟩
                      clear HN
                      go_wp2
                      go_roundw
                      case rel => exact ⟨b + 1, by go_num, by omega, by first | trivial | rfl⟩
                      case measure => simp [intOf]; omega
                  · obtain rfl : b = 6 := by omega
                    go_wp2_with fail
                    refine HBl.out.mono ?_
                    rintro e w7 ⟨g2, c2, rfl, ho, hb7⟩
                    have HR7 : Hid (Row w7 g 4 bcs) := HRg.out.below hb7 HRg.out.lt
                    obtain ⟨_, cur, hcr, _, hcc, hcm, hct⟩ := own_row ho
                    have HC2 : Hid (∀ i, i < k → w7.cell? ⟨g2, i, none⟩ = some (.int .i64 ((natsI vs).getD i 0 : Nat))) := fun i hi => by
                      have hl : i < (natsI vs).length := by rw [natsI_length, ← HNl.out]; exact hi
                      have h1 := ho.cells (g := g2) rfl i _ (natsV_get (natsI vs) i hl)
                      rwa [addr_add, Nat.zero_add] at h1
                    have HB7 : Hid (Below w0.heap.size w0 w7) := HW.out.bel.trans (hb7.mono HW.out.bel.size)
                    have HLt : Hid (∀ i, i < k → (natsI vs).getD i 0 < 6 ∧ (natsI vs).getD i 0 ∈ natsI vs) := fun i hi => by
                      have hm := getD_in (natsI vs) i (by rw [natsI_length, ← HNl.out]; exact hi)
                      have h1 := (mem_natsI (fun y hy => (HOn.out.2.2 y hy).1) _).1 hm
                      have h2 := (HOn.out.2.2 _ h1).2
                      exact ⟨by omega, hm⟩
                    have HUp : Hid (∀ i j, i < j → j < k → (natsI vs).getD i 0 < (natsI vs).getD j 0) := fun i j hij hj => by
                      have h1 := natsI_lt (fun y hy => (HOn.out.2.2 y hy).1) HOn.out.2.1
                      have hl : (natsI vs).length = k := by rw [natsI_length, HNl.out]
                      have := List.pairwise_iff_getElem.1 h1 i j (by omega) (by omega) hij
                      rw [List.getD_eq_getElem?_getD, List.getElem?_eq_getElem (by omega), List.getD_eq_getElem?_getD, List.getElem?_eq_getElem (by omega)]
                      exact this
                    clear ho hb7 hcr hcm hct HBl HNx HRg HW
                    go_wp2
                    go_loopw [17] (fun v wr => ∃ i : Nat, v = .int .i64 i ∧ i ≤ k ∧ Below w7.heap.size w7 wr) (fun v _ => k - (intOf v).toNat)
                    case atStart => exact ⟨0, rfl, by omega, Below.refl _ _⟩
                    case round =>
                      obtain ⟨i, rfl, hi, hb⟩ := hrel
                      have HB := Lib.hid hb
                      by_cases hik : i < k
                      · obtain ⟨hl6, hlm⟩ := HLt.out i hik
                        have q0 := keep_below hb _ _ (HC2.out i hik)
                        obtain ⟨li, hli⟩ : ∃ li, li = (natsI vs).getD i 0 := ⟨_, rfl⟩
                        rw [← hli] at hl6 hlm q0
                        have cs := keep_below hb _ _ ((HR7.out.cell li).trans (by rw [HBc.out, boolRow_get _ _ hl6, (HSeen.out li hl6).2 hlm]))
                        have HLi := Lib.hid hli
                        cases i with
                        | zero =>
                          clear hli hlm hb
                          go_wp2_with fail
                          go_quiet (fail)
                          clear q0 cs
                          go_wp2_with fail
                          exact ⟨⟨1, rfl, by omega, below_drewN0 HB.out _⟩, by simp [intOf]; omega⟩
                        | succ i =>
                          have q1 := keep_below hb _ _ (HC2.out i (by omega))
                          have hup := HUp.out i (i + 1) (by omega) hik
                          rw [← hli] at hup
                          obtain ⟨lj, hlj⟩ : ∃ lj, lj = (natsI vs).getD i 0 := ⟨_, rfl⟩
                          rw [← hlj] at q1 hup
                          clear hli hlm hb hlj
                          go_wp2_with fail
                          go_quiet (fail)
                          clear q0 cs
                          go_wp2_with fail
                          exact ⟨⟨i + 1 + 1, by go_num, by omega, below_drewN0 HB.out _⟩, by simp [intOf]; omega⟩
                      · obtain rfl : i = k := by omega
                        go_wp2
                        go_ret
                        exact ⟨by first | rfl | (simp; done), HB7.out.trans (HB.out.mono HB7.out.size)⟩
    · go_wp2
      go_ret
      exact ⟨rfl, HB2.out⟩
end Go.Proofs.YthjomnaejhehoaaGreatDoor
