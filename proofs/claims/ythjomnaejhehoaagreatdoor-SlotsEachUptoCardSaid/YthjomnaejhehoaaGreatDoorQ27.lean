/- What follows is laid together from several texts of mine, in their order. -/
import Derived.Test.YthjomnaejhehoaaGreatDoorQ26
import Derived.StillTailTactics
import Derived.Test.YthjomnaejhehoaaGreatDoorQ25

namespace Go.Proofs.YthjomnaejhehoaaGreatDoor
open Go.RowKit Go.MapKept Go.ChangeMaps
set_option linter.unusedVariables false
set_option linter.unusedSimpArgs false

/-- A region that draws, whose first n operations leave the world alone: in the order of the text, the draw outermost. -/
theorem region_tail {P : Program} {id : Nat} {Q : Exit → Act → World → Prop} {a : Act} {w : World} {l : List Oper} (n : Nat) (hm : P.follows .mixedOrders = true) (hB : Region.lexTailB .any l.toArray n = true)
    (h : ∀ u : World, u = w.drew → wpStill P l.toArray u (fun a' => wpList P l.toArray Q (l.drop n) a' u) (l.take n) a) : (Code.region id l.toArray true).wp P Q a w :=
  wp_region_still_tail n hm hB (h _ rfl)

section
variable {w0 w : World} {A : Ad} {x : X9}
set_option maxRecDepth 100000 in
set_option maxHeartbeats 4000000 in
theorem step_other (h : W9 w0 w A x) (hU : x.U = x.V) (hopn : x.op = false) (hoff : x.S.off = false) (hq : x.q + 1 < 9223372036854775808) (a : Ac) (hA : AcAt w0 a) (hks : a.ks.length ≤ 16384) (hvss : a.vss.length ≤ 16384 ∧ ∀ y ∈ a.vss, y.length ≤ 16384) (hop : a.op ≠ 1 ∧ a.op ≠ 2 ∧ a.op ≠ 3 ∧ a.op ≠ 4 ∧ a.op ≠ 5) :
    Calls Tryz.prog 17 #[.pointer (some ⟨A.W, 0, none⟩), .agg a.vs.toArray] w (StepL w0 A x (a.op ≤ 2)) := by
  obtain ⟨op, Ak, ck, ks, Av, cv, vss, n⟩ := a
  unfold Ac.vs
  dsimp only at hop hks hvss hA ⊢
  skip
  obtain ⟨nk, hnk⟩ : ∃ nk, nk = ks.length := ⟨_, rfl⟩
  obtain ⟨nv, hnv⟩ : ∃ nv, nv = vss.length := ⟨_, rfl⟩
  have HNk := Lib.hid (And.intro hnk hnv)
  rw [← hnk, ← hnv]
  obtain ⟨w1, hw1⟩ : ∃ w1, w1 = w.alloc (.cells #[.int .i64 op, .slice Ak nk ck, .slice Av nv cv, .int .i64 n] 56) := ⟨_, rfl⟩
  have HB1 : Hid (Below w.heap.size w w1) := by unfold Hid; rw [hw1]; exact (Below.refl _ _).alloc (Nat.le_refl _) _
  have HW1 := Lib.hid hw1
  have HD := Lib.hid (h.below HB1.out)
  have HA := Lib.hid hA
  have HU := Lib.hid (And.intro hU (And.intro hopn (And.intro hoff (And.intro hq (And.intro hks hvss)))))
  clear h hA hU hopn hoff hq hks hvss hw1 hnk hnv
  obtain ⟨o1, o2, o3, o4, o5⟩ := hop
  go_enter Tryz.func17, Tryz.ntmps17
  go_wp2
  rw [← HW1.out]
  go_ret
  exact StepL.none HD.out HU.out.1 HU.out.2.1 HU.out.2.2.1
set_option maxRecDepth 100000 in
set_option maxHeartbeats 4000000 in
theorem step_all (h : W9 w0 w A x) (hU : x.U = x.V) (hopn : x.op = false) (hoff : x.S.off = false) (hq : x.q + 1 < 9223372036854775808) (a : Ac) (hA : AcAt w0 a) (hks : a.ks.length ≤ 16384) (hvss : a.vss.length ≤ 16384 ∧ ∀ y ∈ a.vss, y.length ≤ 16384) (hop : a.op = 1) :
    Calls Tryz.prog 17 #[.pointer (some ⟨A.W, 0, none⟩), .agg a.vs.toArray] w (StepL w0 A x (a.op ≤ 2)) := by
  obtain ⟨op, Ak, ck, ks, Av, cv, vss, n⟩ := a
  unfold Ac.vs
  dsimp only at hop hks hvss hA ⊢
  subst hop
  obtain ⟨nk, hnk⟩ : ∃ nk, nk = ks.length := ⟨_, rfl⟩
  obtain ⟨nv, hnv⟩ : ∃ nv, nv = vss.length := ⟨_, rfl⟩
  have HNk := Lib.hid (And.intro hnk hnv)
  rw [← hnk, ← hnv]
  obtain ⟨w1, hw1⟩ : ∃ w1, w1 = w.alloc (.cells #[.int .i64 1, .slice Ak nk ck, .slice Av nv cv, .int .i64 n] 56) := ⟨_, rfl⟩
  have HB1 : Hid (Below w.heap.size w w1) := by unfold Hid; rw [hw1]; exact (Below.refl _ _).alloc (Nat.le_refl _) _
  have HW1 := Lib.hid hw1
  have HD := Lib.hid (h.below HB1.out)
  have HA := Lib.hid hA
  have HU := Lib.hid (And.intro hU (And.intro hopn (And.intro hoff (And.intro hq (And.intro hks hvss)))))
  clear h hA hU hopn hoff hq hks hvss hw1 hnk hnv
  have HPu : Hid (Calls Tryz.prog 11 #[.pointer (some ⟨A.W, 0, none⟩), .slice Ak nk ck, .slice Av nv cv, .bool false] w1 (PutL w0 A x)) := by
    rw [HNk.out.1, HNk.out.2]
    exact lput_any HD.out HU.out.1 HU.out.2.1 HU.out.2.2.1 HU.out.2.2.2.1 Ak ck ks (HA.out.ks.keep (keep_below HD.out.bel)) (by have := HU.out.2.2.2.2.1; omega) Av cv vss (HA.out.vs.keep (keep_below HD.out.bel)) (by have := HU.out.2.2.2.2.2.1; omega) (fun y hy => ⟨HA.out.small y hy, by have := HU.out.2.2.2.2.2.2 y hy; omega⟩) false (by simp) (by simp)
  go_enter Tryz.func17, Tryz.ntmps17
  go_wp2_with fail
  rw [← HW1.out]
  refine HPu.out.mono ?_
  rintro e w2 hp
  obtain ⟨rfl, -⟩ := id hp
  have HP : Hid (∀ lo, StepL w0 A x lo (.returned (.bool true)) w2) := fun lo => PutL.step hp
  clear hp HPu
  go_wp2_with fail
  go_ret
  exact HP.out _
theorem cells_take {w : World} {A : Option Addr} {ks : List Int} (h : CellsI w A ks) (h0 : 0 < ks.length) : CellsI w A (ks.take 1) := fun i hi => by
  obtain rfl : i = 0 := by rw [List.length_take] at hi; omega
  obtain ⟨b, off, e, hc⟩ := h 0 h0
  refine ⟨b, off, e, ?_⟩
  rw [hc]
  cases ks with
  | nil => simp at h0
  | cons k r => rfl
theorem svs_take {w : World} {A : Option Addr} {vss : List (List Nat)} (h : SvIs w A vss) (h0 : 0 < vss.length) : SvIs w A (vss.take 1) := fun i hi => by
  obtain rfl : i = 0 := by rw [List.length_take] at hi; omega
  have h1 := h 0 h0
  cases vss with
  | nil => simp at h0
  | cons k r => exact h1
set_option maxRecDepth 100000 in
set_option maxHeartbeats 4000000 in
theorem step_one (h : W9 w0 w A x) (hU : x.U = x.V) (hopn : x.op = false) (hoff : x.S.off = false) (hq : x.q + 1 < 9223372036854775808) (a : Ac) (hA : AcAt w0 a) (hks : a.ks.length ≤ 16384) (hvss : a.vss.length ≤ 16384 ∧ ∀ y ∈ a.vss, y.length ≤ 16384) (hop : a.op = 2) :
    Calls Tryz.prog 17 #[.pointer (some ⟨A.W, 0, none⟩), .agg a.vs.toArray] w (StepL w0 A x (a.op ≤ 2)) := by
  obtain ⟨op, Ak, ck, ks, Av, cv, vss, n⟩ := a
  unfold Ac.vs
  dsimp only at hop hks hvss hA ⊢
  subst hop
  obtain ⟨nk, hnk⟩ : ∃ nk, nk = ks.length := ⟨_, rfl⟩
  obtain ⟨nv, hnv⟩ : ∃ nv, nv = vss.length := ⟨_, rfl⟩
  have HNk := Lib.hid (And.intro hnk hnv)
  rw [← hnk, ← hnv]
  obtain ⟨w1, hw1⟩ : ∃ w1, w1 = w.alloc (.cells #[.int .i64 2, .slice Ak nk ck, .slice Av nv cv, .int .i64 n] 56) := ⟨_, rfl⟩
  have HB1 : Hid (Below w.heap.size w w1) := by unfold Hid; rw [hw1]; exact (Below.refl _ _).alloc (Nat.le_refl _) _
  have HW1 := Lib.hid hw1
  have HD := Lib.hid (h.below HB1.out)
  have HA := Lib.hid hA
  have HU := Lib.hid (And.intro hU (And.intro hopn (And.intro hoff (And.intro hq (And.intro hks hvss)))))
  clear h hA hU hopn hoff hq hks hvss hw1 hnk hnv
  obtain ⟨⟨ck1, ck2⟩, ⟨cv1, cv2⟩⟩ : (nk ≤ ck ∧ ck ≤ maxLen) ∧ (nv ≤ cv ∧ cv ≤ maxLen) := ⟨by rw [HNk.out.1]; exact HA.out.ck, by rw [HNk.out.2]; exact HA.out.cv⟩
  by_cases h1 : 0 < nk
  · by_cases h2 : 0 < nv
    · obtain ⟨kb, ko, eK, -⟩ := HA.out.ks 0 (by have := HNk.out.1; dsimp only; omega)
      obtain ⟨vb, vo, -, -, eV, -⟩ := HA.out.vs 0 (by have := HNk.out.2; dsimp only; omega)
      dsimp only at eK eV
      subst eK eV
      have hc1 : 1 ≤ ck := by omega
      have hc2 : 1 ≤ cv := by omega
      have hc3 : (1 : Int) ≤ ck := by omega
      have hc4 : (1 : Int) ≤ cv := by omega
      have hX : Row w1 w.heap.size 56 #[.int .i64 2, .slice (some ⟨kb, ko, none⟩) nk ck, .slice (some ⟨vb, vo, none⟩) nv cv, .int .i64 n] := by rw [HW1.out]; exact Row.fresh _ _ _
      have HPu : Hid (∀ W', Below w1.heap.size w1 W' → Calls Tryz.prog 11 #[.pointer (some ⟨A.W, 0, none⟩), .slice (some ⟨kb, ko, none⟩) 1 ck, .slice (some ⟨vb, vo, none⟩) 1 cv, .bool true] W' (PutL w0 A x)) := fun W' hb => by
        have hDb := HD.out.below hb
        have e1 : (ks.take 1).length = 1 := by rw [List.length_take]; have := HNk.out.1; omega
        have e2 : (vss.take 1).length = 1 := by rw [List.length_take]; have := HNk.out.2; omega
        have hk0 : 0 < ks.length := by have := HNk.out.1; omega
        have hv0 : 0 < vss.length := by have := HNk.out.2; omega
        have := lput_any hDb HU.out.1 HU.out.2.1 HU.out.2.2.1 HU.out.2.2.2.1 _ ck (ks.take 1) (cells_take (HA.out.ks.keep (keep_below hDb.bel)) hk0) (by omega) _ cv (vss.take 1) (svs_take (HA.out.vs.keep (keep_below hDb.bel)) hv0) (by omega) (fun y hy => ⟨HA.out.small y (List.mem_of_mem_take hy), by have := HU.out.2.2.2.2.2.2 y (List.mem_of_mem_take hy); omega⟩) true (fun _ => ⟨e1, e2⟩)
          (fun _ => ⟨fun g o e hg => by
            have h3 := HA.out.ks.lt hk0 g o e
            rcases List.mem_cons.1 hg with e4 | hg
            · have := hDb.st.hS; omega
            · have := hDb.med.at_least g hg; omega, fun g o e hg => by
            have h3 := HA.out.vs.lt hv0 g o e
            rcases List.mem_cons.1 hg with e4 | hg
            · have := hDb.st.hS; omega
            · have := hDb.med.at_least g hg; omega⟩)
        rw [e1, e2] at this
        exact this
      have x1 := hX.cell 1
      have x2 := hX.cell 2
      simp only [List.getElem?_toArray, List.getElem?_cons_zero, List.getElem?_cons_succ] at x1 x2
      clear hX
      go_enter Tryz.func17, Tryz.ntmps17
      go_wp2
      rw [← HW1.out]
      refine region_tail 7 (by kernel_rfl) (by kernel_rfl) (fun U hU => ?_)
      simp only [List.take_succ_cons, List.take_zero, List.drop_succ_cons, List.drop_zero]
      have HPU : Hid (Calls Tryz.prog 11 #[.pointer (some ⟨A.W, 0, none⟩), .slice (some ⟨kb, ko, none⟩) 1 ck, .slice (some ⟨vb, vo, none⟩) 1 cv, .bool true] U (PutL w0 A x)) := by rw [hU]; exact HPu.out _ (Below.refl _ _).drew
      have u1 : U.cell? ⟨w.heap.size, 1, none⟩ = some (.slice (some ⟨kb, ko, none⟩) nk ck) := by rw [hU]; exact x1
      have u2 : U.cell? ⟨w.heap.size, 2, none⟩ = some (.slice (some ⟨vb, vo, none⟩) nv cv) := by rw [hU]; exact x2
      clear hU HPu x1 x2
      repeat still_step
      refine wpStill_nil ?_
      go_wp2_with fail
      refine HPU.out.mono ?_
      rintro e w2 hp
      obtain ⟨rfl, -⟩ := id hp
      have HP : Hid (∀ lo, StepL w0 A x lo (.returned (.bool true)) w2) := fun lo => PutL.step hp
      clear hp HPU u1 u2
      go_wp2
      go_ret
      exact HP.out _
    · obtain rfl : nv = 0 := by omega
      go_enter Tryz.func17, Tryz.ntmps17
      go_wp2
      rw [← HW1.out]
      go_ret
      exact StepL.none HD.out HU.out.1 HU.out.2.1 HU.out.2.2.1
  · obtain rfl : nk = 0 := by omega
    go_enter Tryz.func17, Tryz.ntmps17
    go_wp2
    rw [← HW1.out]
    go_ret
    exact StepL.none HD.out HU.out.1 HU.out.2.1 HU.out.2.2.1
set_option maxRecDepth 100000 in
set_option maxHeartbeats 4000000 in
theorem step_arm (h : W9 w0 w A x) (hU : x.U = x.V) (hopn : x.op = false) (hoff : x.S.off = false) (hq : x.q + 1 < 9223372036854775808) (a : Ac) (hA : AcAt w0 a) (hks : a.ks.length ≤ 16384) (hvss : a.vss.length ≤ 16384 ∧ ∀ y ∈ a.vss, y.length ≤ 16384) (hop : a.op = 3) :
    Calls Tryz.prog 17 #[.pointer (some ⟨A.W, 0, none⟩), .agg a.vs.toArray] w (StepL w0 A x (a.op ≤ 2)) := by
  obtain ⟨op, Ak, ck, ks, Av, cv, vss, n⟩ := a
  unfold Ac.vs
  dsimp only at hop hks hvss hA ⊢
  subst hop
  obtain ⟨nk, hnk⟩ : ∃ nk, nk = ks.length := ⟨_, rfl⟩
  obtain ⟨nv, hnv⟩ : ∃ nv, nv = vss.length := ⟨_, rfl⟩
  have HNk := Lib.hid (And.intro hnk hnv)
  rw [← hnk, ← hnv]
  obtain ⟨w1, hw1⟩ : ∃ w1, w1 = w.alloc (.cells #[.int .i64 3, .slice Ak nk ck, .slice Av nv cv, .int .i64 n] 56) := ⟨_, rfl⟩
  have HB1 : Hid (Below w.heap.size w w1) := by unfold Hid; rw [hw1]; exact (Below.refl _ _).alloc (Nat.le_refl _) _
  have HW1 := Lib.hid hw1
  have HD := Lib.hid (h.below HB1.out)
  have HA := Lib.hid hA
  have HU := Lib.hid (And.intro hU (And.intro hopn (And.intro hoff (And.intro hq (And.intro hks hvss)))))
  clear h hA hU hopn hoff hq hks hvss hw1 hnk hnv
  have hX : Row w1 w.heap.size 56 #[.int .i64 3, .slice Ak nk ck, .slice Av nv cv, .int .i64 n] := by rw [HW1.out]; exact Row.fresh _ _ _
  have x3 := hX.cell 3
  have x0 := HD.out.cells.1
  simp only [List.getElem?_toArray, List.getElem?_cons_zero, List.getElem?_cons_succ] at x3
  clear hX
  go_enter Tryz.func17, Tryz.ntmps17
  go_wp2
  rw [← HW1.out]
  refine region_tail 8 (by kernel_rfl) (by kernel_rfl) (fun U hU => ?_)
  simp only [List.take_succ_cons, List.take_zero, List.drop_succ_cons, List.drop_zero]
  have HAr := Lib.hid ((show W9 w0 U A x by rw [hU]; exact HD.out.below (Below.refl _ _).drew).arm n (by have h1 := HA.out.n.2; dsimp only at h1; omega))
  have u3 : U.cell? ⟨w.heap.size, 3, none⟩ = some (.int .i64 n) := by rw [hU]; exact x3
  have u0 : U.cell? ⟨A.W, 0, none⟩ = some (.pointer (some ⟨A.F, 0, none⟩)) := by rw [hU]; exact x0
  clear hU x3 x0
  repeat still_step
  refine wpStill_nil ?_
  go_wp2_with fail
  refine HAr.out.mono ?_
  rintro e w2 ⟨rfl, h2, -⟩
  have H2 := Lib.hid h2
  clear h2 HAr u3 u0
  go_wp2
  go_ret
  exact ⟨rfl, A, _, H2.out, HU.out.1, Nat.le_succ _, HU.out.2.1, HU.out.2.2.1, rfl, rfl, rfl, rfl, rfl, rfl, rfl, fun h => absurd h (by decide)⟩
set_option maxRecDepth 100000 in
set_option maxHeartbeats 4000000 in
theorem step_cut4 (h : W9 w0 w A x) (hU : x.U = x.V) (hopn : x.op = false) (hoff : x.S.off = false) (hq : x.q + 1 < 9223372036854775808) (a : Ac) (hA : AcAt w0 a) (hks : a.ks.length ≤ 16384) (hvss : a.vss.length ≤ 16384 ∧ ∀ y ∈ a.vss, y.length ≤ 16384) (hop : a.op = 4) :
    Calls Tryz.prog 17 #[.pointer (some ⟨A.W, 0, none⟩), .agg a.vs.toArray] w (StepL w0 A x (a.op ≤ 2)) := by
  obtain ⟨op, Ak, ck, ks, Av, cv, vss, n⟩ := a
  unfold Ac.vs
  dsimp only at hop hks hvss hA ⊢
  subst hop
  obtain ⟨nk, hnk⟩ : ∃ nk, nk = ks.length := ⟨_, rfl⟩
  obtain ⟨nv, hnv⟩ : ∃ nv, nv = vss.length := ⟨_, rfl⟩
  have HNk := Lib.hid (And.intro hnk hnv)
  rw [← hnk, ← hnv]
  obtain ⟨w1, hw1⟩ : ∃ w1, w1 = w.alloc (.cells #[.int .i64 4, .slice Ak nk ck, .slice Av nv cv, .int .i64 n] 56) := ⟨_, rfl⟩
  have HB1 : Hid (Below w.heap.size w w1) := by unfold Hid; rw [hw1]; exact (Below.refl _ _).alloc (Nat.le_refl _) _
  have HW1 := Lib.hid hw1
  have HD := Lib.hid (h.below HB1.out)
  have HA := Lib.hid hA
  have HU := Lib.hid (And.intro hU (And.intro hopn (And.intro hoff (And.intro hq (And.intro hks hvss)))))
  clear h hA hU hopn hoff hq hks hvss hw1 hnk hnv
  have x0 := HD.out.cells.1
  have HCu := Lib.hid HD.out.cut
  rw [HW1.out] at x0
  go_enter Tryz.func17, Tryz.ntmps17
  go_wp2_with fail
  rw [← HW1.out]
  refine HCu.out.mono ?_
  rintro e w2 ⟨rfl, h2, -⟩
  have HBk : Hid (Calls Tryz.prog 13 #[.pointer (some ⟨A.W, 0, none⟩)] w2 (BackPost w0 A { x with S := { x.S with off := true, armed := 0 } })) := back_any h2 HU.out.1 (fun ho => by have := HU.out.2.1; dsimp only at ho; rw [this] at ho; cases ho)
  clear h2 HCu x0
  go_wp2_with fail
  refine HBk.out.mono ?_
  rintro e w3 hp
  obtain ⟨rfl, -⟩ := id hp
  have HP : Hid (∀ lo, ¬ lo → StepL w0 A x lo (.returned (.bool true)) w3) := fun lo hlo => (show BackPost w0 A x _ w3 from hp).step hlo
  clear hp HBk
  go_wp2
  go_ret
  exact HP.out _ (by decide)
end
end Go.Proofs.YthjomnaejhehoaaGreatDoor

namespace Go.Proofs.YthjomnaejhehoaaGreatDoor
open Go.RowKit Go.MapKept Go.ChangeMaps
set_option linter.unusedVariables false
set_option linter.unusedSimpArgs false

theorem tmod_abs (n : Int) (m : Nat) (hm : 0 < m) : ∃ k : Nat, k < m ∧ (n.tmod m = k ∨ (0 < k ∧ n.tmod m = -(k : Int))) := by
  have h1 : (n.tmod m).natAbs < m := by rw [Int.natAbs_tmod]; exact Nat.mod_lt _ (by simpa using hm)
  exact ⟨(n.tmod m).natAbs, h1, by omega⟩
section
variable {w0 w : World} {A : Ad} {x : X9}
set_option maxRecDepth 100000 in
set_option maxHeartbeats 4000000 in
theorem step_fail (h : W9 w0 w A x) (hU : x.U = x.V) (hopn : x.op = false) (hoff : x.S.off = false) (hq : x.q + 1 < 9223372036854775808) (a : Ac) (hA : AcAt w0 a) (hks : a.ks.length ≤ 16384) (hvss : a.vss.length ≤ 16384 ∧ ∀ y ∈ a.vss, y.length ≤ 16384) (hop : a.op = 5) :
    Calls Tryz.prog 17 #[.pointer (some ⟨A.W, 0, none⟩), .agg a.vs.toArray] w (StepL w0 A x (a.op ≤ 2)) := by
  obtain ⟨op, Ak, ck, ks, Av, cv, vss, n⟩ := a
  unfold Ac.vs
  dsimp only at hop hks hvss hA ⊢
  subst hop
  obtain ⟨nk, hnk⟩ : ∃ nk, nk = ks.length := ⟨_, rfl⟩
  obtain ⟨nv, hnv⟩ : ∃ nv, nv = vss.length := ⟨_, rfl⟩
  have HNk := Lib.hid (And.intro hnk hnv)
  rw [← hnk, ← hnv]
  obtain ⟨w1, hw1⟩ : ∃ w1, w1 = w.alloc (.cells #[.int .i64 5, .slice Ak nk ck, .slice Av nv cv, .int .i64 n] 56) := ⟨_, rfl⟩
  have HB1 : Hid (Below w.heap.size w w1) := by unfold Hid; rw [hw1]; exact (Below.refl _ _).alloc (Nat.le_refl _) _
  have HW1 := Lib.hid hw1
  have HD := Lib.hid (h.below HB1.out)
  have HA := Lib.hid hA
  have HU := Lib.hid (And.intro hU (And.intro hopn (And.intro hoff (And.intro hq (And.intro hks hvss)))))
  clear h hA hU hopn hoff hq hks hvss hw1 hnk hnv
  have hX : Row w1 w.heap.size 56 #[.int .i64 5, .slice Ak nk ck, .slice Av nv cv, .int .i64 n] := by rw [HW1.out]; exact Row.fresh _ _ _
  have x3 := hX.cell 3
  simp only [List.getElem?_toArray, List.getElem?_cons_zero, List.getElem?_cons_succ] at x3
  obtain ⟨c0, -, -, c3, -, -, -, c7⟩ := HD.out.cells
  obtain ⟨m, hm⟩ : ∃ m, m = A.vs.length := ⟨_, rfl⟩
  obtain ⟨fl, hfl⟩ : ∃ fl, fl = x.fail := ⟨_, rfl⟩
  have HM := Lib.hid (And.intro hm hfl)
  rw [← hm] at c3
  rw [← hfl] at c7
  obtain ⟨hm3, hm4, hfl2⟩ : 3 ≤ m ∧ m ≤ 1024 ∧ fl + 2 ≤ m := ⟨by rw [hm]; exact HD.out.ok.1, by rw [hm]; exact HD.out.few, by rw [hm, hfl]; exact HD.out.nf.2⟩
  obtain ⟨k, hk, hr⟩ := tmod_abs n m (by omega)
  obtain ⟨b, off, eA, hc⟩ := HD.out.ls k (by rw [← hm]; exact hk)
  have hmem : A.vs.getD k 0 ∈ A.vs := by rw [List.getD_eq_getElem?_getD, List.getElem?_eq_getElem (by omega)]; exact List.getElem_mem _
  obtain ⟨hv0, hv1⟩ := HD.out.ok.2.2 _ hmem
  obtain ⟨bk, hbk⟩ : ∃ bk : Nat, A.vs.getD k 0 = bk := ⟨(A.vs.getD k 0).toNat, by omega⟩
  rw [hbk] at hc hmem hv1
  rw [eA] at c3
  have HBk : Hid (bk ∈ natsI A.vs ∧ bk < x.S.nb) := ⟨(mem_natsI (fun y hy => (HD.out.ok.2.2 y hy).1) bk).2 hmem, by omega⟩
  clear hX hm hfl eA hmem hv0 hv1 hbk
  rw [HW1.out] at x3 c0 c3 c7 hc
  rcases hr with hr | ⟨hk0, hr⟩
  · go_enter Tryz.func17, Tryz.ntmps17
    go_wp2
    go_quiet (fail)
    go_wp2_with fail
    rw [← HW1.out]
    obtain ⟨u0, hu0⟩ : ∃ u0, u0 = w1.drewN nq := ⟨_, rfl⟩
    rw [← hu0]
    have HD0 : Hid (W9 w0 u0 A x) := by unfold Hid; rw [hu0]; exact HD.out.drewN _
    have d0 : u0.cell? ⟨A.W, 0, none⟩ = some (.pointer (some ⟨A.F, 0, none⟩)) := HD0.out.cells.1
    have d3 : u0.cell? ⟨A.W, 3, none⟩ = some (.slice (some ⟨b, off, none⟩) m A.cl) := by rw [hu0, HW1.out]; exact c3
    have d7 : u0.cell? ⟨A.W, 7, none⟩ = some (.int .i64 fl) := by rw [hu0, HW1.out]; exact c7
    have dc : u0.cell? ⟨b, off + k, none⟩ = some (.int .i64 bk) := by rw [hu0, HW1.out]; exact hc
    clear hu0 x3 c0 c3 c7 hc hr
    by_cases hroom : fl + 3 ≤ m
    · have hw : IntKind.i64.wrap ((m : Int) - fl) = (m : Int) - fl := by rw [IntKind.wrap_i64]; omega
      have hw2 : (2 : Int) < (m : Int) - fl := by omega
      have hw3 : decide ((2 : Int) < (m : Int) - fl) = true := decide_eq_true hw2
      have HFa : Hid (∀ j, Calls Tryz.prog 35 #[.pointer (some ⟨A.F, 0, none⟩), .int .i64 bk] (u0.drewN j) fun e w' => e = .returned (.bool (x.S.b bk).failed) ∧ u0.drewN j = w') := fun j => Failed_any (HD0.out.drewN j).med.fl bk HBk.out.2
      obtain ⟨ff, hff⟩ : ∃ ff, ff = (x.S.b bk).failed := ⟨_, rfl⟩
      have HFF := Lib.hid hff
      rw [← hff] at HFa
      clear hff
      cases ff with
      | true =>
        go_quiet ((go_at_call 35; exact Calls.quiet_of_same ((HFa.out _).mono fun e w' h => ⟨h.1, h.2.symm⟩)))
        go_wp2_with fail
        go_ret
        exact StepL.none (HD0.out.drewN _) HU.out.1 HU.out.2.1 HU.out.2.2.1
      | false =>
        go_quiet ((go_at_call 35; exact Calls.quiet_of_same ((HFa.out _).mono fun e w' h => ⟨h.1, h.2.symm⟩)))
        go_wp2_with fail
        refine region_tail 11 (by kernel_rfl) (by kernel_rfl) (fun U hU => ?_)
        simp only [List.take_succ_cons, List.take_zero, List.drop_succ_cons, List.drop_zero]
        have HDU : Hid (W9 w0 U A x) := by unfold Hid; rw [hU]; exact (HD0.out.drewN _).below (Below.refl _ _).drew
        have HFl := Lib.hid (Fail_in HDU.out.med.fl bk HBk.out.2)
        have e0 : U.cell? ⟨A.W, 0, none⟩ = some (.pointer (some ⟨A.F, 0, none⟩)) := by rw [hU]; exact d0
        have e3 : U.cell? ⟨A.W, 3, none⟩ = some (.slice (some ⟨b, off, none⟩) m A.cl) := by rw [hU]; exact d3
        have ec : U.cell? ⟨b, off + k, none⟩ = some (.int .i64 bk) := by rw [hU]; exact dc
        have e7 : U.cell? ⟨A.W, 7, none⟩ = some (.int .i64 fl) := by rw [hU]; exact d7
        clear hU d0 d3 dc d7 HFa hw hw2 hw3
        repeat still_step
        refine wpStill_nil ?_
        go_wp2_with fail
        refine HFl.out.mono ?_
        rintro e w2 ⟨rfl, hf2, ht2⟩
        have h2 := HDU.out.fail HBk.out.1 HFF.out.symm (by rw [← HM.out.1, ← HM.out.2]; exact hroom) hf2 ht2
        rw [← HM.out.2] at h2
        have H2 := Lib.hid h2
        have HWL : Hid (A.W ∉ [A.L]) := fun hm => HDU.out.med.no_row HDU.out.row (by decide) (by decide) (by decide) (by decide) (by rw [List.mem_singleton.1 hm]; exact mem_medT.2 (.inr (.inr (.inr (.inl rfl)))))
        have g7 : w2.cell? ⟨A.W, 7, none⟩ = some (.int .i64 fl) := ht2.cell e7 HWL.out
        have fz : w2.frozen? ⟨A.W, 7, none⟩ = false := (ht2.row HDU.out.row HWL.out).frozen 7
        have hwf : wrap64 ((fl : Int) + 1) = ((fl + 1 : Nat) : Int) := by unfold wrap64; omega
        have hwf2 : IntKind.i64.wrap ((fl : Int) + 1) = ((fl + 1 : Nat) : Int) := by rw [IntKind.wrap_i64]; omega
        clear hf2 ht2 h2 HFl e0 e3 ec e7
        go_wp2
        go_ret
        exact ⟨rfl, A, _, H2.out, HU.out.1, Nat.le_succ _, HU.out.2.1, HU.out.2.2.1, rfl, rfl, rfl, rfl, rfl, rfl, rfl, fun h => absurd h (by decide)⟩
    · have hw : IntKind.i64.wrap ((m : Int) - fl) = (m : Int) - fl := by rw [IntKind.wrap_i64]; omega
      have hw2 : ¬ (2 : Int) < (m : Int) - fl := by omega
      have hw3 : decide ((2 : Int) < (m : Int) - fl) = false := decide_eq_false hw2
      go_quiet (fail)
      go_wp2_with fail
      go_ret
      exact StepL.none (HD0.out.drewN _) HU.out.1 HU.out.2.1 HU.out.2.2.1
  · go_enter Tryz.func17, Tryz.ntmps17
    go_wp2
    go_quiet (fail)
    go_wp2_with fail
    rw [← HW1.out]
    obtain ⟨u0, hu0⟩ : ∃ u0, u0 = w1.drewN nq := ⟨_, rfl⟩
    rw [← hu0]
    have HD0 : Hid (W9 w0 u0 A x) := by unfold Hid; rw [hu0]; exact HD.out.drewN _
    have d0 : u0.cell? ⟨A.W, 0, none⟩ = some (.pointer (some ⟨A.F, 0, none⟩)) := HD0.out.cells.1
    have d3 : u0.cell? ⟨A.W, 3, none⟩ = some (.slice (some ⟨b, off, none⟩) m A.cl) := by rw [hu0, HW1.out]; exact c3
    have d7 : u0.cell? ⟨A.W, 7, none⟩ = some (.int .i64 fl) := by rw [hu0, HW1.out]; exact c7
    have dc : u0.cell? ⟨b, off + k, none⟩ = some (.int .i64 bk) := by rw [hu0, HW1.out]; exact hc
    clear hu0 x3 c0 c3 c7 hc hr
    by_cases hroom : fl + 3 ≤ m
    · have hw : IntKind.i64.wrap ((m : Int) - fl) = (m : Int) - fl := by rw [IntKind.wrap_i64]; omega
      have hw2 : (2 : Int) < (m : Int) - fl := by omega
      have hw3 : decide ((2 : Int) < (m : Int) - fl) = true := decide_eq_true hw2
      have HFa : Hid (∀ j, Calls Tryz.prog 35 #[.pointer (some ⟨A.F, 0, none⟩), .int .i64 bk] (u0.drewN j) fun e w' => e = .returned (.bool (x.S.b bk).failed) ∧ u0.drewN j = w') := fun j => Failed_any (HD0.out.drewN j).med.fl bk HBk.out.2
      obtain ⟨ff, hff⟩ : ∃ ff, ff = (x.S.b bk).failed := ⟨_, rfl⟩
      have HFF := Lib.hid hff
      rw [← hff] at HFa
      clear hff
      cases ff with
      | true =>
        go_quiet ((go_at_call 35; exact Calls.quiet_of_same ((HFa.out _).mono fun e w' h => ⟨h.1, h.2.symm⟩)))
        go_wp2_with fail
        go_ret
        exact StepL.none (HD0.out.drewN _) HU.out.1 HU.out.2.1 HU.out.2.2.1
      | false =>
        go_quiet ((go_at_call 35; exact Calls.quiet_of_same ((HFa.out _).mono fun e w' h => ⟨h.1, h.2.symm⟩)))
        go_wp2_with fail
        refine region_tail 11 (by kernel_rfl) (by kernel_rfl) (fun U hU => ?_)
        simp only [List.take_succ_cons, List.take_zero, List.drop_succ_cons, List.drop_zero]
        have HDU : Hid (W9 w0 U A x) := by unfold Hid; rw [hU]; exact (HD0.out.drewN _).below (Below.refl _ _).drew
        have HFl := Lib.hid (Fail_in HDU.out.med.fl bk HBk.out.2)
        have e0 : U.cell? ⟨A.W, 0, none⟩ = some (.pointer (some ⟨A.F, 0, none⟩)) := by rw [hU]; exact d0
        have e3 : U.cell? ⟨A.W, 3, none⟩ = some (.slice (some ⟨b, off, none⟩) m A.cl) := by rw [hU]; exact d3
        have ec : U.cell? ⟨b, off + k, none⟩ = some (.int .i64 bk) := by rw [hU]; exact dc
        have e7 : U.cell? ⟨A.W, 7, none⟩ = some (.int .i64 fl) := by rw [hU]; exact d7
        clear hU d0 d3 dc d7 HFa hw hw2 hw3
        repeat still_step
        refine wpStill_nil ?_
        go_wp2_with fail
        refine HFl.out.mono ?_
        rintro e w2 ⟨rfl, hf2, ht2⟩
        have h2 := HDU.out.fail HBk.out.1 HFF.out.symm (by rw [← HM.out.1, ← HM.out.2]; exact hroom) hf2 ht2
        rw [← HM.out.2] at h2
        have H2 := Lib.hid h2
        have HWL : Hid (A.W ∉ [A.L]) := fun hm => HDU.out.med.no_row HDU.out.row (by decide) (by decide) (by decide) (by decide) (by rw [List.mem_singleton.1 hm]; exact mem_medT.2 (.inr (.inr (.inr (.inl rfl)))))
        have g7 : w2.cell? ⟨A.W, 7, none⟩ = some (.int .i64 fl) := ht2.cell e7 HWL.out
        have fz : w2.frozen? ⟨A.W, 7, none⟩ = false := (ht2.row HDU.out.row HWL.out).frozen 7
        have hwf : wrap64 ((fl : Int) + 1) = ((fl + 1 : Nat) : Int) := by unfold wrap64; omega
        have hwf2 : IntKind.i64.wrap ((fl : Int) + 1) = ((fl + 1 : Nat) : Int) := by rw [IntKind.wrap_i64]; omega
        clear hf2 ht2 h2 HFl e0 e3 ec e7
        go_wp2
        go_ret
        exact ⟨rfl, A, _, H2.out, HU.out.1, Nat.le_succ _, HU.out.2.1, HU.out.2.2.1, rfl, rfl, rfl, rfl, rfl, rfl, rfl, fun h => absurd h (by decide)⟩
    · have hw : IntKind.i64.wrap ((m : Int) - fl) = (m : Int) - fl := by rw [IntKind.wrap_i64]; omega
      have hw2 : ¬ (2 : Int) < (m : Int) - fl := by omega
      have hw3 : decide ((2 : Int) < (m : Int) - fl) = false := decide_eq_false hw2
      go_quiet (fail)
      go_wp2_with fail
      go_ret
      exact StepL.none (HD0.out.drewN _) HU.out.1 HU.out.2.1 HU.out.2.2.1
/-- Any step of the law. -/
theorem step_any (h : W9 w0 w A x) (hU : x.U = x.V) (hopn : x.op = false) (hoff : x.S.off = false) (hq : x.q + 1 < 9223372036854775808) (a : Ac) (hA : AcAt w0 a) (hks : a.ks.length ≤ 16384) (hvss : a.vss.length ≤ 16384 ∧ ∀ y ∈ a.vss, y.length ≤ 16384) :
    Calls Tryz.prog 17 #[.pointer (some ⟨A.W, 0, none⟩), .agg a.vs.toArray] w (StepL w0 A x (a.op ≤ 2)) := by
  by_cases h1 : a.op = 1
  · exact step_all h hU hopn hoff hq a hA hks hvss h1
  · by_cases h2 : a.op = 2
    · exact step_one h hU hopn hoff hq a hA hks hvss h2
    · by_cases h3 : a.op = 3
      · exact step_arm h hU hopn hoff hq a hA hks hvss h3
      · by_cases h4 : a.op = 4
        · exact step_cut4 h hU hopn hoff hq a hA hks hvss h4
        · by_cases h5 : a.op = 5
          · exact step_fail h hU hopn hoff hq a hA hks hvss h5
          · exact step_other h hU hopn hoff hq a hA hks hvss ⟨h1, h2, h3, h4, h5⟩
end
end Go.Proofs.YthjomnaejhehoaaGreatDoor

namespace Go.Proofs.YthjomnaejhehoaaGreatDoor
open Go.RowKit Go.MapKept Go.ChangeMaps
set_option linter.unusedVariables false
set_option linter.unusedSimpArgs false

theorem acsN_take (acs : List Ac) (i : Nat) (a : Ac) (h : acs[i]? = some a) : acsN (acs.take (i + 1)) = acsN (acs.take i) + a.cnt := by
  have e : acs.take (i + 1) = acs.take i ++ [a] := by rw [List.take_add_one, h]; rfl
  unfold acsN; rw [e, List.map_append, List.sum_append]; simp
theorem vsN_take (vss : List (List Nat)) (i : Nat) (y : List Nat) (h : vss[i]? = some y) : vsN (vss.take (i + 1)) = vsN (vss.take i) + y.length := by
  have e : vss.take (i + 1) = vss.take i ++ [y] := by rw [List.take_add_one, h]; rfl
  unfold vsN; rw [e, List.map_append, List.sum_append]; simp
theorem acsN_le (acs : List Ac) (i : Nat) : acsN (acs.take i) ≤ acsN acs := by
  have h := List.take_append_drop i acs
  unfold acsN
  conv => rhs; rw [← h]
  rw [List.map_append, List.sum_append]; omega
theorem vsN_le (vss : List (List Nat)) (i : Nat) : vsN (vss.take i) ≤ vsN vss := by
  have h := List.take_append_drop i vss
  unfold vsN
  conv => rhs; rw [← h]
  rw [List.map_append, List.sum_append]; omega
theorem vsN_mem {vss : List (List Nat)} {y : List Nat} (h : y ∈ vss) : y.length ≤ vsN vss := by
  induction vss with
  | nil => cases h
  | cons x r ih =>
    unfold vsN at ih ⊢
    simp only [List.map_cons, List.sum_cons]
    rcases List.mem_cons.1 h with rfl | h
    · omega
    · have := ih h; omega
theorem acsN_mem {acs : List Ac} {a : Ac} (h : a ∈ acs) : a.cnt ≤ acsN acs := by
  induction acs with
  | nil => cases h
  | cons x r ih =>
    unfold acsN at ih ⊢
    simp only [List.map_cons, List.sum_cons]
    rcases List.mem_cons.1 h with rfl | h
    · omega
    · have := ih h; omega
set_option maxRecDepth 100000 in
set_option maxHeartbeats 4000000 in
theorem few_any (A : Option Addr) (c : Nat) (acs : List Ac) (hlen : acs.length ≤ 2097152) (hN : acsN acs ≤ 2097152) (w : World) (hA : SlActs w A acs) :
    Calls Tryz.prog 16 #[.slice A acs.length c] w fun e w' => e = .returned (.bool (decide (acs.length ≤ 60 ∧ acsN acs ≤ 16384))) ∧ Below w.heap.size w w' := by
  have HA : Hid (∀ wr, Below w.heap.size w wr → SlActs wr A acs) := fun wr hb => hA.keep (keep_below hb)
  obtain ⟨m, hm⟩ : ∃ m, m = acs.length := ⟨_, rfl⟩
  have HM := Lib.hid hm
  have HNt := Lib.hid hN
  rw [← hm] at hlen ⊢
  clear hA hm hN
  go_enter Tryz.func16, Tryz.ntmps16
  go_wp2
  go_loopw [3, 4] (fun n i wr => ∃ k t : Nat, i = .int .i64 k ∧ n = .int .i64 t ∧ k ≤ m ∧ t = acsN (acs.take k) ∧ Below w.heap.size w wr) (fun _ i _ => m - (intOf i).toNat)
  case atStart => exact ⟨0, 0, rfl, rfl, by omega, rfl, Below.refl _ _⟩
  case round =>
    obtain ⟨k, t, rfl, rfl, hk, ht, hb⟩ := hrel
    have HB := Lib.hid hb
    have HT := Lib.hid ht
    have ht20 : t ≤ 2097152 := by rw [ht]; exact Nat.le_trans (acsN_le acs k) HNt.out
    clear hb ht
    by_cases hkm : k < m
    · obtain ⟨a, ha⟩ : ∃ a, acs[k]? = some a := ⟨_, List.getElem?_eq_getElem (by rw [← HM.out]; exact hkm)⟩
      obtain ⟨⟨b, off, e1, hc⟩, hat⟩ := HA.out wr HB.out k a ha
      subst e1
      have q1 := hc 1 _ rfl
      have q2 := hc 2 _ rfl
      rw [← Nat.add_assoc] at q1 q2
      have HSt := Lib.hid (acsN_take acs k a ha)
      have hcn := acsN_mem (List.mem_of_getElem? ha)
      have HGw : Hid (∀ wx, Below wr.heap.size wr wx → SvIs wx a.Av a.vss ∧ wx.cell? ⟨b, off + k * 4 + 2, none⟩ = some (.slice a.Av a.vss.length a.cv)) := fun wx hb => ⟨hat.vs.below hb, keep_below hb _ _ q2⟩
      obtain ⟨l1, hl1⟩ : ∃ l, l = a.ks.length := ⟨_, rfl⟩
      obtain ⟨l2, hl2⟩ : ∃ l, l = a.vss.length := ⟨_, rfl⟩
      have hb1 : l1 + l2 + vsN a.vss ≤ 2097152 := by rw [hl1, hl2]; exact Nat.le_trans hcn HNt.out
      have HCn : Hid (a.cnt = l1 + l2 + vsN a.vss) := by unfold Hid Ac.cnt; rw [hl1, hl2]
      have HL2 := Lib.hid hl2
      rw [← hl1] at q1
      rw [← hl2] at q2 HGw
      have HGn := Lib.hid hb1
      have hlsum : l1 ≤ 2097152 ∧ l2 ≤ 2097152 := by omega
      obtain ⟨hs1, hs2⟩ := hlsum
      clear hc hat ha hcn hl1 hl2 hb1 HA
      go_wp2_with fail
      go_quiet (fail)
      clear q1
      have HBq : Hid (Below wr.heap.size wr (wr.drewN nq)) := below_drewN0 (Below.refl _ _) nq
      go_wp2_with fail
      go_loopw [3, 5] (fun n i wx => ∃ j u : Nat, i = .int .i64 j ∧ n = .int .i64 u ∧ j ≤ l2 ∧ u = t + l1 + l2 + vsN (a.vss.take j) ∧ Below wr.heap.size wr wx) (fun _ i _ => l2 - (intOf i).toNat)
      case atStart => exact ⟨0, t + l1 + l2, rfl, by go_num, by omega, rfl, HBq.out⟩
      case round =>
        obtain ⟨j, u, rfl, rfl, hj, hu, hb⟩ := hrel
        have HBx := Lib.hid hb
        have HU := Lib.hid hu
        have q2 := (HGw.out _ hb).2
        have hu20 : u ≤ 4194304 := by have h1 := vsN_le a.vss j; have h2 := HGn.out; omega
        by_cases hj2 : j < l2
        · obtain ⟨g, hg⟩ : ∃ g, a.vss[j]? = some g := ⟨_, List.getElem?_eq_getElem (by rw [← HL2.out]; exact hj2)⟩
          obtain ⟨b2, off2, Ai, ci, e2, q5, _⟩ := (HGw.out _ hb).1 j (by rw [← HL2.out]; exact hj2)
          rw [List.getD_eq_getElem?_getD, hg] at q5
          rw [e2] at q2
          have HSg := Lib.hid (vsN_take a.vss j g hg)
          have hgl := vsN_mem (List.mem_of_getElem? hg)
          obtain ⟨gl, hgle⟩ : ∃ l, l = g.length := ⟨_, rfl⟩
          have HGl := Lib.hid hgle
          have hgl2 : gl ≤ 2097152 := by have h2 := HGn.out; omega
          rw [Option.getD_some, ← hgle] at q5
          clear hb hu hg hgl hgle
          go_wp2_with fail
          clear q2 q5
          go_roundw
          case rel => exact ⟨j + 1, u + gl, by go_num, by go_num, by omega, by rw [HSg.out, ← HGl.out]; have := HU.out; omega, HBx.out⟩
          case measure => simp [intOf]; omega
        · obtain rfl : j = l2 := by omega
          have HE : Hid (acsN (acs.take (k + 1)) = u) := by
            unfold Hid
            rw [HSt.out, HCn.out, HU.out, HL2.out, List.take_length, ← HT.out]; omega
          clear hb hu
          go_wp2_with fail
          clear q2
          go_roundw
          case rel => exact ⟨k + 1, u, by go_num, by go_num, by omega, HE.out.symm, HB.out.trans (HBx.out.mono HB.out.size)⟩
          case measure => simp [intOf]; omega
    · obtain rfl : k = m := by omega
      have HF : Hid (acsN acs = t) := by
        unfold Hid
        rw [HT.out, HM.out, List.take_length]
      by_cases h1 : k ≤ 60
      · by_cases h2 : t ≤ 16384
        · have HD : Hid (decide (k ≤ 60 ∧ acsN acs ≤ 16384) = true) := decide_eq_true ⟨h1, by rw [HF.out]; exact h2⟩
          go_wp2_with fail
          go_ret
          exact ⟨by first | rfl | (rw [HD.out]; first | rfl | (simp; done) | (simp; omega)), HB.out⟩
        · have HD : Hid (decide (k ≤ 60 ∧ acsN acs ≤ 16384) = false) := decide_eq_false (fun h => h2 (by rw [← HF.out]; exact h.2))
          go_wp2_with fail
          go_ret
          exact ⟨by first | rfl | (rw [HD.out]; first | rfl | (simp; done) | (simp; omega)), HB.out⟩
      · have HD : Hid (decide (k ≤ 60 ∧ acsN acs ≤ 16384) = false) := decide_eq_false (fun h => h1 h.1)
        go_wp2_with fail
        go_ret
        exact ⟨by first | rfl | (rw [HD.out]; first | rfl | (simp; done) | (simp; omega)), HB.out⟩
end Go.Proofs.YthjomnaejhehoaaGreatDoor

namespace Go.Proofs.YthjomnaejhehoaaGreatDoor
open Go.RowKit Go.MapKept Go.ChangeMaps
set_option linter.unusedVariables false
set_option linter.unusedSimpArgs false

/-- What a play's World is. -/
def St9 (w0 wr : World) (Wd q : Nat) : Prop := ∃ A x, W9 w0 wr A x ∧ x.U = x.V ∧ x.q ≤ q ∧ x.op = false ∧ x.S.off = false ∧ A.W = Wd
theorem St9.bel {w0 w : World} {Wd q : Nat} (h : St9 w0 w Wd q) : Below w0.heap.size w0 w := by
  obtain ⟨A, x, h, _⟩ := h
  exact h.bel
theorem St9.below {w0 w w' : World} {Wd q : Nat} (h : St9 w0 w Wd q) (hb : Below w.heap.size w w') : St9 w0 w' Wd q := by
  obtain ⟨A, x, h, h1⟩ := h
  exact ⟨A, x, h.below hb, h1⟩
theorem step_st {w0 w : World} {Wd q : Nat} (h : St9 w0 w Wd q) (hq : q + 1 < 9223372036854775808) (a : Ac) (hA : AcAt w0 a) (hN : a.cnt ≤ 16384) :
    Calls Tryz.prog 17 #[.pointer (some ⟨Wd, 0, none⟩), .agg a.vs.toArray] w fun e w' => e = .returned (.bool true) ∧ St9 w0 w' Wd (q + 1) := by
  obtain ⟨A, x, h, hU, hxq, hop, hoff, rfl⟩ := h
  unfold Ac.cnt at hN
  exact (step_any h hU hop hoff (by omega) a hA (by omega) ⟨by omega, fun y hy => by have := vsN_mem hy; omega⟩).mono fun e w' hs => by
    obtain ⟨h1, A', x', a1, a2, a3, a4, a5, a6, a7, a8, _⟩ := hs
    exact ⟨h1, A', x', a1, a2, by omega, a4, a5, a8⟩
theorem st_new {w0 w : World} {A : Ad} {x : X9} (h : W9 w0 w A x) (hn : New9 A x) : St9 w0 w A.W 1 := ⟨A, x, h, by rw [hn.U, hn.V], by rw [hn.q]; exact Nat.le_refl _, hn.op, hn.off, rfl⟩
set_option maxRecDepth 100000 in
set_option maxHeartbeats 4000000 in
theorem plays_any (which : Int) (Aa : Option Addr) (ca : Nat) (acs : List Ac) (hlen : acs.length ≤ 2097152) (hN : acsN acs ≤ 2097152) (w0 : World) (hT : Tab w0) (hA : SlActs w0 Aa acs) :
    Calls Tryz.prog 5 #[.int .i64 which, .slice Aa acs.length ca] w0 fun e w' => e = .returned (.bool true) ∧ Below w0.heap.size w0 w' := by
  have HKn := Lib.hid (known_any w0 hT)
  have HT := Lib.hid hT
  have HA := Lib.hid hA
  obtain ⟨m, hm⟩ : ∃ m, m = acs.length := ⟨_, rfl⟩
  have HM := Lib.hid hm
  obtain ⟨dd, hdd⟩ : ∃ dd, dd = decide (m ≤ 60 ∧ acsN acs ≤ 16384) := ⟨_, rfl⟩
  have HD := Lib.hid hdd
  have HFw : Hid (∀ w', Below w0.heap.size w0 w' → Calls Tryz.prog 16 #[.slice Aa m ca] w' fun e w'' => e = .returned (.bool dd) ∧ Below w'.heap.size w' w'') := fun w' hb => by rw [hdd, hm]; exact few_any Aa ca acs hlen hN w' (hA.keep (keep_below hb))
  rw [← hm]
  clear hT hA hm hdd hlen hN
  go_enter Tryz.func5, Tryz.ntmps5
  go_wp2_with fail
  refine HKn.out.mono ?_
  rintro e w1 ⟨rfl, hb1⟩
  have HF := Lib.hid (HFw.out w1 hb1)
  have HB1 := Lib.hid hb1
  clear HKn HFw hb1
  go_wp2_with fail
  refine HF.out.mono ?_
  rintro e w2 ⟨rfl, hb2⟩
  have HB2 : Hid (Below w0.heap.size w0 w2) := HB1.out.trans (hb2.mono HB1.out.size)
  clear HF hb2
  cases dd with
  | false =>
    go_wp2
    go_ret
    exact ⟨rfl, HB2.out⟩
  | true =>
    have HDd : Hid (m ≤ 60 ∧ acsN acs ≤ 16384) := Lib.hid (of_decide_eq_true HD.out.symm)
    have hm60 : m ≤ 60 := HDd.out.1
    have HR := Lib.hid (row_any which w2)
    clear HD
    go_wp2_with fail
    refine HR.out.mono ?_
    rintro e w3 ⟨g, c, vs, rfl, hg, hc, hr, hok, h5, hb3⟩
    have HBe := Lib.hid (begun_any w0 w3 (HB2.out.trans (hb3.mono HB2.out.size)) HT.out (some ⟨g, 0, none⟩) c vs hc (fun g' o e => .inr (by injection e with e; injection e with e _ _; subst e; exact hr)) hok (by omega))
    obtain ⟨vl, hvl⟩ : ∃ vl, vl = vs.length := ⟨_, rfl⟩
    rw [← hvl] at HBe ⊢
    clear HR hg hc hr hok h5 hb3 hvl
    go_wp2_with fail
    refine HBe.out.mono ?_
    rintro e w4 ⟨A, x, rfl, h4, hn, -, -, -⟩
    have H4 := Lib.hid (st_new h4 hn)
    generalize A.W = Wd at *
    clear HBe h4 hn
    go_wp2
    go_loopw [6] (fun v wr => ∃ k : Nat, v = .int .i64 k ∧ k ≤ m ∧ St9 w0 wr Wd (1 + k)) (fun v _ => m - (intOf v).toNat)
    case atStart => exact ⟨0, rfl, by omega, H4.out⟩
    case round =>
      obtain ⟨k, rfl, hk, hs⟩ := hrel
      have HS := Lib.hid hs
      clear hs H4
      by_cases hkm : k < m
      · obtain ⟨a, ha⟩ : ∃ a, acs[k]? = some a := ⟨_, List.getElem?_eq_getElem (by rw [← HM.out]; exact hkm)⟩
        obtain ⟨⟨b, off, e1, hc⟩, hat⟩ := HA.out k a ha
        subst e1
        have q0 := keep_below HS.out.bel _ _ (hc 0 _ rfl)
        have q1 := keep_below HS.out.bel _ _ (hc 1 _ rfl)
        have q2 := keep_below HS.out.bel _ _ (hc 2 _ rfl)
        have q3 := keep_below HS.out.bel _ _ (hc 3 _ rfl)
        rw [Nat.add_zero] at q0
        rw [← Nat.add_assoc] at q1 q2 q3
        have HSt := Lib.hid (step_st HS.out (by omega) a hat (Nat.le_trans (acsN_mem (List.mem_of_getElem? ha)) HDd.out.2))
        obtain ⟨op, Ak, ck, ks, Av, cv, vss, n⟩ := a
        unfold Ac.vs at HSt
        dsimp only at q0 q1 q2 q3 HSt
        clear hc hat ha
        generalize ks.length = nk at *
        generalize vss.length = nv at *
        go_wp2_with fail
        refine HSt.out.mono ?_
        rintro e w5 ⟨rfl, hs5⟩
        have H5 := Lib.hid hs5
        clear hs5 HSt q0 q1 q2 q3 HS
        go_wp2
        go_roundw
        case rel => exact ⟨k + 1, by go_num, by omega, H5.out⟩
        case measure => simp [intOf]; omega
      · obtain rfl : k = m := by omega
        obtain ⟨A, x, h, hU, -, hop, -, rfl⟩ := HS.out
        have HCu := Lib.hid h.cut
        have HUo := Lib.hid (And.intro hU hop)
        have c0 := h.cells.1
        clear h hU hop HS
        go_wp2_with fail
        refine HCu.out.mono ?_
        rintro e w5 ⟨rfl, h5, -⟩
        have HBk : Hid (Calls Tryz.prog 13 #[.pointer (some ⟨A.W, 0, none⟩)] w5 (BackPost w0 A { x with S := { x.S with off := true, armed := 0 } })) := back_any h5 HUo.out.1 (fun ho => by have := HUo.out.2; dsimp only at ho; rw [this] at ho; cases ho)
        clear HCu h5 c0
        go_wp2_with fail
        refine HBk.out.mono ?_
        rintro e w6 ⟨rfl, A6, x6, h6, -⟩
        have HB6 := Lib.hid h6.bel
        clear h6 HBk
        go_wp2
        go_ret
        exact ⟨rfl, HB6.out⟩
end Go.Proofs.YthjomnaejhehoaaGreatDoor

namespace Go.Proofs.YthjomnaejhehoaaGreatDoor
open Go.RowKit Go.MapKept Go.ChangeMaps
set_option linter.unusedVariables false
set_option linter.unusedSimpArgs false

theorem putargs_st {w0 w : World} {Wd q : Nat} (h : St9 w0 w Wd q) (hq : q + 1 < 9223372036854775808) (a : Ac) (hA : AcAt w0 a) (hN : a.cnt ≤ 16384) :
    Calls Tryz.prog 11 #[.pointer (some ⟨Wd, 0, none⟩), .slice a.Ak a.ks.length a.ck, .slice a.Av a.vss.length a.cv, .bool false] w fun e w' => e = .returned (.bool true) ∧ St9 w0 w' Wd (q + 1) := by
  obtain ⟨A, x, h, hU, hxq, hop, hoff, rfl⟩ := h
  unfold Ac.cnt at hN
  exact (lput_any h hU hop hoff (by omega) a.Ak a.ck a.ks (hA.ks.keep (keep_below h.bel)) (by omega) a.Av a.cv a.vss (hA.vs.keep (keep_below h.bel)) (by omega) (fun y hy => ⟨hA.small y hy, by have := vsN_mem hy; omega⟩) false (by simp) (by simp)).mono fun e w' hs => by
    obtain ⟨h1, A', x', a1, a2, a3, a4, _, a5, a6, a7, a8, _⟩ := hs
    exact ⟨h1, A', x', a1, a2, by omega, a4, a5, a8⟩
theorem arm_st {w0 w : World} {Wd q : Nat} (h : St9 w0 w Wd q) (n : Int) (hn : n < 9223372036854775808) :
    ∃ F, w.cell? ⟨Wd, 0, none⟩ = some (.pointer (some ⟨F, 0, none⟩)) ∧ Calls Tryz.prog 18 #[.pointer (some ⟨F, 0, none⟩), .int .i64 n] w fun e w' => e = .returned (.tuple #[]) ∧ St9 w0 w' Wd q := by
  obtain ⟨A, x, h, hU, hxq, hop, hoff, rfl⟩ := h
  refine ⟨A.F, h.cells.1, (h.arm n hn).mono fun e w' hs => ?_⟩
  obtain ⟨h1, h2, _⟩ := hs
  exact ⟨h1, A, _, h2, hU, hxq, hop, hoff, rfl⟩
theorem one_act {w0 w : World} (a : Ac) (hA : AcAt w0 a) (hb : Below w0.heap.size w0 w) : SlActs (w.alloc (.cells #[.int .i64 a.op, .slice a.Ak a.ks.length a.ck, .slice a.Av a.vss.length a.cv, .int .i64 a.n] 56)) (some ⟨w.heap.size, 0, none⟩) [a] := fun i y hy => by
  have hi : i = 0 := by
    have := (List.getElem?_eq_some_iff.1 hy).1
    simp at this; omega
  subst hi
  simp at hy
  subst hy
  have hb2 : Below w.heap.size w (w.alloc (.cells #[.int .i64 a.op, .slice a.Ak a.ks.length a.ck, .slice a.Av a.vss.length a.cv, .int .i64 a.n] 56)) := (Below.refl _ _).alloc (Nat.le_refl _) _
  refine ⟨⟨w.heap.size, 0, rfl, fun j u hu => ?_⟩, hA.keep (keep_below (hb.trans (hb2.mono hb.size)))⟩
  have h1 := (Row.fresh w 56 #[.int .i64 a.op, .slice a.Ak a.ks.length a.ck, .slice a.Av a.vss.length a.cv, .int .i64 a.n]).cell j
  rw [show 0 + (0 * 4 + j) = j by omega, h1, List.getElem?_toArray]
  exact hu
set_option maxRecDepth 100000 in
set_option maxHeartbeats 8000000 in
theorem each_any (Aa : Option Addr) (ca : Nat) (acs : List Ac) (hlen : acs.length ≤ 2097152) (hN : acsN acs ≤ 2097152) (a0 : Ac) (h0 : a0.op = 0 ∧ a0.n = 0) (hN0 : a0.cnt ≤ 2097152) (w0 : World) (hT : Tab w0) (hA : SlActs w0 Aa acs) (hA0 : AcAt w0 a0) :
    Calls Tryz.prog 6 #[.slice Aa acs.length ca, .slice a0.Ak a0.ks.length a0.ck, .slice a0.Av a0.vss.length a0.cv] w0 fun e w' => e = .returned (.bool true) ∧ Below w0.heap.size w0 w' := by
  have HKn := Lib.hid (known_any w0 hT)
  have HT := Lib.hid hT
  have HA := Lib.hid hA
  obtain ⟨m, hm⟩ : ∃ m, m = acs.length := ⟨_, rfl⟩
  have HM := Lib.hid hm
  obtain ⟨dd, hdd⟩ : ∃ dd, dd = decide (m ≤ 60 ∧ acsN acs ≤ 16384) := ⟨_, rfl⟩
  have HD := Lib.hid hdd
  have HFw : Hid (∀ w', Below w0.heap.size w0 w' → Calls Tryz.prog 16 #[.slice Aa m ca] w' fun e w'' => e = .returned (.bool dd) ∧ Below w'.heap.size w' w'') := fun w' hb => by rw [hdd, hm]; exact few_any Aa ca acs hlen hN w' (hA.keep (keep_below hb))
  obtain ⟨d2, hd2⟩ : ∃ d2, d2 = decide (1 ≤ 60 ∧ acsN [a0] ≤ 16384) := ⟨_, rfl⟩
  have HD2 := Lib.hid hd2
  have HF2 : Hid (∀ w', Below w0.heap.size w0 w' → Calls Tryz.prog 16 #[.slice (some ⟨w'.heap.size, 0, none⟩) 1 1] (w'.alloc (.cells #[.int .i64 0, .slice a0.Ak a0.ks.length a0.ck, .slice a0.Av a0.vss.length a0.cv, .int .i64 0] 56)) fun e w'' => e = .returned (.bool d2) ∧ Below (w'.heap.size + 1) (w'.alloc (.cells #[.int .i64 0, .slice a0.Ak a0.ks.length a0.ck, .slice a0.Av a0.vss.length a0.cv, .int .i64 0] 56)) w'') := fun w' hb => by
    have h1 := one_act a0 hA0 hb
    rw [h0.1, h0.2] at h1
    have := few_any (some ⟨w'.heap.size, 0, none⟩) 1 [a0] (by simp) (by simpa [acsN] using hN0) _ h1
    rw [World.size_alloc] at this
    rw [hd2]
    exact this
  have HPu : Hid (∀ w' Wd q, St9 w0 w' Wd q → q + 1 < 9223372036854775808 → acsN [a0] ≤ 16384 → Calls Tryz.prog 11 #[.pointer (some ⟨Wd, 0, none⟩), .slice a0.Ak a0.ks.length a0.ck, .slice a0.Av a0.vss.length a0.cv, .bool false] w' fun e w'' => e = .returned (.bool true) ∧ St9 w0 w'' Wd (q + 1)) := fun w' Wd q h1 h2 h3 => putargs_st h1 h2 a0 hA0 (by simpa [acsN] using h3)
  rw [← hm]
  obtain ⟨op0, Ak, ck, ks, Av, cv, vss, n0⟩ := a0
  dsimp only at HF2 HPu hd2 HD2 ⊢
  obtain ⟨dn, hdn⟩ : ∃ dn, dn = acsN [(⟨op0, Ak, ck, ks, Av, cv, vss, n0⟩ : Ac)] := ⟨_, rfl⟩
  rw [← hdn] at HD2 HPu
  clear hT hA hm hdd hlen hN hA0 hN0 h0 hd2 hdn
  generalize ks.length = nk at *
  generalize vss.length = nv at *
  go_enter Tryz.func6, Tryz.ntmps6
  go_wp2_with fail
  refine HKn.out.mono ?_
  rintro e w1 ⟨rfl, hb1⟩
  have HF := Lib.hid (HFw.out w1 hb1)
  have HB1 := Lib.hid hb1
  clear HKn HFw hb1
  go_wp2_with fail
  refine HF.out.mono ?_
  rintro e w2 ⟨rfl, hb2⟩
  have HB2 : Hid (Below w0.heap.size w0 w2) := HB1.out.trans (hb2.mono HB1.out.size)
  clear HF hb2
  cases dd with
  | false =>
    go_wp2
    go_ret
    exact ⟨rfl, HB2.out⟩
  | true =>
    have HDd : Hid (m ≤ 60 ∧ acsN acs ≤ 16384) := Lib.hid (of_decide_eq_true HD.out.symm)
    have hm60 : m ≤ 60 := HDd.out.1
    have HF := Lib.hid (HF2.out w2 HB2.out)
    clear HD HF2
    go_wp2_with fail
    refine HF.out.mono ?_
    rintro e w3 ⟨rfl, hb3⟩
    have HB3 : Hid (Below w0.heap.size w0 w3) := by
      have h1 : Below w2.heap.size w2 (w2.alloc (.cells #[.int .i64 0, .slice Ak nk ck, .slice Av nv cv, .int .i64 0] 56)) := (Below.refl _ _).alloc (Nat.le_refl _) _
      exact HB2.out.trans ((h1.trans (hb3.mono (Nat.le_succ _))).mono HB2.out.size)
    clear HF hb3
    cases d2 with
    | false =>
      go_wp2
      go_ret
      exact ⟨rfl, HB3.out⟩
    | true =>
      have HD0 : Hid (dn ≤ 16384) := Lib.hid (of_decide_eq_true (p := 1 ≤ 60 ∧ dn ≤ 16384) HD2.out.symm).2
      clear HD2
      by_cases h12 : m ≤ 12
      · go_wp2
        go_loopw [7] (fun v wr => ∃ k : Nat, v = .int .i64 k ∧ 1 ≤ k ∧ k ≤ 70 ∧ Below w0.heap.size w0 wr) (fun v _ => 100 - (intOf v).toNat)
        case atStart => exact ⟨1, rfl, by omega, by omega, HB3.out⟩
        case round =>
          obtain ⟨k, rfl, hk1, hk2, hb⟩ := hrel
          have HB := Lib.hid hb
          clear hb
          by_cases hk60 : k < 60
          · obtain ⟨wa, hwa⟩ : ∃ wa, wa = wr.alloc (.cells #[.int .i64 0, .int .i64 2, .int .i64 5] 3) := ⟨_, rfl⟩
            have HEa := Lib.hid hwa
            have HBa : Hid (Below wr.heap.size wr wa) := by unfold Hid; rw [hwa]; exact (Below.refl _ _).alloc (Nat.le_refl _) _
            have hra : Row wa wr.heap.size 3 #[.int .i64 0, .int .i64 2, .int .i64 5] := by rw [hwa]; exact Row.fresh _ _ _
            have HBe := Lib.hid (begun_any w0 wa (HB.out.trans (HBa.out.mono HB.out.size)) HT.out (some ⟨wr.heap.size, 0, none⟩) 3 [0, 2, 5] (cells3 (w' := wa) hra) (fun g o e => .inr ⟨_, by injection e with e; injection e with e _ _; subst e; exact hra⟩) ⟨by simp, by decide, by decide⟩ (by simp))
            simp only [List.length_cons, List.length_nil, Nat.zero_add, Nat.reduceAdd] at HBe
            clear hra hwa
            go_wp2_with fail
            rw [← HEa.out]
            refine HBe.out.mono ?_
            rintro e w4 ⟨A, x, rfl, h4, hn, -, -, -⟩
            have H4 := Lib.hid (st_new h4 hn)
            generalize A.W = Wd at *
            clear HBe h4 hn
            go_wp2
            go_loopw [9] (fun v wx => ∃ j : Nat, v = .int .i64 j ∧ j ≤ m ∧ St9 w0 wx Wd (1 + j)) (fun v _ => m - (intOf v).toNat)
            case atStart => exact ⟨0, rfl, by omega, H4.out⟩
            case round =>
              obtain ⟨j, rfl, hj, hs⟩ := hrel
              have HS := Lib.hid hs
              clear hs H4
              by_cases hjm : j < m
              · obtain ⟨a, ha⟩ : ∃ a, acs[j]? = some a := ⟨_, List.getElem?_eq_getElem (by rw [← HM.out]; exact hjm)⟩
                obtain ⟨⟨b, off, e1, hc⟩, hat⟩ := HA.out j a ha
                subst e1
                have q0 := keep_below HS.out.bel _ _ (hc 0 _ rfl)
                have q1 := keep_below HS.out.bel _ _ (hc 1 _ rfl)
                have q2 := keep_below HS.out.bel _ _ (hc 2 _ rfl)
                have q3 := keep_below HS.out.bel _ _ (hc 3 _ rfl)
                rw [Nat.add_zero] at q0
                rw [← Nat.add_assoc] at q1 q2 q3
                have HSt := Lib.hid (step_st HS.out (by omega) a hat (Nat.le_trans (acsN_mem (List.mem_of_getElem? ha)) HDd.out.2))
                obtain ⟨op, Ak', ck', ks', Av', cv', vss', n'⟩ := a
                unfold Ac.vs at HSt
                dsimp only at q0 q1 q2 q3 HSt
                clear hc hat ha
                generalize ks'.length = nk' at *
                generalize vss'.length = nv' at *
                by_cases hop : 2 < op
                · go_wp2
                  go_roundw
                  case rel => exact ⟨j + 1, by go_num, by omega, by obtain ⟨A', x', b1, b2, b3, b4⟩ := HS.out; exact ⟨A', x', b1, b2, by omega, b4⟩⟩
                  case measure => simp [intOf]; omega
                · go_wp2_with fail
                  refine HSt.out.mono ?_
                  rintro e w5 ⟨rfl, hs5⟩
                  have H5 := Lib.hid hs5
                  clear hs5 HSt q0 q1 q2 q3 HS
                  go_wp2
                  go_roundw
                  case rel => exact ⟨j + 1, by go_num, by omega, H5.out⟩
                  case measure => simp [intOf]; omega
              · obtain rfl : j = m := by omega
                obtain ⟨F, c0, har⟩ := arm_st HS.out k (by omega)
                have HAr := Lib.hid har
                clear har HS
                go_wp2_with fail
                refine HAr.out.mono ?_
                rintro e w5 ⟨rfl, hs5⟩
                have HP := Lib.hid (HPu.out w5 Wd _ hs5 (by omega) HD0.out)
                clear hs5 HAr c0
                go_wp2_with fail
                refine HP.out.mono ?_
                rintro e w6 ⟨rfl, hs6⟩
                have HS := Lib.hid hs6
                clear hs6 HP
                obtain ⟨A, x, h, hU, -, hop, -, rfl⟩ := HS.out
                have HCu := Lib.hid h.cut
                have HUo := Lib.hid (And.intro hU hop)
                have c0 := h.cells.1
                clear h hU hop HS
                go_wp2_with fail
                refine HCu.out.mono ?_
                rintro e w5 ⟨rfl, h5, -⟩
                have HBk : Hid (Calls Tryz.prog 13 #[.pointer (some ⟨A.W, 0, none⟩)] w5 (BackPost w0 A { x with S := { x.S with off := true, armed := 0 } })) := back_any h5 HUo.out.1 (fun ho => by have := HUo.out.2; dsimp only at ho; rw [this] at ho; cases ho)
                clear HCu h5 c0
                go_wp2_with fail
                refine HBk.out.mono ?_
                rintro e w6 ⟨rfl, A6, x6, h6, -⟩
                have HB6 := Lib.hid h6.bel
                clear h6 HBk
                go_wp2
                go_roundw
                case rel => exact ⟨k + k / 8 + 1, by go_num, by omega, by omega, HB6.out⟩
                case measure => simp [intOf]; omega
          · go_wp2
            go_ret
            exact ⟨rfl, HB.out⟩
      · go_wp2
        go_ret
        exact ⟨rfl, HB3.out⟩
end Go.Proofs.YthjomnaejhehoaaGreatDoor
