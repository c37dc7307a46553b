/- What follows is laid together from several texts of mine, in their order. -/
import Derived.Test.YtomigaldomiefaaQ18
import Derived.Test.YtomigaldomiefaaQ6
import Derived.Test.YtomigaldomiefaaQ15

namespace Go.Proofs.Ytomigaldomiefaa
open Go.RowKit Go.Shelf Go.MapKept Go.ChangeMaps
attribute [local go_sem] Oper.semAt_some
attribute [local simp, local go_sem] wide_fn
set_option linter.unusedVariables false
set_option linter.unusedSimpArgs false

theorem cell_byte {w : World} {g off x : Nat} (h : w.cell? ⟨g, off, none⟩ = some (.int .u8 x)) : Cells8 w (some ⟨g, off, none⟩) [x] := fun i hi => by
  obtain rfl : i = 0 := by simp at hi; exact hi
  exact ⟨g, off, rfl, by simpa using h⟩
theorem row_bytes {w : World} {g : Nat} {l : List Nat} (h : Row w g 5 ((intsV .u8 l).toArray)) : Cells8 w (some ⟨g, 0, none⟩) l := fun i hi => by
  refine ⟨g, 0, rfl, ?_⟩
  rw [h.cell, Nat.zero_add]
  simpa using intsV_get .u8 l i hi
def rd2 (a b : Nat) : Nat → List Nat := fun p => if p = 0 then [a] else [b]
set_option maxHeartbeats 1000000 in
theorem known11_any (a b Za Zb p : Nat) (w : World) (c1 : w.cell? ⟨Za, 0, none⟩ = some (.int .u8 a)) (c2 : w.cell? ⟨Zb, 0, none⟩ = some (.int .u8 b)) :
    Calls Try.prog 32 #[.int .i64 p, .pointer (some ⟨Za, 0, none⟩), .pointer (some ⟨Zb, 0, none⟩)] w fun e w' => ∃ A c, e = .returned (.slice A (rd2 a b p).length c) ∧ Cells8 w' A (rd2 a b p) ∧ Below w.heap.size w w' := by
  by_cases hp : p = 0
  · have hp2 : (p : Int) = 0 := by omega
    have HE : Hid (rd2 a b p = [a]) := by unfold Hid rd2; rw [if_pos hp]
    subst hp
    clear hp2
    go_enter Try.func32, Try.ntmps32
    go_wp2
    go_ret
    refine ⟨some ⟨w.heap.size, 0, none⟩, 1, by rw [HE.out]; rfl, ?_, by (repeat (first | (with_reducible refine Below.drew ?_) | (with_reducible refine below_drewN0 ?_ _) | ((with_reducible refine Below.setCell ?_ ?_ _); rotate_left; focus (first | omega | (simp; done) | (simp; omega) | (simp at *; omega))) | ((with_reducible refine Below.alloc ?_ ?_ _); rotate_left; focus (first | omega | (simp; done) | (simp; omega) | (simp at *; omega))) | (with_reducible exact Below.refl _ _)))⟩
    rw [HE.out]
    exact row_bytes (l := [a]) (Row.fresh w 5 #[.int .u8 a])
  · have hp2 : ¬ (p : Int) = 0 := by omega
    have HE : Hid (rd2 a b p = [b]) := by unfold Hid rd2; rw [if_neg hp]
    clear hp
    go_enter Try.func32, Try.ntmps32
    go_wp2
    go_ret
    refine ⟨some ⟨w.heap.size, 0, none⟩, 1, by rw [HE.out]; rfl, ?_, by (repeat (first | (with_reducible refine Below.drew ?_) | (with_reducible refine below_drewN0 ?_ _) | ((with_reducible refine Below.setCell ?_ ?_ _); rotate_left; focus (first | omega | (simp; done) | (simp; omega) | (simp at *; omega))) | ((with_reducible refine Below.alloc ?_ ?_ _); rotate_left; focus (first | omega | (simp; done) | (simp; omega) | (simp at *; omega))) | (with_reducible exact Below.refl _ _)))⟩
    rw [HE.out]
    exact row_bytes (l := [b]) (Row.fresh w 5 #[.int .u8 b])
set_option maxHeartbeats 1000000 in
theorem known1_any (B C H L : Nat) (v4 v5 : Value) (S : Cr) (a b Zs : Nat) (ha : a < 256) (hb : b < 256) (w : World) (h : CrIs w B C H L v4 v5 S) (c1 : w.cell? ⟨Zs, 0, none⟩ = some (.pointer (some ⟨C, 0, none⟩))) :
    Calls Try.prog 31 #[.int .u8 a, .int .u8 b, .pointer (some ⟨Zs, 0, none⟩)] w fun e w' => e = .returned (.bool (S.may (rd2 a b))) ∧ Below w.heap.size w w' := by
  obtain ⟨w1, hw1⟩ : ∃ w1, w1 = (w.alloc (.cells #[.int .u8 a] 5)).alloc (.cells #[.int .u8 b] 5) := ⟨_, rfl⟩
  have HB1 : Hid (Below w.heap.size w w1) := by unfold Hid; rw [hw1]; (repeat (first | (with_reducible refine Below.drew ?_) | (with_reducible refine below_drewN0 ?_ _) | ((with_reducible refine Below.setCell ?_ ?_ _); rotate_left; focus (first | omega | (simp; done) | (simp; omega) | (simp at *; omega))) | ((with_reducible refine Below.alloc ?_ ?_ _); rotate_left; focus (first | omega | (simp; done) | (simp; omega) | (simp at *; omega))) | (with_reducible exact Below.refl _ _)))
  have HR1 : Hid (Row w1 w.heap.size 5 #[.int .u8 a]) := by unfold Hid; rw [hw1]; exact (Row.fresh _ _ _).alloc _
  have HR2 : Hid (Row w1 (w.heap.size + 1) 5 #[.int .u8 b]) := by
    unfold Hid; rw [hw1]
    have := Row.fresh (w.alloc (.cells #[.int .u8 a] 5)) 5 #[.int .u8 b]
    rw [World.size_alloc] at this; exact this
  have hrd : RdOk w1 [] S.n 32 #[.pointer (some ⟨w.heap.size, 0, none⟩), .pointer (some ⟨w.heap.size + 1, 0, none⟩)] (rd2 a b) :=
    ⟨enters_of Try.func32 (by kernel_rfl) rfl, fun p _ w' hw => known11_any a b w.heap.size (w.heap.size + 1) p w' (hw.cell (HR1.out.cell 0) (by simp)) (hw.cell (HR2.out.cell 0) (by simp)), fun p u hu => by
      unfold rd2 at hu
      split at hu <;> (rw [List.mem_singleton.1 hu]; assumption)⟩
  have HM := Lib.hid (May_any B C H L v4 v5 S [] _ _ (rd2 a b) w1 hrd (h.below HB1.out))
  have c2 : w1.cell? ⟨Zs, 0, none⟩ = some (.pointer (some ⟨C, 0, none⟩)) := keep_below HB1.out _ _ c1
  have HW1 := Lib.hid hw1
  rw [hw1] at c2
  clear hrd h c1 ha hb hw1
  go_enter Try.func31, Try.ntmps31
  go_wp2_with fail
  rw [← HW1.out]
  refine HM.out.mono ?_
  rintro e w2 ⟨rfl, hb⟩
  have HB2 : Hid (Below w.heap.size w w2) := HB1.out.trans (hb.mono HB1.out.size)
  clear c2 hb
  go_wp2
  go_ret
  exact ⟨rfl, HB2.out⟩
theorem writes_one {w : World} {A b : Nat} {s : Int} {l : List Nat} (hs : R64 s) (hl : ∀ u ∈ l, u < 256) (ra : Row w A 30 #[.int .i64 0, .int .i64 s, .slice (some ⟨b, 0, none⟩) l.length l.length]) (rb : Row w b 5 (intsV .u8 l).toArray) : Writes w (some ⟨A, 0, none⟩) [⟨0, s, some ⟨b, 0, none⟩, l.length, l⟩] := by
  refine ⟨fun i x hx => ?_⟩
  cases i with
  | succ i => simp at hx
  | zero =>
    simp at hx; subst hx
    refine ⟨⟨A, 0, rfl, fun j u hu => ?_⟩, ⟨by unfold R64; simp, hs, hl, row_bytes rb, Nat.le_refl _⟩⟩
    rw [ra.cell]
    simpa using hu
def knG (A1 A2 b1 b2 : Nat) : List Gs := [⟨some ⟨A1, 0, none⟩, 1, [⟨0, 0, some ⟨b1, 0, none⟩, 1, [1]⟩]⟩, ⟨some ⟨A2, 0, none⟩, 1, [⟨0, 1, some ⟨b2, 0, none⟩, 1, [2]⟩]⟩]
def knS : Cr := { cr0 2 1 with groups := [[(0, [1])], [(1, [2])]] }
theorem kn_may : knS.may (rd2 0 0) = true ∧ knS.may (rd2 1 0) = true ∧ knS.may (rd2 1 2) = true ∧ knS.may (rd2 0 2) = false := by decide +kernel
set_option maxRecDepth 100000 in
set_option maxHeartbeats 2000000 in
theorem known_any (w : World) : Calls Try.prog 8 #[] w fun e w' => e = .returned (.bool true) ∧ Below w.heap.size w w' := by
  have HN := Lib.hid (New_yes 2 1 (by decide) (by decide) w)
  go_enter Try.func8, Try.ntmps8
  go_wp2_with fail
  refine HN.out.mono ?_
  rintro e w1 ⟨C, H, L, rfl, hc, hb⟩
  have HC1 := Lib.hid hc
  have HB1 := Lib.hid hb
  clear HN hc hb
  obtain ⟨K, hK⟩ : ∃ K, K = w1.heap.size := ⟨_, rfl⟩
  obtain ⟨w2, hw2⟩ : ∃ w2, w2 = ((((((w1.alloc (.cells #[.pointer (some ⟨C, 0, none⟩)] 25)).alloc (.cells #[.int .u8 1] 5)).alloc (.cells #[.int .i64 0, .int .i64 0, .slice (some ⟨w1.heap.size + 1, 0, none⟩) 1 1] 30)).alloc (.cells #[.int .u8 2] 5)).alloc (.cells #[.int .i64 0, .int .i64 1, .slice (some ⟨w1.heap.size + 1 + 1 + 1, 0, none⟩) 1 1] 30)).alloc
    (.cells #[.slice (some ⟨w1.heap.size + 1 + 1, 0, none⟩) 1 1, .slice (some ⟨w1.heap.size + 1 + 1 + 1 + 1, 0, none⟩) 1 1] 23)) := ⟨_, rfl⟩
  have HB2 : Hid (Below w1.heap.size w1 w2) := by unfold Hid; rw [hw2]; (repeat (first | (with_reducible refine Below.drew ?_) | (with_reducible refine below_drewN0 ?_ _) | ((with_reducible refine Below.setCell ?_ ?_ _); rotate_left; focus (first | omega | (simp; done) | (simp; omega) | (simp at *; omega))) | ((with_reducible refine Below.alloc ?_ ?_ _); rotate_left; focus (first | omega | (simp; done) | (simp; omega) | (simp at *; omega))) | (with_reducible exact Below.refl _ _)))
  have r0 : Row w2 K 25 #[.pointer (some ⟨C, 0, none⟩)] := by rw [hw2, hK]; exact (((((Row.fresh w1 _ _).alloc _).alloc _).alloc _).alloc _).alloc _
  have r1 : Row w2 (K + 1) 5 #[.int .u8 1] := by
    rw [hw2, hK]
    have := Row.fresh (w1.alloc (.cells #[.pointer (some ⟨C, 0, none⟩)] 25)) 5 #[.int .u8 1]
    rw [World.size_alloc] at this
    exact (((this.alloc _).alloc _).alloc _).alloc _
  have r2 : Row w2 (K + 1 + 1) 30 #[.int .i64 0, .int .i64 0, .slice (some ⟨K + 1, 0, none⟩) 1 1] := by
    rw [hw2, hK]
    have := Row.fresh ((w1.alloc (.cells #[.pointer (some ⟨C, 0, none⟩)] 25)).alloc (.cells #[.int .u8 1] 5)) 30 #[.int .i64 0, .int .i64 0, .slice (some ⟨w1.heap.size + 1, 0, none⟩) 1 1]
    simp only [World.size_alloc] at this
    exact ((this.alloc _).alloc _).alloc _
  have r3 : Row w2 (K + 1 + 1 + 1) 5 #[.int .u8 2] := by
    rw [hw2, hK]
    have := Row.fresh (((w1.alloc (.cells #[.pointer (some ⟨C, 0, none⟩)] 25)).alloc (.cells #[.int .u8 1] 5)).alloc (.cells #[.int .i64 0, .int .i64 0, .slice (some ⟨w1.heap.size + 1, 0, none⟩) 1 1] 30)) 5 #[.int .u8 2]
    simp only [World.size_alloc] at this
    exact (this.alloc _).alloc _
  have r4 : Row w2 (K + 1 + 1 + 1 + 1) 30 #[.int .i64 0, .int .i64 1, .slice (some ⟨K + 1 + 1 + 1, 0, none⟩) 1 1] := by
    rw [hw2, hK]
    have := Row.fresh ((((w1.alloc (.cells #[.pointer (some ⟨C, 0, none⟩)] 25)).alloc (.cells #[.int .u8 1] 5)).alloc (.cells #[.int .i64 0, .int .i64 0, .slice (some ⟨w1.heap.size + 1, 0, none⟩) 1 1] 30)).alloc (.cells #[.int .u8 2] 5)) 30 #[.int .i64 0, .int .i64 1, .slice (some ⟨w1.heap.size + 1 + 1 + 1, 0, none⟩) 1 1]
    simp only [World.size_alloc] at this
    exact this.alloc _
  have r5 : Row w2 (K + 1 + 1 + 1 + 1 + 1) 23 #[.slice (some ⟨K + 1 + 1, 0, none⟩) 1 1, .slice (some ⟨K + 1 + 1 + 1 + 1, 0, none⟩) 1 1] := by
    rw [hw2, hK]
    have := Row.fresh (((((w1.alloc (.cells #[.pointer (some ⟨C, 0, none⟩)] 25)).alloc (.cells #[.int .u8 1] 5)).alloc (.cells #[.int .i64 0, .int .i64 0, .slice (some ⟨w1.heap.size + 1, 0, none⟩) 1 1] 30)).alloc (.cells #[.int .u8 2] 5)).alloc (.cells #[.int .i64 0, .int .i64 1, .slice (some ⟨w1.heap.size + 1 + 1 + 1, 0, none⟩) 1 1] 30)) 23 #[.slice (some ⟨w1.heap.size + 1 + 1, 0, none⟩) 1 1, .slice (some ⟨w1.heap.size + 1 + 1 + 1 + 1, 0, none⟩) 1 1]
    simp only [World.size_alloc] at this
    exact this
  have hCK : C < K := by rw [hK]; exact HC1.out.row.lt
  have hG : ∀ wr, Turns w2 wr [C] → ArgG wr (some ⟨K + 1 + 1 + 1 + 1 + 1, 0, none⟩) (knG (K + 1 + 1) (K + 1 + 1 + 1 + 1) (K + 1) (K + 1 + 1 + 1)) := fun wr ht => by
    have n1 : ∀ i, K + i ∉ [C] := fun i hm => by have := List.mem_singleton.1 hm; omega
    have s1 := ht.row r1 (n1 1)
    have s2 := ht.row r2 (n1 2)
    have s3 := ht.row r3 (n1 3)
    have s4 := ht.row r4 (n1 4)
    have s5 := ht.row r5 (n1 5)
    refine ⟨fun i g hg => ?_⟩
    match i, hg with
    | 0, hg =>
      simp [knG] at hg; subst hg
      exact ⟨⟨_, 0, rfl, s5.cell 0⟩, writes_one (l := [1]) (by unfold R64; omega) (by simp) s2 s1⟩
    | 1, hg =>
      simp [knG] at hg; subst hg
      exact ⟨⟨_, 0, rfl, s5.cell 1⟩, writes_one (l := [2]) (by unfold R64; omega) (by simp) s4 s3⟩
    | i + 2, hg => simp [knG] at hg
  have HCa := Lib.hid (Cached_any (HC1.out.below HB2.out) (some ⟨K + 1 + 1 + 1 + 1 + 1, 0, none⟩) 2 (knG (K + 1 + 1) (K + 1 + 1 + 1 + 1) (K + 1) (K + 1 + 1 + 1)) (by simp [knG]) (by simp [knG]) hG)
  have HR0 := Lib.hid r0
  have HK := Lib.hid hK
  have HW2 := Lib.hid hw2
  clear r0 r1 r2 r3 r4 r5 hG hw2 hK
  go_wp2_with fail
  rw [← HW2.out, ← HK.out]
  refine HCa.out.mono ?_
  rintro e w3 ⟨⟨v, rfl⟩, ⟨v4, hc3⟩, ht3⟩
  have HC3 : Hid (CrIs w3 w.heap.size C H L v4 (.slice none 0 0) knS) := hc3
  have HR3 := Lib.hid (ht3.row HR0.out (by simp; omega))
  have HB3 : Hid (Below w.heap.size w w3) := ht3.below (HB1.out.trans (HB2.out.mono HB1.out.size)) (by have := HB1.out.size; have := HB2.out.size; omega) (fun y hy => by rw [List.mem_singleton.1 hy]; exact hc3.low.1)
  clear HCa hc3 ht3
  have HKn : Hid (∀ (a b : Nat), a < 256 → b < 256 → ∀ u, CrIs u w.heap.size C H L v4 (.slice none 0 0) knS → Row u K 25 #[.pointer (some ⟨C, 0, none⟩)] → Calls Try.prog 31 #[.int .u8 a, .int .u8 b, .pointer (some ⟨K, 0, none⟩)] u fun e w' => e = .returned (.bool (knS.may (rd2 a b))) ∧ Below u.heap.size u w') :=
    fun a b ha hb u hc hr => known1_any w.heap.size C H L v4 (.slice none 0 0) knS a b K ha hb u hc (hr.cell 0)
  clear hCK
  go_wp2_with fail
  refine (HKn.out 0 0 (by decide) (by decide) w3 HC3.out HR3.out).mono ?_
  rintro e w4 ⟨rfl, hb⟩
  rw [kn_may.1]
  have HC4 := Lib.hid (HC3.out.below hb)
  have HR4 := Lib.hid (HR3.out.below hb HR3.out.lt)
  have HB4 : Hid (Below w.heap.size w w4) := HB3.out.trans (hb.mono HB3.out.size)
  clear hb
  go_wp2_with fail
  refine (HKn.out 1 0 (by decide) (by decide) w4 HC4.out HR4.out).mono ?_
  rintro e w5 ⟨rfl, hb⟩
  rw [kn_may.2.1]
  have HC5 := Lib.hid (HC4.out.below hb)
  have HR5 := Lib.hid (HR4.out.below hb HR4.out.lt)
  have HB5 : Hid (Below w.heap.size w w5) := HB4.out.trans (hb.mono HB4.out.size)
  clear hb
  go_wp2_with fail
  refine (HKn.out 1 2 (by decide) (by decide) w5 HC5.out HR5.out).mono ?_
  rintro e w6 ⟨rfl, hb⟩
  rw [kn_may.2.2.1]
  have HC6 := Lib.hid (HC5.out.below hb)
  have HR6 := Lib.hid (HR5.out.below hb HR5.out.lt)
  have HB6 : Hid (Below w.heap.size w w6) := HB5.out.trans (hb.mono HB5.out.size)
  clear hb
  go_wp2_with fail
  refine (HKn.out 0 2 (by decide) (by decide) w6 HC6.out HR6.out).mono ?_
  rintro e w7 ⟨rfl, hb⟩
  rw [kn_may.2.2.2]
  have HC7 := Lib.hid (HC6.out.below hb)
  have HR7 := Lib.hid (HR6.out.below hb HR6.out.lt)
  have HB7 : Hid (Below w.heap.size w w7) := HB6.out.trans (hb.mono HB6.out.size)
  have HLe := Lib.hid (Levels_any HC7.out)
  have c1 := HR7.out.cell 0
  simp only [List.getElem?_toArray, List.getElem?_cons_zero, List.getElem?_cons_succ] at c1
  clear hb
  go_wp2_with fail
  refine HLe.out.mono ?_
  rintro e w8 ⟨rfl, hw8⟩
  subst hw8
  clear HLe c1
  go_wp2
  go_ret
  exact ⟨rfl, HB7.out⟩
end Go.Proofs.Ytomigaldomiefaa

namespace Go.Proofs.Ytomigaldomiefaa
set_option linter.unusedVariables false
set_option linter.unusedSimpArgs false

/-- What writes leave at a place. -/
def stepW (pl : Int) (h : List Nat) (x : Ws) : List Nat := if x.s = pl ∧ x.l.length = 2 then x.l else h
def hasOf (pl : Int) (its : List Ws) : List Nat := its.foldl (stepW pl) [0, 0]
theorem hasOf_take (pl : Int) (its : List Ws) (k : Nat) (x : Ws) (h : its[k]? = some x) : hasOf pl (its.take (k + 1)) = stepW pl (hasOf pl (its.take k)) x := by
  unfold hasOf
  rw [List.take_add_one, h, List.foldl_append]; rfl
theorem hasOf_length (pl : Int) (its : List Ws) : (hasOf pl its).length = 2 := by
  unfold hasOf
  suffices ∀ h : List Nat, h.length = 2 → (its.foldl (stepW pl) h).length = 2 from this _ rfl
  induction its with
  | nil => intro h hh; exact hh
  | cons x its ih =>
    intro h hh
    rw [List.foldl_cons]
    refine ih _ ?_
    unfold stepW
    split
    · rename_i hx; exact hx.2
    · exact hh
theorem durable_base0 (n p : Nat) (hp : p < n) (its : List Ws) : ∀ S : Cr, S.sz = 2 → (S.durable (rightL n 2 its)).base0 p = its.foldl (stepW p) (S.base0 p) ∧ (S.durable (rightL n 2 its)).loose p = (S.durable (rightL n 2 its)).loose p := by
  induction its with
  | nil => intro S _; exact ⟨rfl, rfl⟩
  | cons x its ih =>
    intro S hS
    refine ⟨?_, rfl⟩
    by_cases hx : 0 ≤ x.s ∧ x.s < (n : Int) ∧ x.l.length = 2
    · have e : rightL n 2 (x :: its) = x.key :: rightL n 2 its := by
        unfold rightL
        rw [List.filter_cons_of_pos (by simpa using hx)]; rfl
      rw [e]
      show ((S.put x.key).durable (rightL n 2 its)).base0 p = _
      rw [(ih (S.put x.key) hS).1, List.foldl_cons]
      congr 1
      unfold stepW Cr.base0 Cr.put updH
      show (if p = x.s.toNat then some x.l else S.has p).getD (zs S.sz) = _
      by_cases h : p = x.s.toNat
      · rw [if_pos h, if_pos ⟨by omega, hx.2.2⟩]; rfl
      · rw [if_neg h, if_neg (fun h2 => h (by have := h2.1; omega))]
    · have e : rightL n 2 (x :: its) = rightL n 2 its := by
        unfold rightL
        rw [List.filter_cons_of_neg (by simpa using hx)]
      rw [e, (ih S hS).1, List.foldl_cons]
      congr 1
      unfold stepW
      rw [if_neg (fun h => hx ⟨by omega, by omega, h.2⟩)]
theorem durable_loose (l : List Wr) : ∀ S : Cr, (∀ p, S.loose p = false) → ∀ p, (S.durable l).loose p = false := by
  induction l with
  | nil => intro S h; exact h
  | cons x l ih =>
    intro S h
    refine ih (S.put x) (fun p => ?_)
    unfold Cr.put updL
    show (if p = x.1 then false else S.loose p) = false
    split
    · rfl
    · exact h p
section
variable (n : Nat) (its : List Ws)
theorem whole_level (k p : Nat) (hp : p < n) : ((cr0 n 2).durable (rightL n 2 its)).level k p = [hasOf p its] := by
  obtain ⟨h1, h2, h3, h4⟩ := durable_same (rightL n 2 its) (cr0 n 2)
  have h5 := durable_loose (rightL n 2 its) (cr0 n 2) (fun _ => rfl) p
  have hm : ((cr0 n 2).durable (rightL n 2 its)).mov p = false := by
    unfold Cr.mov
    rw [h3, h4, h5]; rfl
  rw [still_level hm, (durable_base0 n p hp its (cr0 n 2) rfl).1]
  rfl
theorem whole_may (pl : Int) (o : List Nat) (ho : o.length = 2) (hbo : ∀ u ∈ o, u < 256) : ((cr0 n 2).durable (rightL n 2 its)).may (fun p => if (p : Int) = pl then o else []) = (!decide (0 ≤ pl ∧ pl < (n : Int)) || (o == hasOf pl its)) := by
  obtain ⟨h1, h2, h3, h4⟩ := durable_same (rightL n 2 its) (cr0 n 2)
  rw [Bool.eq_iff_iff, Cr.may_iff, h3, h1]
  show (∃ k, k ≤ 0 ∧ ∀ p, p < n → _) ↔ _
  simp only [Bool.or_eq_true, Bool.not_eq_true', decide_eq_false_iff_not, beq_iff_eq]
  have hat : ∀ k p, p < n → ∀ b : List Nat, ((cr0 n 2).durable (rightL n 2 its)).at k p b = true ↔ (b = hasOf p its ∨ b = []) := fun k p hp b => by
    unfold Cr.at
    rw [whole_level n its k p hp]
    simp only [Bool.or_eq_true, List.contains_iff_mem, List.mem_singleton, List.isEmpty_iff]
  constructor
  · rintro ⟨k, _, h⟩
    by_cases hin : 0 ≤ pl ∧ pl < (n : Int)
    · right
      have h6 := h pl.toNat (by omega)
      rw [hat k _ (by omega), if_pos (by omega)] at h6
      rcases h6 with h6 | h6
      · rw [h6]; congr 1; omega
      · rw [h6] at ho; cases ho
    · exact .inl hin
  · intro h
    refine ⟨0, Nat.le_refl _, fun p hp => ?_⟩
    rw [hat 0 p hp]
    by_cases e : (p : Int) = pl
    · rw [if_pos e]
      rcases h with h | h
      · exact absurd ⟨by omega, by omega⟩ h
      · left; rw [h, e]
    · rw [if_neg e]; right; rfl
end
end Go.Proofs.Ytomigaldomiefaa

namespace Go.Proofs.Ytomigaldomiefaa
open Go.RowKit Go.Shelf Go.MapKept Go.ChangeMaps
attribute [local go_sem] Oper.semAt_some
attribute [local simp, local go_sem] wide_fn
set_option linter.unusedVariables false
set_option linter.unusedSimpArgs false

theorem whole_results (tmps : Array Value) (W : World) (R : Nat) (u : Value) (h8 : tmps.getD 8 undef = .pointer (some ⟨R, 0, none⟩)) (r0 : W.cell? ⟨R, 0, none⟩ = some u) :
    (results Try.f5 tmps).run Try.prog W = .ok u W := by
  simp at h8
  simp [results, Try.results5, go_sem, h8, r0]
set_option maxHeartbeats 1000000 in
theorem whole1_any (p Z1 Z2 c : Nat) (pl : Int) (A : Option Addr) (o : List Nat) (w : World) (c1 : w.cell? ⟨Z1, 0, none⟩ = some (.int .i64 pl)) (c2 : w.cell? ⟨Z2, 0, none⟩ = some (.slice A o.length c)) (hd : Cells8 w A o) :
    Calls Try.prog 20 #[.int .i64 p, .pointer (some ⟨Z1, 0, none⟩), .pointer (some ⟨Z2, 0, none⟩)] w fun e w' => ∃ A c, e = .returned (.slice A (if (p : Int) = pl then o else []).length c) ∧ Cells8 w' A (if (p : Int) = pl then o else []) ∧ Below w.heap.size w w' := by
  have HD := Lib.hid hd
  clear hd
  by_cases hp : (p : Int) = pl
  · rw [if_pos hp]
    subst hp
    generalize o.length = ol at *
    go_enter Try.func20, Try.ntmps20
    go_wp2
    go_ret
    exact ⟨A, c, rfl, HD.out, Below.refl _ _⟩
  · rw [if_neg hp]
    generalize o.length = ol at *
    go_enter Try.func20, Try.ntmps20
    go_wp2
    go_ret
    exact ⟨none, 0, rfl, fun i hi => by simp at hi, Below.refl _ _⟩
theorem whole_ok (n Z1 Z2 c : Nat) (hn : n ≤ 4294967296) (pl : Int) (A : Option Addr) (o : List Nat) (hb : ∀ u ∈ o, u < 256) (T : List Nat) (w : World) (h : ∀ V, Turns w V T → V.cell? ⟨Z1, 0, none⟩ = some (.int .i64 pl) ∧ V.cell? ⟨Z2, 0, none⟩ = some (.slice A o.length c) ∧ Cells8 V A o) :
    RdOk w T n 20 #[.pointer (some ⟨Z1, 0, none⟩), .pointer (some ⟨Z2, 0, none⟩)] (fun p => if (p : Int) = pl then o else []) :=
  ⟨enters_of Try.func20 (by kernel_rfl) rfl, fun p hp V hV => whole1_any p Z1 Z2 c pl A o V (h V hV).1 (h V hV).2.1 (h V hV).2.2, fun p u hu => by
    split at hu
    · exact hb u hu
    · cases hu⟩
/-- What is boxed at the start. -/
structure WholeAt (w w1 : World) (pl : Int) (v2 : Value) : Prop where
  below : Below w.heap.size w w1
  z1 : Row w1 w.heap.size 3 #[.int .i64 pl]
  z2 : Row w1 (w.heap.size + 1) 22 #[v2]
  r : Row w1 (w.heap.size + 1 + 1) 4 #[.bool false]
theorem wholeAt (w : World) (pl : Int) (v2 : Value) : WholeAt w (((w.alloc (.cells #[.int .i64 pl] 3)).alloc (.cells #[v2] 22)).alloc (.cells #[.bool false] 4)) pl v2 := by
  refine ⟨by (repeat (first | (with_reducible refine Below.drew ?_) | (with_reducible refine below_drewN0 ?_ _) | ((with_reducible refine Below.setCell ?_ ?_ _); rotate_left; focus (first | omega | (simp; done) | (simp; omega) | (simp at *; omega))) | ((with_reducible refine Below.alloc ?_ ?_ _); rotate_left; focus (first | omega | (simp; done) | (simp; omega) | (simp at *; omega))) | (with_reducible exact Below.refl _ _))), ((Row.fresh _ _ _).alloc _).alloc _, ?_, ?_⟩
  · have := Row.fresh (w.alloc (.cells #[.int .i64 pl] 3)) 22 #[v2]
    rw [World.size_alloc] at this; exact this.alloc _
  · have := Row.fresh ((w.alloc (.cells #[.int .i64 pl] 3)).alloc (.cells #[v2] 22)) 4 #[.bool false]
    simp only [World.size_alloc] at this; exact this
set_option maxRecDepth 100000 in
set_option maxHeartbeats 4000000 in
theorem whole_out (n : Int) (pl : Int) (A1 A2 : Option Addr) (n1 c1 n2 c2 : Nat) (w : World) (hout : n < 1 ∨ 40 < n ∨ 100 < n1 ∨ ¬ n2 = 2) :
    Calls Try.prog 5 #[.int .i64 n, .slice A1 n1 c1, .int .i64 pl, .slice A2 n2 c2] w fun e w' => e = .returned (.bool true) ∧ Below w.heap.size w w' := by
  obtain ⟨w1, hw1⟩ : ∃ w1, w1 = ((w.alloc (.cells #[.int .i64 pl] 3)).alloc (.cells #[.slice A2 n2 c2] 22)).alloc (.cells #[.bool false] 4) := ⟨_, rfl⟩
  have HA : Hid (WholeAt w w1 pl (.slice A2 n2 c2)) := by unfold Hid; rw [hw1]; exact wholeAt _ _ _
  have HW1 := Lib.hid hw1
  clear hw1
  by_cases q1 : n < 1
  · clear hout
    refine (callsIn_wide (n := 9)).1 (callsIn_of_wp_marks Try.func5 rfl trivial ?_ rfl)
    simp only [Try.ntmps5, List.size_toArray, List.length_cons, List.length_nil, Nat.reduceAdd, Nat.reduceSub, Array.replicate_succ, Array.replicate_zero, List.push_toArray, List.append_toArray, List.nil_append, List.cons_append]
    refine wpIn_wide.2 ?_
    go_wp2_with fail
    rw [← HW1.out]
    refine (known_any w1).mono ?_
    rintro e w2 ⟨rfl, hb⟩
    have d1 := (HA.out.z2.below hb HA.out.z2.lt).cell 0
    have d2 := HA.out.r.below hb HA.out.r.lt
    have f2 := d2.frozen 0
    have d3 := d2.cell 0
    simp only [List.getElem?_toArray, List.getElem?_cons_zero, List.getElem?_cons_succ] at d1 d3
    go_wp2_with fail
    refine ⟨_, whole_results _ _ _ (.bool true) rfl ?_, rfl, ?_⟩
    · have := d2.put 0 (.bool true)
      exact Row.cell (by simpa using this) 0
    · exact (HA.out.below.trans (hb.mono HA.out.below.size)).setCell (by show w.heap.size ≤ w.heap.size + 1 + 1; omega) _
  by_cases q2 : 40 < n
  · clear hout
    refine (callsIn_wide (n := 9)).1 (callsIn_of_wp_marks Try.func5 rfl trivial ?_ rfl)
    simp only [Try.ntmps5, List.size_toArray, List.length_cons, List.length_nil, Nat.reduceAdd, Nat.reduceSub, Array.replicate_succ, Array.replicate_zero, List.push_toArray, List.append_toArray, List.nil_append, List.cons_append]
    refine wpIn_wide.2 ?_
    go_wp2_with fail
    rw [← HW1.out]
    refine (known_any w1).mono ?_
    rintro e w2 ⟨rfl, hb⟩
    have d1 := (HA.out.z2.below hb HA.out.z2.lt).cell 0
    have d2 := HA.out.r.below hb HA.out.r.lt
    have f2 := d2.frozen 0
    have d3 := d2.cell 0
    simp only [List.getElem?_toArray, List.getElem?_cons_zero, List.getElem?_cons_succ] at d1 d3
    go_wp2_with fail
    refine ⟨_, whole_results _ _ _ (.bool true) rfl ?_, rfl, ?_⟩
    · have := d2.put 0 (.bool true)
      exact Row.cell (by simpa using this) 0
    · exact (HA.out.below.trans (hb.mono HA.out.below.size)).setCell (by show w.heap.size ≤ w.heap.size + 1 + 1; omega) _
  by_cases q3 : 100 < n1
  · clear hout
    have p3 : (100 : Int) < n1 := by omega
    refine (callsIn_wide (n := 9)).1 (callsIn_of_wp_marks Try.func5 rfl trivial ?_ rfl)
    simp only [Try.ntmps5, List.size_toArray, List.length_cons, List.length_nil, Nat.reduceAdd, Nat.reduceSub, Array.replicate_succ, Array.replicate_zero, List.push_toArray, List.append_toArray, List.nil_append, List.cons_append]
    refine wpIn_wide.2 ?_
    go_wp2_with fail
    rw [← HW1.out]
    refine (known_any w1).mono ?_
    rintro e w2 ⟨rfl, hb⟩
    have d1 := (HA.out.z2.below hb HA.out.z2.lt).cell 0
    have d2 := HA.out.r.below hb HA.out.r.lt
    have f2 := d2.frozen 0
    have d3 := d2.cell 0
    simp only [List.getElem?_toArray, List.getElem?_cons_zero, List.getElem?_cons_succ] at d1 d3
    go_wp2_with fail
    refine ⟨_, whole_results _ _ _ (.bool true) rfl ?_, rfl, ?_⟩
    · have := d2.put 0 (.bool true)
      exact Row.cell (by simpa using this) 0
    · exact (HA.out.below.trans (hb.mono HA.out.below.size)).setCell (by show w.heap.size ≤ w.heap.size + 1 + 1; omega) _
  have p3 : ¬ (100 : Int) < n1 := by omega
  have q4 : ¬ n2 = 2 := by omega
  have p4 : ¬ (n2 : Int) = 2 := by omega
  clear hout
  refine (callsIn_wide (n := 9)).1 (callsIn_of_wp_marks Try.func5 rfl trivial ?_ rfl)
  simp only [Try.ntmps5, List.size_toArray, List.length_cons, List.length_nil, Nat.reduceAdd, Nat.reduceSub, Array.replicate_succ, Array.replicate_zero, List.push_toArray, List.append_toArray, List.nil_append, List.cons_append]
  refine wpIn_wide.2 ?_
  go_wp2_with fail
  rw [← HW1.out]
  refine (known_any w1).mono ?_
  rintro e w2 ⟨rfl, hb⟩
  have d1 := (HA.out.z2.below hb HA.out.z2.lt).cell 0
  have d2 := HA.out.r.below hb HA.out.r.lt
  have f2 := d2.frozen 0
  have d3 := d2.cell 0
  simp only [List.getElem?_toArray, List.getElem?_cons_zero, List.getElem?_cons_succ] at d1 d3
  go_wp2_with fail
  focus
    refine ⟨_, whole_results _ _ _ (.bool true) rfl ?_, rfl, ?_⟩
    · have := d2.put 0 (.bool true)
      exact Row.cell (by simpa using this) 0
    · exact (HA.out.below.trans (hb.mono HA.out.below.size)).setCell (by show w.heap.size ≤ w.heap.size + 1 + 1; omega) _
  · exfalso
    have hx : ((n2 : Int) != 2) = false := (‹((_ ∧ _) ∧ _) ∧ ((n2 : Int) != 2) = false›).2
    simp only [bne_eq_false_iff_eq] at hx
    omega
end Go.Proofs.Ytomigaldomiefaa
