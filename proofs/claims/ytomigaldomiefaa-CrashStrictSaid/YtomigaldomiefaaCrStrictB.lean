/- CrashStrict: its walk. -/
import Derived.Test.YtomigaldomiefaaCrStrictA
namespace Go.Proofs.Ytomigaldomiefaa
open Go.RowKit Go.Shelf Go.MapKept Go.ChangeMaps
attribute [local go_sem] Oper.semAt_some
attribute [local simp, local go_sem] wide_fn
set_option linter.unusedVariables false
set_option linter.unusedSimpArgs false

set_option maxRecDepth 100000 in
set_option maxHeartbeats 8000000 in
theorem strict_walk (one two f0 f1 t0 t1 : Nat) (h1 : one < 31) (h2 : two < 31) (hne : one ≠ two) (hf0 : f0 ≠ 0) (ht0 : t0 ≠ 0) (hfb : f0 < 256 ∧ f1 < 256) (htb : t0 < 256 ∧ t1 < 256) (A1 A2 A3 : Option Addr) (c1 c2 c3 : Nat) (hc1 : 2 ≤ c1) (hc2 : 2 ≤ c2) (its : List Ws) (hl : its.length ≤ 30) (hc3 : its.length ≤ c3) (w : World) (hd1 : Cells8 w A1 [f0, f1]) (hd2 : Cells8 w A2 [t0, t1]) (hW : Writes w A3 its) :
    Calls Try.prog 3 #[.int .i64 one, .int .i64 two, .slice A1 2 c1, .slice A2 2 c2, .slice A3 its.length c3] w fun e w' => e = .returned (.bool true) ∧ Below w.heap.size w w' := by
  obtain ⟨w1, hw1⟩ : ∃ w1, w1 = ((w.alloc (.cells #[.int .i64 one] 3)).alloc (.cells #[.int .i64 two] 3)).alloc (.cells #[.slice A2 2 c2] 22) := ⟨_, rfl⟩
  obtain ⟨Z1, hZ1⟩ : ∃ Z, Z = w.heap.size := ⟨_, rfl⟩
  obtain ⟨Z2, hZ2⟩ : ∃ Z, Z = w.heap.size + 1 := ⟨_, rfl⟩
  obtain ⟨Z3, hZ3⟩ : ∃ Z, Z = w.heap.size + 1 + 1 := ⟨_, rfl⟩
  have HB1 : Hid (Below w.heap.size w w1) := by unfold Hid; rw [hw1]; (repeat (first | (with_reducible refine Below.drew ?_) | (with_reducible refine below_drewN0 ?_ _) | ((with_reducible refine Below.setCell ?_ ?_ _); rotate_left; focus (first | omega | (simp; done) | (simp; omega) | (simp at *; omega))) | ((with_reducible refine Below.alloc ?_ ?_ _); rotate_left; focus (first | omega | (simp; done) | (simp; omega) | (simp at *; omega))) | (with_reducible exact Below.refl _ _)))
  have HR1 : Hid (Row w1 Z1 3 #[.int .i64 one]) := by unfold Hid; rw [hw1, hZ1]; exact ((Row.fresh _ _ _).alloc _).alloc _
  have HR2 : Hid (Row w1 Z2 3 #[.int .i64 two]) := by
    unfold Hid; rw [hw1, hZ2]
    have := Row.fresh (w.alloc (.cells #[.int .i64 one] 3)) 3 #[.int .i64 two]
    rw [World.size_alloc] at this; exact this.alloc _
  have HR3 : Hid (Row w1 Z3 22 #[.slice A2 2 c2]) := by
    unfold Hid; rw [hw1, hZ3]
    have := Row.fresh ((w.alloc (.cells #[.int .i64 one] 3)).alloc (.cells #[.int .i64 two] 3)) 22 #[.slice A2 2 c2]
    simp only [World.size_alloc] at this; exact this
  have HD1 := Lib.hid hd1
  have HD2 := Lib.hid hd2
  have HW := Lib.hid hW
  have HW1 := Lib.hid hw1
  have HZ := Lib.hid (And.intro hZ1 (And.intro hZ2 hZ3))
  obtain ⟨b1, o1, rfl, q0⟩ := hd1 0 (by simp)
  obtain ⟨b2, o2, rfl, q1⟩ := hd2 0 (by simp)
  simp only [Nat.add_zero, List.getD_cons_zero] at q0 q1
  have Hq0 := Lib.hid q0
  have Hq1 := Lib.hid q1
  obtain ⟨n, hn⟩ : ∃ n, n = its.length := ⟨_, rfl⟩
  have HN := Lib.hid hn
  rw [← hn] at hl hc3 ⊢
  have p1 : ¬ (one : Int) < 0 := by omega
  have p2 : ¬ (two : Int) < 0 := by omega
  have p3 : ¬ (30 : Int) < one := by omega
  have p4 : ¬ (30 : Int) < two := by omega
  have p5 : ¬ (one : Int) = two := by omega
  have p6 : ¬ (f0 : Int) = 0 := by omega
  have p7 : ¬ (t0 : Int) = 0 := by omega
  have p8 : ¬ (30 : Int) < n := by omega
  clear hd1 hd2 hW hw1 hZ1 hZ2 hZ3 q0 q1 hn
  go_enter Try.func3, Try.ntmps3
  go_wp2_with fail
  rw [← HW1.out, ← HZ.out.2.2, ← HZ.out.2.1, ← HZ.out.1]
  refine (known_any w1).mono ?_
  rintro e w2 ⟨rfl, hb⟩
  have HB2 : Hid (Below w.heap.size w w2) := HB1.out.trans (hb.mono HB1.out.size)
  have HS1 := Lib.hid (HR1.out.below hb HR1.out.lt)
  have HS2 := Lib.hid (HR2.out.below hb HR2.out.lt)
  have HS3 := Lib.hid (HR3.out.below hb HR3.out.lt)
  have d1 := HS1.out.cell 0
  have d2 := HS2.out.cell 0
  have d3 := HS3.out.cell 0
  simp only [List.getElem?_toArray, List.getElem?_cons_zero, List.getElem?_cons_succ] at d1 d2 d3
  have d4 := keep_below HB2.out _ _ Hq0.out
  have d5 := keep_below HB2.out _ _ Hq1.out
  have HNw := Lib.hid (New_yes 31 2 (by decide) (by decide) w2)
  clear hb
  go_wp2_with fail
  · exfalso
    rename_i hx
    simp only [beq_iff_eq] at hx
    omega
  refine HNw.out.mono ?_
  rintro e w3 ⟨C, H, L, rfl, hc, hb⟩
  clear d1 d2 d3 d4 d5
  have HB3 : Hid (Below w2.heap.size w2 w3) := hb
  have HC3 := Lib.hid hc
  have HT1 := Lib.hid (HS1.out.below hb HS1.out.lt)
  have HT2 := Lib.hid (HS2.out.below hb HS2.out.lt)
  have HT3 := Lib.hid (HS3.out.below hb HS3.out.lt)
  clear hb hc HNw
  go_wp2_with fail
  clear p1 p2 p3 p4 p5 p6 p7 p8
  have HBw : Hid (Below w.heap.size w w3) := HB2.out.trans (HB3.out.mono HB2.out.size)
  obtain ⟨kp, hkp⟩ : ∃ kp : Ws → Bool, kp = fun x => decide (x.s ≠ (one : Int)) && decide (x.s ≠ (two : Int)) := ⟨_, rfl⟩
  have HKp : Hid (∀ x, kp x = (decide (x.s ≠ (one : Int)) && decide (x.s ≠ (two : Int)))) := fun x => by rw [hkp]
  clear hkp
  have HNo : Hid (w3.ownsRow w3.heap.size 30 3 (.slice none 0 0) 0 []) := World.ownsRow_nil _ _ _ _
  go_loopw [13, 14] (fun lv i wr => ∃ k : Nat, i = .int .i64 k ∧ k ≤ n ∧ wr.ownsRow w3.heap.size 30 3 lv ((its.take k).filter kp).length (wrsV ((its.take k).filter kp)) ∧ Below w3.heap.size w3 wr) (fun _ i _ => n - (intOf i).toNat)
  case atStart => exact ⟨0, rfl, by omega, by simpa [wrsV] using HNo.out, Below.refl _ _⟩
  case round =>
    obtain ⟨k, rfl, hk, hown, hb⟩ := hrel
    have HOw := Lib.hid hown
    have HB := Lib.hid hb
    by_cases hkn : k < n
    · obtain ⟨x, hx⟩ : ∃ x, its[k]? = some x := ⟨_, List.getElem?_eq_getElem (by rw [← HN.out]; exact hkn)⟩
      obtain ⟨A', c', rfl, hcc, _⟩ := own_shape hown
      obtain ⟨⟨b, off, e1, hcell⟩, hA⟩ := HW.out.at0 k x hx
      subst e1
      have HBr : Hid (Below w.heap.size w wr) := HBw.out.trans (HB.out.mono HBw.out.size)
      have s0 := keep_below HBr.out _ _ (hcell 0 _ rfl)
      have s1 := keep_below HBr.out _ _ (hcell 1 _ rfl)
      have s2 := keep_below HBr.out _ _ (hcell 2 _ rfl)
      have d1 := (HT1.out.below hb HT1.out.lt).cell 0
      have d2 := (HT2.out.below hb HT2.out.lt).cell 0
      simp only [List.getElem?_toArray, List.getElem?_cons_zero, List.getElem?_cons_succ, Nat.add_zero] at s0 s1 s2 d1 d2
      rw [← Nat.add_assoc] at s1 s2
      have HT : Hid ((its.take (k + 1)).filter kp = (its.take k).filter kp ++ (if kp x then [x] else [])) := by
        unfold Hid
        rw [List.take_add_one, hx, List.filter_append]
        congr 1
        cases h : kp x <;> simp [h]
      obtain ⟨xa, xs, xA, xc, xl⟩ := x
      simp only at s0 s1 s2
      have HKx := Lib.hid (HKp.out ⟨xa, xs, xA, xc, xl⟩)
      simp only at HKx
      have HA := Lib.hid hA
      clear hown hb hx hcell hA
      have HOl : Hid (((its.take k).filter kp).length ≤ 30) := by
        have h1 := List.length_filter_le kp (its.take k)
        have h2 : (its.take k).length ≤ k := by rw [List.length_take]; omega
        unfold Hid; omega
      by_cases g1 : xs = one
      · subst g1
        have HK0 : Hid (kp ⟨xa, one, xA, xc, xl⟩ = false) := by unfold Hid; rw [HKx.out]; simp
        rw [HK0.out] at HT
        go_wp2_with fail
        refine wp_region_noPanic ?_
        go_quiet (fail)
        refine NoPanic.normal ?_
        clear s0 s1 s2 d1 d2
        go_wp2
        go_roundw
        case rel => exact ⟨k + 1, by go_num, by omega, by rw [HT.out]; simpa using own_drewN HOw.out nq, below_drewN0 HB.out nq⟩
        case measure => simp [intOf]; omega
      · by_cases g2 : xs = two
        · subst g2
          have HK0 : Hid (kp ⟨xa, two, xA, xc, xl⟩ = false) := by unfold Hid; rw [HKx.out]; simp
          rw [HK0.out] at HT
          go_wp2_with fail
          refine wp_region_noPanic ?_
          go_quiet (fail)
          refine NoPanic.normal ?_
          clear s0 s1 s2 d1 d2
          go_wp2
          go_roundw
          case rel => exact ⟨k + 1, by go_num, by omega, by rw [HT.out]; simpa using own_drewN HOw.out nq, below_drewN0 HB.out nq⟩
          case measure => simp [intOf]; omega
        · have HK0 : Hid (kp ⟨xa, xs, xA, xc, xl⟩ = true) := by unfold Hid; rw [HKx.out]; simp [g1, g2]
          rw [HK0.out] at HT
          obtain ⟨i0, hi, hz0, hz1, hz2⟩ := info_parts write_info
          obtain ⟨wa, hwa⟩ : ∃ wa : Nat → World, wa = fun q => (wr.drewN q).alloc (.cells #[.int .i64 xa, .int .i64 xs, .slice xA xl.length xc] 30) := ⟨_, rfl⟩
          have HBa : Hid (∀ q, Below w3.heap.size w3 (wa q)) := fun q => by rw [hwa]; exact (below_drewN0 HB.out q).alloc (below_drewN0 HB.out q).size _
          have HOa : Hid (∀ q, (wa q).ownsRow w3.heap.size 30 3 (.slice A' ((its.take k).filter kp).length c') ((its.take k).filter kp).length (wrsV ((its.take k).filter kp))) := fun q => by
            rw [hwa]; exact own_below (w := wr.drewN q) (own_drewN HOw.out q) ((Below.refl _ _).alloc (Nat.le_refl _) _)
          have HSa : Hid (∀ q, Src (wa q) 3 (some ⟨wr.heap.size, 0, none⟩) 1 (Ws.wr ⟨xa, xs, xA, xc, xl⟩)) := fun q => by
            rw [hwa]; exact src_new (w := wr.drewN q) (t := 30) (cs := [.int .i64 xa, .int .i64 xs, .slice xA xl.length xc]) (sz := 3) rfl
          have HWa : Hid (∀ q, (wr.drewN q).alloc (.cells #[.int .i64 xa, .int .i64 xs, .slice xA xl.length xc] 30) = wa q) := fun q => by rw [hwa]
          clear hwa
          have g1b : (xs != (one : Int)) = true := by simp [g1]
          have g2b : (xs != (two : Int)) = true := by simp [g2]
          go_wp2_with fail
          refine wp_region_noPanic ?_
          go_quiet (fail)
          refine NoPanic.normal ?_
          clear d1 d2
          have HA2 := HOl.out
          have HAw : Hid (w3.heap.size ≤ (wa nq).heap.size) := (HBa.out nq).size
          go_wp2_with (at_builtin; rw [HWa.out nq]; refine wpList_append_src _ rfl _ _ 23 rfl w3.heap.size 30 i0 _ 3 40 Try.underlying23 hi hz0 hz1 hz2 rfl (by decide) (.slice A' ((its.take k).filter kp).length c') ((its.take k).filter kp).length (wrsV ((its.take k).filter kp)) rfl (HOa.out nq) (some ⟨wr.heap.size, 0, none⟩) 1 1 (Ws.wr ⟨xa, xs, xA, xc, xl⟩) rfl (HSa.out nq) (by intro u hu; simp [Ws.wr] at hu; rcases hu with rfl | rfl | rfl <;> rfl) (by unfold maxLen; omega) (by omega) HAw.out ?_; intro v' w7 hown hgrow hv)
          obtain ⟨A6, c6, rfl, _, _⟩ := own_shape hown
          have HB7 : Hid (Below w3.heap.size w3 w7) := (HBa.out nq).grown hgrow HAw.out (fun y hy => by
            cases A' with
            | none => simp [Value.ownBlock] at hy
            | some ad => exact (own_blk (HOa.out nq) (k := y) (by unfold blkV; rw [hy]; simp)).1)
          have HO7 : Hid (w7.ownsRow w3.heap.size 30 3 (.slice A6 (((its.take k).filter kp).length + 1) c6) ((its.take (k + 1)).filter kp).length (wrsV ((its.take (k + 1)).filter kp))) := by
            unfold Hid
            rw [HT.out]
            simp only [if_true, List.length_append, List.length_cons, List.length_nil]
            have e : wrsV ((its.take k).filter kp ++ [⟨xa, xs, xA, xc, xl⟩]) = wrsV ((its.take k).filter kp) ++ Ws.wr ⟨xa, xs, xA, xc, xl⟩ := by simp [wrsV]
            rw [e]; exact hown
          clear hown hgrow hv s0 s1 s2 hi hz0 hz1 hz2
          go_wp2
          go_roundw
          case rel => exact ⟨k + 1, by go_num, by omega, HO7.out, HB7.out⟩
          case measure => simp [intOf]; omega
    · obtain rfl : k = n := by omega
      have hall : its.take k = its := by rw [HN.out]; exact List.take_length
      rw [hall] at hown
      obtain ⟨last, hlast⟩ : ∃ last, last = its.filter kp := ⟨_, rfl⟩
      rw [← hlast] at hown
      obtain ⟨A', c', rfl, _, _⟩ := own_shape hown
      have HOl := Lib.hid hown
      have HLa : Hid (∀ x ∈ last, ArgW w x ∧ x.s ≠ (one : Int) ∧ x.s ≠ (two : Int)) := fun x hx => by
        rw [hlast] at hx
        obtain ⟨hm, hk⟩ := List.mem_filter.1 hx
        obtain ⟨i, hi⟩ := List.mem_iff_getElem?.1 hm
        rw [HKp.out] at hk
        simp only [Bool.and_eq_true, decide_eq_true_eq] at hk
        exact ⟨(HW.out.at0 i x hi).2, hk.1, hk.2⟩
      have HLl : Hid (last.length ≤ 30) := by
        have := List.length_filter_le kp its
        have := HN.out
        unfold Hid; rw [hlast]; omega
      have HBr : Hid (Below w.heap.size w wr) := HBw.out.trans (HB.out.mono HBw.out.size)
      have HCr := Lib.hid (HC3.out.below HB.out)
      have HU1 := Lib.hid (HT1.out.below HB.out HT1.out.lt)
      have HU2 := Lib.hid (HT2.out.below HB.out HT2.out.lt)
      have HU3 := Lib.hid (HT3.out.below HB.out HT3.out.lt)
      have HWB : Hid (w.heap.size ≤ w2.heap.size) := HB2.out.size
      clear hown hb hall hlast
      go_upto_region 14 with fail
      refine strict14 _ (by kernel_rfl) one two f0 f1 t0 t1 h1 h2 hfb htb b1 o1 b2 o2 c1 c2 hc1 hc2 Z1 Z2 Z3 w2.heap.size C H L A' c' w3.heap.size last w wr HD1 HD2 (fun x hx => (HLa.out x hx).1) HLl HOl HBr HWB HCr HU1 HU2 HU3 _ _ _ _ _ _ _ _ _ _ _ _ _ _ _ _ _ _ _ _ _ _ _ _ _ _ _ _ _ _ _ _ _ _ _ _ _ _ _ _ _ _ _ _ _ _ _ _ _ _ _ _ _ _ _ _ _ _ _ _ _ _ _ _ _ _ _ _ _ _ _ _ _ _ _ _ _ _ _ _ _ _ _ _ _ _ _ _ _ _ _ _ _ _ _ _ _ _ _ _ _ _ _ _ _ _ _ _ _ _ _ _ _ _ ?_
      intro x102 x103 x104 x105 x106 x107 x108 x109 x110 x111 x112 x113 x114 wc ⟨⟨v, hc⟩, ht⟩
      have nC : ∀ {g : Nat} {ty : TypeId} {cs : Array Value}, Row wr g ty cs → ty ≠ 67 → g ∉ [C] := fun hr hne hm => Row.ne_type hr HCr.out.row hne (List.mem_singleton.1 hm)
      have HBc : Hid (Below w.heap.size w wc) := ht.below HBr.out HBr.out.size (fun y hy => by rw [List.mem_singleton.1 hy]; exact Nat.le_trans HWB.out HCr.out.low.1)
      have hrd := strict_reads one two (some ⟨b2, o2, none⟩) c2 [t0, t1] (by simp; omega) Z1 Z2 Z3 31 wc ((ht.row HU1.out (nC HU1.out (by decide))).cell 0) ((ht.row HU2.out (nC HU2.out (by decide))).cell 0) ((ht.row HU3.out (nC HU3.out (by decide))).cell 0) (HD2.out.keep (keep_below HBc.out))
      have HMy := Lib.hid (May_any w2.heap.size C H L v _ _ [] _ _ (rdS one two [t0, t1]) wc hrd hc)
      have HPl : Hid (({ cr0 31 2 with groups := [[(one, [f0, f1])], (two, [t0, t1]) :: rightL 31 2 last] } : Cr).may (rdS one two [t0, t1]) = false) :=
        strict_plain 31 one two h1 h2 hne [f0, f1] [t0, t1] rfl rfl hf0 ht0 (rightL 31 2 last) (fun x hx => by
          unfold rightL at hx
          obtain ⟨y, hy, rfl⟩ := List.mem_map.1 hx
          obtain ⟨hy1, hy2⟩ := List.mem_filter.1 hy
          have := HLa.out y hy1
          simp only [decide_eq_true_eq] at hy2
          refine ⟨fun e => this.2.1 ?_, fun e => this.2.2 ?_⟩ <;> (simp only [Ws.key] at e; omega)) (rdS one two [t0, t1]) (by simp [rdS]) (by simp [rdS, Ne.symm hne])
      rw [HPl.out] at HMy
      clear hc ht hrd
      go_wp2_with fail
      refine HMy.out.mono ?_
      rintro e w9 ⟨rfl, hb9⟩
      have HB9 : Hid (Below w.heap.size w w9) := HBc.out.trans (hb9.mono HBc.out.size)
      clear hb9 HMy
      go_wp2
      go_ret
      exact ⟨rfl, HB9.out⟩
end Go.Proofs.Ytomigaldomiefaa
