/- locketlaw14.GuardGood. -/
import Derived.Test.YtallanlajecmhaaGuardPlain
import Derived.Test.YtallanlajecmhaaOpenStructs
namespace Go.Proofs.Ytallanlajecmhaa
open Go.RowKit
set_option linter.unusedVariables false
set_option linter.unusedSimpArgs false

theorem good_may {gs K : Nat} (hK : K < gs) (hgs : gs ≤ 256) (G L c : Nat) (ks : List Nat) (B : Nat) (w : World) (h : GHeld w B G L c ks) (hk : Kinds gs ks) (hg : ks.getD K 0 = 3) :
    Calls Try.prog 13 #[.pointer (some ⟨G, 0, none⟩), .int .i64 K] w fun e w' => e = .returned (.bool false) ∧ w = w' := by
  have := May_any G L c ks (by rw [hk.1]; exact hgs) K B w h hk.2
  rw [Int.toNat_natCast, hg] at this
  simpa using this
theorem good_kind {gs K : Nat} (hK : K < gs) (hgs : gs ≤ 256) (G L c : Nat) (ks : List Nat) (B : Nat) (w : World) (h : GHeld w B G L c ks) (hk : Kinds gs ks) (hg : ks.getD K 0 = 3) :
    Calls Try.prog 14 #[.pointer (some ⟨G, 0, none⟩), .int .i64 K] w fun e w' => e = .returned (.int .i64 3) ∧ w = w' := by
  have := Kind_any G L c ks (by rw [hk.1]; exact hgs) K B w h hk.2
  rw [Int.toNat_natCast, hg, if_pos (by rw [hk.1]; omega)] at this
  exact this

set_option maxHeartbeats 1000000 in
theorem good_walk (groups k : Int) (a : Option Addr) (n cap : Nat) (f : Nat → Nat → Int) (w : World) (hA : Acts w a n 3 f) :
    Calls Try.prog 3 #[.int .i64 groups, .int .i64 k, .slice a n cap] w fun e w' => e = .returned (.bool true) ∧ Below w.heap.size w w' := by
  by_cases hout : 300 < n ∨ groups < 1 ∨ 256 < groups ∨ k < 0 ∨ groups ≤ k
  · have key : (300 < n) ∨ (¬ 300 < n ∧ groups < 1) ∨ (¬ 300 < n ∧ ¬ groups < 1 ∧ 256 < groups) ∨ (¬ 300 < n ∧ ¬ groups < 1 ∧ ¬ 256 < groups ∧ k < 0) ∨ (¬ 300 < n ∧ ¬ groups < 1 ∧ ¬ 256 < groups ∧ ¬ k < 0 ∧ groups ≤ k) := by omega
    clear hout
    have e : ((300 : Int) < (n : Int)) = (300 < n) := by simp; omega
    rcases key with h1 | ⟨h1, h2⟩ | ⟨h1, h2, h3⟩ | ⟨h1, h2, h3, h4⟩ | ⟨h1, h2, h3, h4, h5⟩
    all_goals
      go_enter Try.func3, Try.ntmps3
      go_wp2_with fail
      refine (known_any _).mono ?_
      rintro e w1 ⟨rfl, hb1⟩
      have HB := Lib.hid hb1
      clear hb1
      go_wp2
      go_ret
      exact ⟨rfl, HB.out⟩
  · simp only [not_or, Int.not_lt, Nat.not_lt, Int.not_le] at hout
    obtain ⟨hn, hg1, hg2, hk0, hk1⟩ := hout
    obtain ⟨gs, rfl⟩ := Int.eq_ofNat_of_zero_le (show 0 ≤ groups by omega)
    obtain ⟨K, rfl⟩ := Int.eq_ofNat_of_zero_le hk0
    have h1 : ¬ ((300 : Int) < (n : Int)) := by omega
    have HA := Lib.hid hA
    clear hA
    go_enter Try.func3, Try.ntmps3
    go_wp2_with fail
    refine (known_any _).mono ?_
    rintro e w1 ⟨rfl, hb1⟩
    have HB1 := Lib.hid hb1
    clear hb1
    go_wp2_with fail
    refine (New_yes gs (by omega) (by omega) w1).mono ?_
    rintro e w2 ⟨G, L, c, rfl, hh, hb2⟩
    have HB2 : Hid (Below w.heap.size w w2) := HB1.out.trans (hb2.mono HB1.out.size)
    have HH : Hid (GHeld w2 w.heap.size G L c (List.replicate gs 0)) := hh.mono HB1.out.size
    clear hh hb2 HB1
    go_wp2_with fail
    refine (Level_any 2 _).mono ?_
    rintro e w2' ⟨rfl, rfl⟩
    rw [show (if 2 = 1 then (2 : Int) else if 2 = 2 then 3 else 1) = 3 from rfl]
    have hk2 : (List.replicate gs 0).length = gs := by simp
    have HS := Lib.hid (Set_any G L c (List.replicate gs 0) (by rw [hk2]; omega) (K : Int) 3 _ w2 HH.out (by intro x hx; have := List.eq_of_mem_replicate hx; omega))
    have e1 : setR (List.replicate gs 0) (K : Int) 3 = 0 := by
      unfold setR
      rw [if_pos (by unfold inR; rw [hk2]; omega), if_pos (by omega)]
    have hks : Kinds gs (setK (List.replicate gs 0) (K : Int) 3) ∧ (setK (List.replicate gs 0) (K : Int) 3).getD K 0 = 3 := by
      refine ⟨setK_kinds ⟨hk2, by intro x hx; have := List.eq_of_mem_replicate hx; omega⟩ _ _, ?_⟩
      unfold setK
      rw [if_pos (by unfold inR; rw [hk2]; omega), getD_set, if_pos (by rw [hk2]; exact ⟨rfl, by omega⟩)]
      have : (List.replicate gs 0).getD (K : Int).toNat 0 < 4 := getD_lt _ (by intro x hx; have := List.eq_of_mem_replicate hx; omega) _
      rw [show (3 : Int).toNat = 3 from rfl]; omega
    have HKS := Lib.hid hks
    rw [e1] at HS
    clear e1 hks hk2
    generalize setK (List.replicate gs 0) (K : Int) 3 = ks0 at *
    go_wp2_with fail
    refine HS.out.mono ?_
    rintro e w3 ⟨rfl, hh3, ht3⟩
    have HB3 : Hid (Below w.heap.size w w3) := ht3.below HB2.out HB2.out.size (by simpa using HH.out.hL.1)
    have HH3 := Lib.hid hh3
    clear hh3 ht3 HS HH HB2
    go_wp2
    go_loopw [9] (fun i wr => ∃ j : Nat, j ≤ n ∧ i = .int .i64 j ∧ (∃ L c ks, GHeld wr w.heap.size G L c ks ∧ Kinds gs ks ∧ ks.getD K 0 = 3) ∧ Below w.heap.size w wr) (fun i _ => n - (intOf i).toNat)
    case atStart => exact ⟨0, by omega, rfl, ⟨L, c, ks0, HH3.out, HKS.out⟩, HB3.out⟩
    case round =>
      clear HH3 HKS HB3
      obtain ⟨j, hj, rfl, ⟨L, c, ks, hh, hkk, hgood⟩, hb⟩ := hrel
      have HB := Lib.hid hb
      have HH := Lib.hid hh
      have HK := Lib.hid hkk
      have HG := Lib.hid hgood
      clear hh hkk hgood hb
      by_cases hjn : j < n
      · obtain ⟨b, off, rfl⟩ := HA.out.addr (by omega)
        have hbl := HA.out.lt (by omega) (by omega)
        have q0 : wr.cell? ⟨b, off + j * 3, none⟩ = some (.int .i64 (f j 0)) := (HB.out.cell (p := ⟨b, off + j * 3, none⟩) hbl).trans (HA.out.cells j 0 hjn (by omega))
        have q1 : wr.cell? ⟨b, off + j * 3 + 1, none⟩ = some (.int .i64 (f j 1)) := (HB.out.cell (p := ⟨b, off + j * 3 + 1, none⟩) hbl).trans (HA.out.cells j 1 hjn (by omega))
        have q2 : wr.cell? ⟨b, off + j * 3 + 2, none⟩ = some (.int .i64 (f j 2)) := (HB.out.cell (p := ⟨b, off + j * 3 + 2, none⟩) hbl).trans (HA.out.cells j 2 hjn (by omega))
        generalize f j 0 = o at *
        generalize f j 1 = g at *
        generalize f j 2 = kd at *
        have key : o = 1 ∨ (o ≠ 1 ∧ o = 2) ∨ (o ≠ 1 ∧ o ≠ 2 ∧ o = 3) ∨ (o ≠ 1 ∧ o ≠ 2 ∧ o ≠ 3) := by omega
        rcases key with rfl | ⟨h1, rfl⟩ | ⟨h1, h2, rfl⟩ | ⟨h1, h2, h3⟩
        · go_wp2
          refine region_tail 11 (by kernel_rfl) (by kernel_rfl) (fun U hU => ?_)
          simp only [List.take_succ_cons, List.take_zero, List.drop_succ_cons, List.drop_zero]
          have q1U : U.cell? ⟨b, off + j * 3 + 1, none⟩ = some (.int .i64 g) := by rw [hU]; exact q1
          have q2U : U.cell? ⟨b, off + j * 3 + 2, none⟩ = some (.int .i64 kd) := by rw [hU]; exact q2
          have HHU : Hid (GHeld U w.heap.size G L c ks) := by rw [hU]; exact HH.out.drewN 1
          have HBU : Hid (Below w.heap.size w U) := by rw [hU]; exact HB.out.drew
          clear hU q0 q1 q2 HH HB
          repeat still_step
          refine wpStill_nil ?_
          have HS := Lib.hid (Set_any G L c ks (by rw [HK.out.1]; omega) g kd _ U HHU.out HK.out.2)
          go_wp2_with fail
          refine HS.out.mono ?_
          rintro e w4 ⟨rfl, hh4, ht4⟩
          have HH4 := Lib.hid hh4
          have HB4 : Hid (Below w.heap.size w w4) := ht4.below HBU.out HBU.out.size (by simpa using HHU.out.hL.1)
          have HK4 := Lib.hid (setK_kinds HK.out g kd)
          have HG4 := Lib.hid (setK_good HK.out g kd K HG.out)
          clear hh4 ht4 HS HK HG HHU HBU q1U q2U
          generalize setK ks g kd = ks4 at *
          have HM := Lib.hid (good_may (show K < gs by omega) (show gs ≤ 256 by omega) _ _ _ _ _ w4 HH4.out HK4.out HG4.out); have HD := Lib.hid (good_kind (show K < gs by omega) (show gs ≤ 256 by omega) _ _ _ _ _ w4 HH4.out HK4.out HG4.out); go_wp2_with fail; refine HM.out.mono ?_; rintro e wm ⟨rfl, rfl⟩; clear HM; go_wp2_with fail; refine HD.out.mono ?_; rintro e wm ⟨rfl, rfl⟩; clear HD; go_wp2; go_roundw
          case rel => exact ⟨j + 1, by omega, by go_num, ⟨_, _, _, HH4.out, HK4.out, HG4.out⟩, HB4.out⟩
          case measure => simp [intOf]; omega
        · have HC := Lib.hid (Clear_any G L c ks (by rw [HK.out.1]; omega) g _ wr HH.out HK.out.2)
          have HK4 := Lib.hid (clearK_kinds HK.out g)
          have HG4 := Lib.hid (clearK_good HK.out g K HG.out)
          have hno : clearR ks g = 0 → g ≠ (K : Int) := fun e1 e2 => clearR_good K HG.out (by rw [← e2]; exact e1)
          have HBW : ∀ w', Turns wr w' [L] → Below w.heap.size w w' := fun w' ht => ht.below HB.out HB.out.size (by simpa using HH.out.hL.1)
          have HBW := Lib.hid HBW
          have hLge : w.heap.size ≤ L := HH.out.hL.1
          clear HK HG HH HB
          generalize clearK ks g = ks4 at *
          generalize clearR ks g = r at *
          by_cases hr : r = 0
          · subst hr
            have hgk := hno rfl
            clear hno
            go_wp2_with fail
            refine HC.out.mono ?_
            rintro e w4 ⟨rfl, hh4, ht4⟩
            have HH4 := Lib.hid hh4
            have HB4 := Lib.hid (HBW.out _ ht4)
            have q14 := ht4.cell q1 (by simp; omega)
            clear HC hh4 ht4 HBW q0 q1 q2
            have HM := Lib.hid (good_may (show K < gs by omega) (show gs ≤ 256 by omega) _ _ _ _ _ w4 HH4.out HK4.out HG4.out); have HD := Lib.hid (good_kind (show K < gs by omega) (show gs ≤ 256 by omega) _ _ _ _ _ w4 HH4.out HK4.out HG4.out); go_wp2_with fail; refine HM.out.mono ?_; rintro e wm ⟨rfl, rfl⟩; clear HM; go_wp2_with fail; refine HD.out.mono ?_; rintro e wm ⟨rfl, rfl⟩; clear HD; go_wp2; go_roundw
            case rel => exact ⟨j + 1, by omega, by go_num, ⟨_, _, _, HH4.out, HK4.out, HG4.out⟩, HB4.out⟩
            case measure => simp [intOf]; omega
          · clear hno
            go_wp2_with fail
            refine HC.out.mono ?_
            rintro e w4 ⟨rfl, hh4, ht4⟩
            have HH4 := Lib.hid hh4
            have HB4 := Lib.hid (HBW.out _ ht4)
            clear HC hh4 ht4 HBW q0 q1 q2
            have HM := Lib.hid (good_may (show K < gs by omega) (show gs ≤ 256 by omega) _ _ _ _ _ w4 HH4.out HK4.out HG4.out); have HD := Lib.hid (good_kind (show K < gs by omega) (show gs ≤ 256 by omega) _ _ _ _ _ w4 HH4.out HK4.out HG4.out); go_wp2_with fail; refine HM.out.mono ?_; rintro e wm ⟨rfl, rfl⟩; clear HM; go_wp2_with fail; refine HD.out.mono ?_; rintro e wm ⟨rfl, rfl⟩; clear HD; go_wp2; go_roundw
            case rel => exact ⟨j + 1, by omega, by go_num, ⟨_, _, _, HH4.out, HK4.out, HG4.out⟩, HB4.out⟩
            case measure => simp [intOf]; omega
        · have HP := Lib.hid (PowerUp_any G L c ks (by rw [HK.out.1]; omega) (by rw [HK.out.1]; omega) _ wr HH.out HK.out.2)
          have HK4 := Lib.hid (lastK_kinds HK.out)
          have HG4 := Lib.hid (lastK_good K (by rw [HK.out.1]; omega) HG.out)
          have HBW : ∀ w', Turns wr w' [G] → Below w.heap.size w w' := fun w' ht => ht.below HB.out HB.out.size (by simpa using HH.out.hG)
          have HBW := Lib.hid HBW
          clear HK HG HH HB
          generalize lastK ks = ks4 at *
          go_wp2_with fail
          refine HP.out.mono ?_
          rintro e w4 ⟨⟨v, rfl⟩, ⟨L4, c4, hh4⟩, ht4⟩
          have HH4 := Lib.hid hh4
          have HB4 := Lib.hid (HBW.out _ ht4)
          clear HP hh4 ht4 HBW q0 q1 q2
          have HM := Lib.hid (good_may (show K < gs by omega) (show gs ≤ 256 by omega) _ _ _ _ _ w4 HH4.out HK4.out HG4.out); have HD := Lib.hid (good_kind (show K < gs by omega) (show gs ≤ 256 by omega) _ _ _ _ _ w4 HH4.out HK4.out HG4.out); go_wp2_with fail; refine HM.out.mono ?_; rintro e wm ⟨rfl, rfl⟩; clear HM; go_wp2_with fail; refine HD.out.mono ?_; rintro e wm ⟨rfl, rfl⟩; clear HD; go_wp2; go_roundw
          case rel => exact ⟨j + 1, by omega, by go_num, ⟨_, _, _, HH4.out, HK4.out, HG4.out⟩, HB4.out⟩
          case measure => simp [intOf]; omega
        · have HM := Lib.hid (good_may (show K < gs by omega) (show gs ≤ 256 by omega) _ _ _ _ _ wr HH.out HK.out HG.out); have HD := Lib.hid (good_kind (show K < gs by omega) (show gs ≤ 256 by omega) _ _ _ _ _ wr HH.out HK.out HG.out); go_wp2_with fail; refine HM.out.mono ?_; rintro e wm ⟨rfl, rfl⟩; clear HM; go_wp2_with fail; refine HD.out.mono ?_; rintro e wm ⟨rfl, rfl⟩; clear HD; go_wp2; go_roundw
          case rel => exact ⟨j + 1, by omega, by go_num, ⟨_, _, _, HH.out, HK.out, HG.out⟩, HB.out⟩
          case measure => simp [intOf]; omega
      · obtain rfl : j = n := by omega
        clear HA
        go_wp2
        go_ret
        exact ⟨rfl, HB.out⟩
end Go.Proofs.Ytallanlajecmhaa
namespace Go.Proofs.Ytallanlajecmhaa.guardGood
open Go.ChangeShapes Go.WideShapes Go.ChangeAt Go.RowKit Go.Joins
set_option linter.unusedVariables false
set_option linter.unusedSimpArgs false

theorem opened {H : Type} {enc : TypeId × Value → H} (W : World) {base : Nat} {v0 v1 v2 : Value} {d0 d1 d2 : DataW H} {p0 p1 p2 : List MemPlace}
    (o0 : Value.okWide Try.prog W .any base 3 v0) (o1 : Value.okWide Try.prog W .any base 3 v1) (o2 : Value.okWide Try.prog W .any base 22 v2)
    (h0 : DataW.Trod enc Try.prog W 0 (fun _ => true) true 3 v0 d0 p0) (h1 : DataW.Trod enc Try.prog W 0 (fun _ => true) true 3 v1 d1 p1) (h2 : DataW.Trod enc Try.prog W 0 (fun _ => true) true 22 v2 d2 p2) :
    Calls Try.prog 3 #[v0, v1, v2] W fun e W' => e = .returned (.bool true) ∧ Below W.heap.size W W' := by
  obtain ⟨g, rfl, rfl, rfl, wg⟩ := open_int Try.underlying3 o0 h0
  obtain ⟨k, rfl, rfl, rfl, wk⟩ := open_int Try.underlying3 o1 h1
  obtain ⟨a, n, cap, f, rfl, _, _, hA⟩ := acts_view W Try.underlying22 Try.underlying31 (by kernel_rfl) (by kernel_rfl) 3 Try.underlying3 (by kernel_rfl) (by decide) o2 h2
  exact good_walk g k a n cap f W hA

/-! THE STATEMENT's FRAME, written by my own program over the guide's way (howto/shells, how-to-prove-an-upto-statement). -/
theorem own : ownKnob Try.prog.godebug = none := by kernel_rfl
theorem laidOut : laidOutB Try.prog = true := by kernel_rfl

theorem contract (H : Type) (enc : TypeId × Value → H) (W : World) (base : Nat) (args : Array Value) (ds gs : List (DataW H)) (before : List MemPlace)
    (hval : ∀ (j : Nat) t v, Try.f3.params[j]? = some t → args[j]? = some v → Value.okWide Try.prog W .any base t v)
    (hW : DataW.Whole enc Try.prog Try.f3.params.toList Rows.guardGoodSpec.vars false W args.toList ds gs before) :
    Calls Try.prog 3 args W fun e W' => ∃ v, e = .returned v ∧ Rows.guardGoodSpec.post enc Try.prog Try.f3 false true false false W args v W' := by
  have hW' := hW
  obtain ⟨p, q, hA0, hV, rfl, hfz, hnd⟩ := hW
  have hA : DataW.TrodAll enc Try.prog W 0 (fun _ => true) true Try.f3.params.toList args.toList ds p := hA0
  rw [Try.params3] at hA hval
  obtain ⟨v0, vs0, d0, ds0, p0, q0, hargs, rfl, rfl, h0, r0⟩ := trodAll_cons hA
  obtain ⟨v1, vs1, d1, ds1, p1, q1, rfl, rfl, rfl, h1, r1⟩ := trodAll_cons r0
  obtain ⟨v2, vs2, d2, ds2, p2, q2, rfl, rfl, rfl, h2, r2⟩ := trodAll_cons r1
  obtain ⟨rfl, rfl, rfl⟩ := trodAll_nil r2
  obtain rfl : args = #[v0, v1, v2] := by cases args; simp_all
  obtain ⟨rfl, rfl⟩ := trodVars_none hV
  have k0 := h0
  have lt0 : ∀ x ∈ p0, x.block < W.heap.size := by obtain ⟨m, hm⟩ := k0; exact DataW.trod_lt m _ _ _ hm
  have k1 := h1
  have lt1 : ∀ x ∈ p1, x.block < W.heap.size := by obtain ⟨m, hm⟩ := k1; exact DataW.trod_lt m _ _ _ hm
  have k2 := h2
  have lt2 : ∀ x ∈ p2, x.block < W.heap.size := by obtain ⟨m, hm⟩ := k2; exact DataW.trod_lt m _ _ _ hm
  clear hA0
  refine (opened W (hval 0 3 v0 rfl rfl) (hval 1 3 v1 rfl rfl) (hval 2 22 v2 rfl rfl) h0 h1 h2).mono fun e W' ⟨he, bel⟩ => ?_
  subst he
  exact ⟨_, rfl, _, _, _, [], _, [], hW', trodAll_mk1 (shut_bool Try.underlying4 _), (trodAll_cons_mk (Below.trod laidOut (by kernel_rfl) (of_decide_eq_true (by kernel_rfl)) k0 bel lt0) (trodAll_cons_mk (Below.trod laidOut (by kernel_rfl) (of_decide_eq_true (by kernel_rfl)) k1 bel lt1) (trodAll_cons_mk (Below.trod laidOut (by kernel_rfl) (of_decide_eq_true (by kernel_rfl)) k2 bel lt2) trodAll_mk0))), rfl, bel.frame _, fun h => by cases h⟩

set_option maxRecDepth 100000 in
theorem lifted (os : Os) (started : os.Started) (H : Type) (enc : TypeId × Value → H) :
    ReturnsInHanded {} Try.checked os 3 .any (Rows.guardGoodSpec.pre6 enc Try.prog Try.f3 Rows.guardGoodRow.domain false) (Rows.guardGoodSpec.post enc Try.prog Try.f3 false true false false) := by
  refine returnsInHanded_of_change (C := Try.checked) own started (by kernel_rfl) Try.func3
    (ChangeSpec.witness6 (enc := enc) (C := Try.checked) false ⟨#[], #[.int .i64 0, .int .i64 0, .slice none 0 0], []⟩ 8 (by kernel_rfl) (by kernel_rfl) (by kernel_rfl) (by kernel_rfl)) ?_
  intro W base args ds gs before hval hW hcnd _
  exact contract H enc W base args ds gs before hval hW

theorem proved : Rows.GuardGoodSaid :=
  OpenClaim.holds_of_wide 3 Try.f3 rfl rfl rfl rfl rfl rfl rfl ⟨rfl, rfl, rfl, rfl, rfl⟩ rfl rfl rfl rfl rfl (by kernel_rfl) Try.func3 (by kernel_rfl)
    (of_decide_eq_true (by kernel_rfl)) (by unfold Func.isWrapper; first | (rw [if_pos (by decide +kernel)]; kernel_rfl) | (rw [if_neg (by decide +kernel)]; exact ⟨rfl, rfl⟩))
    (fun os started H enc _ => lifted os started H enc)
#print axioms proved
end Go.Proofs.Ytallanlajecmhaa.guardGood
