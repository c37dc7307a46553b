/- locketlaw14.GuardRises. -/
import Derived.Test.YtallanlajecmhaaGuardBitsPlain
import Derived.Test.YtallanlajecmhaaOpenStructs
namespace Go.Proofs.Ytallanlajecmhaa
open Go.RowKit
set_option linter.unusedVariables false
set_option linter.unusedSimpArgs false

theorem kind_at {gs : Nat} (hgs : gs ≤ 256) (G L c : Nat) (ks : List Nat) (g : Int) (B : Nat) (w : World) (h : GHeld w B G L c ks) (hk : Kinds gs ks) :
    Calls Try.prog 14 #[.pointer (some ⟨G, 0, none⟩), .int .i64 g] w fun e w' => e = .returned (.int .i64 (kindK ks g : Nat)) ∧ w = w' := by
  have := Kind_any G L c ks (by rw [hk.1]; exact hgs) g B w h hk.2
  have e : (kindK ks g : Int) = (if 0 ≤ g ∧ g < ks.length then ((ks.getD g.toNat 0 : Nat) : Int) else 0 : Int) := by
    unfold kindK; by_cases hc : inR ks g
    · rw [if_pos hc, if_pos (show 0 ≤ g ∧ g < ks.length from hc)]
    · rw [if_neg hc, if_neg (show ¬ (0 ≤ g ∧ g < ks.length) from hc)]; rfl
  rw [← e] at this; exact this
theorem kindK_setK {gs : Nat} {ks : List Nat} (hk : Kinds gs ks) (g kd : Int) (h : setR ks g kd = 0) : kindK ks g ≤ kindK (setK ks g kd) g ∧ kd ≤ kindK (setK ks g kd) g := by
  unfold setR at h
  split at h
  · rename_i hr
    split at h
    · rename_i hkd
      have hr' : inR (setK ks g kd) g := by unfold inR; rw [(setK_kinds hk g kd).1, ← hk.1]; exact hr
      have e1 : kindK (setK ks g kd) g = (setK ks g kd).getD g.toNat 0 := by unfold kindK; rw [if_pos hr']
      have e0 : kindK ks g = ks.getD g.toNat 0 := by unfold kindK; rw [if_pos hr]
      rw [e1, e0]
      unfold setK
      rw [if_pos ⟨hr, hkd⟩, getD_set, if_pos ⟨rfl, by have := hr.2; have := hr.1; omega⟩]
      omega
    · cases h
  · cases h
theorem kindK_clearK {gs : Nat} {ks : List Nat} (hk : Kinds gs ks) (g : Int) : (clearR ks g = 0 → kindK (clearK ks g) g = 0) ∧ (clearR ks g ≠ 0 → clearK ks g = ks) := by
  unfold clearR clearK
  by_cases hr : inR ks g
  · rw [if_pos hr]
    by_cases h2 : ks.getD g.toNat 0 < 2
    · rw [if_pos h2, if_pos ⟨hr, h2⟩]
      refine ⟨fun _ => ?_, fun h => absurd rfl h⟩
      unfold kindK
      split
      · rw [getD_set, if_pos ⟨rfl, by have := hr.2; have := hr.1; omega⟩]
      · rfl
    · rw [if_neg h2, if_neg (fun e => h2 e.2)]
      exact ⟨fun h => absurd h (by decide), fun _ => rfl⟩
  · rw [if_neg hr, if_neg (fun e => hr e.1)]
    exact ⟨fun h => absurd h (by decide), fun _ => rfl⟩
theorem kindK_lastK (ks : List Nat) (g : Int) : kindK (lastK ks) g ≠ 2 := by
  unfold kindK
  split
  · rename_i hr
    have : g.toNat < ks.length := by have := hr.2; have := hr.1; rw [lastK_length] at *; omega
    rw [lastK_get ks _ this]
    split <;> omega
  · omega
theorem may_at {gs : Nat} (hgs : gs ≤ 256) (G L c : Nat) (ks : List Nat) (g : Int) (B : Nat) (w : World) (h : GHeld w B G L c ks) (hk : Kinds gs ks) (h0 : 0 ≤ g) (h1 : g < gs) :
    Calls Try.prog 13 #[.pointer (some ⟨G, 0, none⟩), .int .i64 g] w fun e w' => e = .returned (.bool (decide (ks.getD g.toNat 0 = 0))) ∧ w = w' := by
  have := May_any G L c ks (by rw [hk.1]; exact hgs) g B w h hk.2
  rw [hk.1] at this
  simpa [h0, h1] using this

set_option maxRecDepth 100000 in
set_option maxHeartbeats 2000000 in
theorem rises_walk (groups ata : Int) (a : Option Addr) (n cap : Nat) (f : Nat → Nat → Int) (w : World) (hA : Acts w a n 3 f) :
    Calls Try.prog 4 #[.int .i64 groups, .slice a n cap, .int .i64 ata] w fun e w' => e = .returned (.bool true) ∧ Below w.heap.size w w' := by
  by_cases hout : 300 < n ∨ groups < 1 ∨ 256 < groups
  · have key : (300 < n) ∨ (¬ 300 < n ∧ groups < 1) ∨ (¬ 300 < n ∧ ¬ groups < 1 ∧ 256 < groups) := by omega
    clear hout
    have e : ((300 : Int) < (n : Int)) = (300 < n) := by simp; omega
    rcases key with h1 | ⟨h1, h2⟩ | ⟨h1, h2, h3⟩
    all_goals
      go_enter Try.func4, Try.ntmps4
      go_wp2_with fail
      refine (known_any _).mono ?_
      rintro e w1 ⟨rfl, hb1⟩
      have HB := Lib.hid hb1
      clear hb1
      go_wp2
      go_ret
      exact ⟨rfl, HB.out⟩
  · simp only [not_or, Int.not_lt, Nat.not_lt, Int.not_le] at hout
    obtain ⟨hn, hg1, hg2⟩ := hout
    obtain ⟨gs, rfl⟩ := Int.eq_ofNat_of_zero_le (show 0 ≤ groups by omega)
    have h1 : ¬ ((300 : Int) < (n : Int)) := by omega
    have HA := Lib.hid hA
    have kat : Hid (ata < 0 ∨ (0 ≤ ata ∧ (gs : Int) ≤ ata) ∨ (0 ≤ ata ∧ ata < gs)) := by unfold Hid; omega
    clear hA
    go_enter Try.func4, Try.ntmps4
    go_wp2_with fail
    refine (known_any _).mono ?_
    rintro e w1 ⟨rfl, hb1⟩
    have HB1 := Lib.hid hb1
    clear hb1
    go_wp2_with fail
    refine (New_yes gs (by omega) (by omega) w1).mono ?_
    rintro e w2 ⟨G, L, c, rfl, hh, hb2⟩
    have HB2 : Hid (Below w.heap.size w w2) := HB1.out.trans (hb2.mono HB1.out.size)
    have HH : Hid (GHeld w2 w.heap.size G L c (List.replicate gs 0)) := hh.mono HB1.out.size
    have HKS : Hid (Kinds gs (List.replicate gs 0)) := ⟨by simp, by intro x hx; have := List.eq_of_mem_replicate hx; omega⟩
    clear hh hb2 HB1
    generalize List.replicate gs 0 = ks0 at *
    go_wp2
    go_loopw [9] (fun i wr => ∃ j : Nat, j ≤ n ∧ i = .int .i64 j ∧ (∃ L c ks, GHeld wr w.heap.size G L c ks ∧ Kinds gs ks) ∧ Below w.heap.size w wr) (fun i _ => n - (intOf i).toNat)
    case atStart => exact ⟨0, by omega, rfl, ⟨L, c, ks0, HH.out, HKS.out⟩, HB2.out⟩
    case round =>
      clear HH HKS HB2
      obtain ⟨j, hj, rfl, ⟨L, c, ks, hh, hkk⟩, hb⟩ := hrel
      have HB := Lib.hid hb
      have HH := Lib.hid hh
      have HK := Lib.hid hkk
      clear hh hkk hb
      by_cases hjn : j < n
      · obtain ⟨b, off, rfl⟩ := HA.out.addr (by omega)
        have hbl := HA.out.lt (by omega) (by omega)
        have q0 : wr.cell? ⟨b, off + j * 3, none⟩ = some (.int .i64 (f j 0)) := (HB.out.cell (p := ⟨b, off + j * 3, none⟩) hbl).trans (HA.out.cells j 0 hjn (by omega))
        have q1 : wr.cell? ⟨b, off + j * 3 + 1, none⟩ = some (.int .i64 (f j 1)) := (HB.out.cell (p := ⟨b, off + j * 3 + 1, none⟩) hbl).trans (HA.out.cells j 1 hjn (by omega))
        have q2 : wr.cell? ⟨b, off + j * 3 + 2, none⟩ = some (.int .i64 (f j 2)) := (HB.out.cell (p := ⟨b, off + j * 3 + 2, none⟩) hbl).trans (HA.out.cells j 2 hjn (by omega))
        generalize f j 0 = o at *
        generalize f j 1 = g at *
        generalize f j 2 = kd at *
        have HK0 := Lib.hid (kind_at (show gs ≤ 256 by omega) G L c ks g _ wr HH.out HK.out)
        go_wp2_with fail
        refine HK0.out.mono ?_
        rintro e wr' ⟨rfl, rfl⟩
        clear HK0
        have key : o = 1 ∨ (o ≠ 1 ∧ o = 2) ∨ (o ≠ 1 ∧ o ≠ 2 ∧ o = 3) ∨ (o ≠ 1 ∧ o ≠ 2 ∧ o ≠ 3) := by omega
        rcases key with rfl | ⟨h1, rfl⟩ | ⟨h1, h2, rfl⟩ | ⟨h1, h2, h3⟩
        · have HS := Lib.hid (Set_any G L c ks (by rw [HK.out.1]; omega) g kd _ wr HH.out HK.out.2)
          have HK4 := Lib.hid (setK_kinds HK.out g kd)
          have hup := kindK_setK HK.out g kd
          have hLge : w.heap.size ≤ L := HH.out.hL.1
          have HBW : Hid (∀ w', Turns wr w' [L] → Below w.heap.size w w') := fun w' ht => ht.below HB.out HB.out.size (by simpa using HH.out.hL.1)
          generalize setK ks g kd = ks4 at *
          generalize setR ks g kd = r at *
          generalize kindK ks g = was at *
          clear HK HH HB
          by_cases hr : r = 0
          · subst hr
            rw [show ((0 : Nat) : Int) = 0 from rfl] at HS
            obtain ⟨hu1, hu2⟩ := hup rfl
            clear hup
            go_wp2_with fail
            refine HS.out.mono ?_
            rintro e w4 ⟨rfl, hh4, ht4⟩
            have HH4 := Lib.hid hh4
            have HB4 := Lib.hid (HBW.out _ ht4)
            have hq2 : ∀ t : Later w4, t.u.cell? ⟨b, off + j * 3 + 2, none⟩ = some (.int .i64 kd) := fun t => keep_below t.h _ _ (ht4.cell q2 (by simp; omega))
            have HKt : Hid (∀ t : Later w4, Calls Try.prog 14 #[.pointer (some ⟨G, 0, none⟩), .int .i64 g] t.u fun e w' => e = .returned (.int .i64 (kindK ks4 g : Nat)) ∧ t.u = w') := fun t => kind_at (show gs ≤ 256 by omega) G L c ks4 g _ t.u (HH4.out.below t.h) HK4.out
            clear HS hh4 ht4 HBW q0 q1 q2
            generalize kindK ks4 g = now at *
            have hu3 : ¬ ((now : Int) < (was : Int)) := by omega
            have hu4 : ¬ ((now : Int) < kd) := by omega
            have hu5 : ¬ (now < was) := by omega
            go_wp2
            refine region_later (by kernel_rfl) (by kernel_rfl) ?_
            repeat (go_big_quiet_step ((go_at_call 14; exact Later.same (HKt.out _))))
            refine wpQuiet_nil ?_
            intro t
            have HH5 := Lib.hid (HH4.out.below t.h)
            have HB5 : Hid (Below w.heap.size w t.u) := HB4.out.trans (t.h.mono HB4.out.size)
            clear HH4 HB4 HKt hq2
            (have HBt := Lib.hid (Bits_any _ _ _ ks4 (by rw [HK4.out.1]; omega) (by rw [HK4.out.1]; omega) ata _ t.u HH5.out HK4.out.2); have hbit := bit_at HK4.out (by omega) ata; rcases kat.out with k1 | ⟨k1, k2⟩ | ⟨k1, k2⟩); rotate_left; rotate_left
            · focus ((rcases Nat.eq_zero_or_pos (List.getD ks4 ata.toNat 0) with hz | hz); (focus ((rw [if_neg (fun e => e.2 hz)] at hbit); (replace hz : decide (List.getD ks4 ata.toNat 0 = 0) = true := by simpa using hz); (generalize bitsK ata ks4 = β at *); clear kat; go_wp2_with fail; refine HBt.out.mono ?_; rintro e wB ⟨rfl, hbB⟩; (have HH9 := Lib.hid (HH5.out.below hbB)); (have HB9 : Hid (Below w.heap.size w wB) := HB5.out.trans (hbB.mono HB5.out.size)); (have HM := Lib.hid (may_at (show gs ≤ 256 by omega) _ _ _ ks4 ata _ wB HH9.out HK4.out k1 k2)); (rw [hz] at HM); clear HBt hbB; go_wp2_with fail; refine HM.out.mono ?_; rintro e wC ⟨rfl, rfl⟩; clear HM; go_wp2; go_roundw; (case rel => exact ⟨j + 1, by omega, by go_num, ⟨_, _, _, HH9.out, HK4.out⟩, HB9.out⟩); (case measure => simp [intOf]; omega))); (focus ((rw [if_pos ⟨⟨k1, by rw [HK4.out.1]; exact k2⟩, by omega⟩] at hbit); (replace hz : decide (List.getD ks4 ata.toNat 0 = 0) = false := by simpa using (show List.getD ks4 ata.toNat 0 ≠ 0 by omega)); (generalize bitsK ata ks4 = β at *); clear kat; go_wp2_with fail; refine HBt.out.mono ?_; rintro e wB ⟨rfl, hbB⟩; (have HH9 := Lib.hid (HH5.out.below hbB)); (have HB9 : Hid (Below w.heap.size w wB) := HB5.out.trans (hbB.mono HB5.out.size)); (have HM := Lib.hid (may_at (show gs ≤ 256 by omega) _ _ _ ks4 ata _ wB HH9.out HK4.out k1 k2)); (rw [hz] at HM); clear HBt hbB; go_wp2_with fail; refine HM.out.mono ?_; rintro e wC ⟨rfl, rfl⟩; clear HM; go_wp2; go_roundw; (case rel => exact ⟨j + 1, by omega, by go_num, ⟨_, _, _, HH9.out, HK4.out⟩, HB9.out⟩); (case measure => simp [intOf]; omega))))
            · focus ((rw [if_neg (fun e => by have := e.1.1; have := e.1.2; rw [HK4.out.1] at this; omega)] at hbit); (generalize bitsK ata ks4 = β at *); clear kat; go_wp2_with fail; refine HBt.out.mono ?_; rintro e wB ⟨rfl, hbB⟩; (have HH9 := Lib.hid (HH5.out.below hbB)); (have HB9 : Hid (Below w.heap.size w wB) := HB5.out.trans (hbB.mono HB5.out.size)); clear HBt hbB; go_wp2; go_roundw; (case rel => exact ⟨j + 1, by omega, by go_num, ⟨_, _, _, HH9.out, HK4.out⟩, HB9.out⟩); (case measure => simp [intOf]; omega))
            · focus ((rw [if_neg (fun e => by have := e.1.1; have := e.1.2; rw [HK4.out.1] at this; omega)] at hbit); (generalize bitsK ata ks4 = β at *); clear kat; go_wp2_with fail; refine HBt.out.mono ?_; rintro e wB ⟨rfl, hbB⟩; (have HH9 := Lib.hid (HH5.out.below hbB)); (have HB9 : Hid (Below w.heap.size w wB) := HB5.out.trans (hbB.mono HB5.out.size)); clear HBt hbB; go_wp2; go_roundw; (case rel => exact ⟨j + 1, by omega, by go_num, ⟨_, _, _, HH9.out, HK4.out⟩, HB9.out⟩); (case measure => simp [intOf]; omega))
          · clear hup
            have hr1 : ¬ ((r : Int) = 0) := by omega
            have hr2 : ((r : Int) == 0) = false := by simp [hr]
            go_wp2_with fail
            refine HS.out.mono ?_
            rintro e w4 ⟨rfl, hh4, ht4⟩
            have HH4 := Lib.hid hh4
            have HB4 := Lib.hid (HBW.out _ ht4)
            have hq2 : ∀ t : Later w4, t.u.cell? ⟨b, off + j * 3 + 2, none⟩ = some (.int .i64 kd) := fun t => keep_below t.h _ _ (ht4.cell q2 (by simp; omega))
            have HKt : Hid (∀ t : Later w4, Calls Try.prog 14 #[.pointer (some ⟨G, 0, none⟩), .int .i64 g] t.u fun e w' => e = .returned (.int .i64 (kindK ks4 g : Nat)) ∧ t.u = w') := fun t => kind_at (show gs ≤ 256 by omega) G L c ks4 g _ t.u (HH4.out.below t.h) HK4.out
            clear HS hh4 ht4 HBW q0 q1 q2
            go_wp2
            refine region_later (by kernel_rfl) (by kernel_rfl) ?_
            repeat (go_big_quiet_step (fail))
            refine wpQuiet_nil ?_
            intro t
            have HH5 := Lib.hid (HH4.out.below t.h)
            have HB5 : Hid (Below w.heap.size w t.u) := HB4.out.trans (t.h.mono HB4.out.size)
            clear HH4 HB4 HKt hq2
            (have HBt := Lib.hid (Bits_any _ _ _ ks4 (by rw [HK4.out.1]; omega) (by rw [HK4.out.1]; omega) ata _ t.u HH5.out HK4.out.2); have hbit := bit_at HK4.out (by omega) ata; rcases kat.out with k1 | ⟨k1, k2⟩ | ⟨k1, k2⟩); rotate_left; rotate_left
            · focus ((rcases Nat.eq_zero_or_pos (List.getD ks4 ata.toNat 0) with hz | hz); (focus ((rw [if_neg (fun e => e.2 hz)] at hbit); (replace hz : decide (List.getD ks4 ata.toNat 0 = 0) = true := by simpa using hz); (generalize bitsK ata ks4 = β at *); clear kat; go_wp2_with fail; refine HBt.out.mono ?_; rintro e wB ⟨rfl, hbB⟩; (have HH9 := Lib.hid (HH5.out.below hbB)); (have HB9 : Hid (Below w.heap.size w wB) := HB5.out.trans (hbB.mono HB5.out.size)); (have HM := Lib.hid (may_at (show gs ≤ 256 by omega) _ _ _ ks4 ata _ wB HH9.out HK4.out k1 k2)); (rw [hz] at HM); clear HBt hbB; go_wp2_with fail; refine HM.out.mono ?_; rintro e wC ⟨rfl, rfl⟩; clear HM; go_wp2; go_roundw; (case rel => exact ⟨j + 1, by omega, by go_num, ⟨_, _, _, HH9.out, HK4.out⟩, HB9.out⟩); (case measure => simp [intOf]; omega))); (focus ((rw [if_pos ⟨⟨k1, by rw [HK4.out.1]; exact k2⟩, by omega⟩] at hbit); (replace hz : decide (List.getD ks4 ata.toNat 0 = 0) = false := by simpa using (show List.getD ks4 ata.toNat 0 ≠ 0 by omega)); (generalize bitsK ata ks4 = β at *); clear kat; go_wp2_with fail; refine HBt.out.mono ?_; rintro e wB ⟨rfl, hbB⟩; (have HH9 := Lib.hid (HH5.out.below hbB)); (have HB9 : Hid (Below w.heap.size w wB) := HB5.out.trans (hbB.mono HB5.out.size)); (have HM := Lib.hid (may_at (show gs ≤ 256 by omega) _ _ _ ks4 ata _ wB HH9.out HK4.out k1 k2)); (rw [hz] at HM); clear HBt hbB; go_wp2_with fail; refine HM.out.mono ?_; rintro e wC ⟨rfl, rfl⟩; clear HM; go_wp2; go_roundw; (case rel => exact ⟨j + 1, by omega, by go_num, ⟨_, _, _, HH9.out, HK4.out⟩, HB9.out⟩); (case measure => simp [intOf]; omega))))
            · focus ((rw [if_neg (fun e => by have := e.1.1; have := e.1.2; rw [HK4.out.1] at this; omega)] at hbit); (generalize bitsK ata ks4 = β at *); clear kat; go_wp2_with fail; refine HBt.out.mono ?_; rintro e wB ⟨rfl, hbB⟩; (have HH9 := Lib.hid (HH5.out.below hbB)); (have HB9 : Hid (Below w.heap.size w wB) := HB5.out.trans (hbB.mono HB5.out.size)); clear HBt hbB; go_wp2; go_roundw; (case rel => exact ⟨j + 1, by omega, by go_num, ⟨_, _, _, HH9.out, HK4.out⟩, HB9.out⟩); (case measure => simp [intOf]; omega))
            · focus ((rw [if_neg (fun e => by have := e.1.1; have := e.1.2; rw [HK4.out.1] at this; omega)] at hbit); (generalize bitsK ata ks4 = β at *); clear kat; go_wp2_with fail; refine HBt.out.mono ?_; rintro e wB ⟨rfl, hbB⟩; (have HH9 := Lib.hid (HH5.out.below hbB)); (have HB9 : Hid (Below w.heap.size w wB) := HB5.out.trans (hbB.mono HB5.out.size)); clear HBt hbB; go_wp2; go_roundw; (case rel => exact ⟨j + 1, by omega, by go_num, ⟨_, _, _, HH9.out, HK4.out⟩, HB9.out⟩); (case measure => simp [intOf]; omega))
        · have HC := Lib.hid (Clear_any G L c ks (by rw [HK.out.1]; omega) g _ wr HH.out HK.out.2)
          have HK4 := Lib.hid (clearK_kinds HK.out g)
          have hup := kindK_clearK HK.out g
          have HBW : Hid (∀ w', Turns wr w' [L] → Below w.heap.size w w') := fun w' ht => ht.below HB.out HB.out.size (by simpa using HH.out.hL.1)
          clear HK HH HB
          by_cases hr : clearR ks g = 0
          · have hz := hup.1 hr
            rw [hr] at HC
            clear hup hr
            generalize clearK ks g = ks4 at *
            go_wp2_with fail
            refine HC.out.mono ?_
            rintro e w4 ⟨rfl, hh4, ht4⟩
            have HH4 := Lib.hid hh4
            have HB4 := Lib.hid (HBW.out _ ht4)
            have HKt := Lib.hid (kind_at (show gs ≤ 256 by omega) G L c ks4 g _ w4 HH4.out HK4.out)
            rw [hz] at HKt
            clear HC hh4 ht4 HBW q0 q1 q2 hz
            go_wp2_with fail
            refine HKt.out.mono ?_
            rintro e w5 ⟨rfl, rfl⟩
            clear HKt
            (have HBt := Lib.hid (Bits_any _ _ _ ks4 (by rw [HK4.out.1]; omega) (by rw [HK4.out.1]; omega) ata _ w4 HH4.out HK4.out.2); have hbit := bit_at HK4.out (by omega) ata; rcases kat.out with k1 | ⟨k1, k2⟩ | ⟨k1, k2⟩); rotate_left; rotate_left
            · focus ((rcases Nat.eq_zero_or_pos (List.getD ks4 ata.toNat 0) with hz | hz); (focus ((rw [if_neg (fun e => e.2 hz)] at hbit); (replace hz : decide (List.getD ks4 ata.toNat 0 = 0) = true := by simpa using hz); (generalize bitsK ata ks4 = β at *); clear kat; go_wp2_with fail; refine HBt.out.mono ?_; rintro e wB ⟨rfl, hbB⟩; (have HH9 := Lib.hid (HH4.out.below hbB)); (have HB9 : Hid (Below w.heap.size w wB) := HB4.out.trans (hbB.mono HB4.out.size)); (have HM := Lib.hid (may_at (show gs ≤ 256 by omega) _ _ _ ks4 ata _ wB HH9.out HK4.out k1 k2)); (rw [hz] at HM); clear HBt hbB; go_wp2_with fail; refine HM.out.mono ?_; rintro e wC ⟨rfl, rfl⟩; clear HM; go_wp2; go_roundw; (case rel => exact ⟨j + 1, by omega, by go_num, ⟨_, _, _, HH9.out, HK4.out⟩, HB9.out⟩); (case measure => simp [intOf]; omega))); (focus ((rw [if_pos ⟨⟨k1, by rw [HK4.out.1]; exact k2⟩, by omega⟩] at hbit); (replace hz : decide (List.getD ks4 ata.toNat 0 = 0) = false := by simpa using (show List.getD ks4 ata.toNat 0 ≠ 0 by omega)); (generalize bitsK ata ks4 = β at *); clear kat; go_wp2_with fail; refine HBt.out.mono ?_; rintro e wB ⟨rfl, hbB⟩; (have HH9 := Lib.hid (HH4.out.below hbB)); (have HB9 : Hid (Below w.heap.size w wB) := HB4.out.trans (hbB.mono HB4.out.size)); (have HM := Lib.hid (may_at (show gs ≤ 256 by omega) _ _ _ ks4 ata _ wB HH9.out HK4.out k1 k2)); (rw [hz] at HM); clear HBt hbB; go_wp2_with fail; refine HM.out.mono ?_; rintro e wC ⟨rfl, rfl⟩; clear HM; go_wp2; go_roundw; (case rel => exact ⟨j + 1, by omega, by go_num, ⟨_, _, _, HH9.out, HK4.out⟩, HB9.out⟩); (case measure => simp [intOf]; omega))))
            · focus ((rw [if_neg (fun e => by have := e.1.1; have := e.1.2; rw [HK4.out.1] at this; omega)] at hbit); (generalize bitsK ata ks4 = β at *); clear kat; go_wp2_with fail; refine HBt.out.mono ?_; rintro e wB ⟨rfl, hbB⟩; (have HH9 := Lib.hid (HH4.out.below hbB)); (have HB9 : Hid (Below w.heap.size w wB) := HB4.out.trans (hbB.mono HB4.out.size)); clear HBt hbB; go_wp2; go_roundw; (case rel => exact ⟨j + 1, by omega, by go_num, ⟨_, _, _, HH9.out, HK4.out⟩, HB9.out⟩); (case measure => simp [intOf]; omega))
            · focus ((rw [if_neg (fun e => by have := e.1.1; have := e.1.2; rw [HK4.out.1] at this; omega)] at hbit); (generalize bitsK ata ks4 = β at *); clear kat; go_wp2_with fail; refine HBt.out.mono ?_; rintro e wB ⟨rfl, hbB⟩; (have HH9 := Lib.hid (HH4.out.below hbB)); (have HB9 : Hid (Below w.heap.size w wB) := HB4.out.trans (hbB.mono HB4.out.size)); clear HBt hbB; go_wp2; go_roundw; (case rel => exact ⟨j + 1, by omega, by go_num, ⟨_, _, _, HH9.out, HK4.out⟩, HB9.out⟩); (case measure => simp [intOf]; omega))
          · have hz := hup.2 hr
            rw [hz] at HC HK4
            clear hup hz
            generalize clearR ks g = r at *
            go_wp2_with fail
            refine HC.out.mono ?_
            rintro e w4 ⟨rfl, hh4, ht4⟩
            have HH4 := Lib.hid hh4
            have HB4 := Lib.hid (HBW.out _ ht4)
            have HKt := Lib.hid (kind_at (show gs ≤ 256 by omega) G L c ks g _ w4 HH4.out HK4.out)
            clear HC hh4 ht4 HBW q0 q1 q2
            generalize kindK ks g = was at *
            go_wp2_with fail
            refine HKt.out.mono ?_
            rintro e w5 ⟨rfl, rfl⟩
            clear HKt
            (have HBt := Lib.hid (Bits_any _ _ _ ks (by rw [HK4.out.1]; omega) (by rw [HK4.out.1]; omega) ata _ w4 HH4.out HK4.out.2); have hbit := bit_at HK4.out (by omega) ata; rcases kat.out with k1 | ⟨k1, k2⟩ | ⟨k1, k2⟩); rotate_left; rotate_left
            · focus ((rcases Nat.eq_zero_or_pos (List.getD ks ata.toNat 0) with hz | hz); (focus ((rw [if_neg (fun e => e.2 hz)] at hbit); (replace hz : decide (List.getD ks ata.toNat 0 = 0) = true := by simpa using hz); (generalize bitsK ata ks = β at *); clear kat; go_wp2_with fail; refine HBt.out.mono ?_; rintro e wB ⟨rfl, hbB⟩; (have HH9 := Lib.hid (HH4.out.below hbB)); (have HB9 : Hid (Below w.heap.size w wB) := HB4.out.trans (hbB.mono HB4.out.size)); (have HM := Lib.hid (may_at (show gs ≤ 256 by omega) _ _ _ ks ata _ wB HH9.out HK4.out k1 k2)); (rw [hz] at HM); clear HBt hbB; go_wp2_with fail; refine HM.out.mono ?_; rintro e wC ⟨rfl, rfl⟩; clear HM; go_wp2; go_roundw; (case rel => exact ⟨j + 1, by omega, by go_num, ⟨_, _, _, HH9.out, HK4.out⟩, HB9.out⟩); (case measure => simp [intOf]; omega))); (focus ((rw [if_pos ⟨⟨k1, by rw [HK4.out.1]; exact k2⟩, by omega⟩] at hbit); (replace hz : decide (List.getD ks ata.toNat 0 = 0) = false := by simpa using (show List.getD ks ata.toNat 0 ≠ 0 by omega)); (generalize bitsK ata ks = β at *); clear kat; go_wp2_with fail; refine HBt.out.mono ?_; rintro e wB ⟨rfl, hbB⟩; (have HH9 := Lib.hid (HH4.out.below hbB)); (have HB9 : Hid (Below w.heap.size w wB) := HB4.out.trans (hbB.mono HB4.out.size)); (have HM := Lib.hid (may_at (show gs ≤ 256 by omega) _ _ _ ks ata _ wB HH9.out HK4.out k1 k2)); (rw [hz] at HM); clear HBt hbB; go_wp2_with fail; refine HM.out.mono ?_; rintro e wC ⟨rfl, rfl⟩; clear HM; go_wp2; go_roundw; (case rel => exact ⟨j + 1, by omega, by go_num, ⟨_, _, _, HH9.out, HK4.out⟩, HB9.out⟩); (case measure => simp [intOf]; omega))))
            · focus ((rw [if_neg (fun e => by have := e.1.1; have := e.1.2; rw [HK4.out.1] at this; omega)] at hbit); (generalize bitsK ata ks = β at *); clear kat; go_wp2_with fail; refine HBt.out.mono ?_; rintro e wB ⟨rfl, hbB⟩; (have HH9 := Lib.hid (HH4.out.below hbB)); (have HB9 : Hid (Below w.heap.size w wB) := HB4.out.trans (hbB.mono HB4.out.size)); clear HBt hbB; go_wp2; go_roundw; (case rel => exact ⟨j + 1, by omega, by go_num, ⟨_, _, _, HH9.out, HK4.out⟩, HB9.out⟩); (case measure => simp [intOf]; omega))
            · focus ((rw [if_neg (fun e => by have := e.1.1; have := e.1.2; rw [HK4.out.1] at this; omega)] at hbit); (generalize bitsK ata ks = β at *); clear kat; go_wp2_with fail; refine HBt.out.mono ?_; rintro e wB ⟨rfl, hbB⟩; (have HH9 := Lib.hid (HH4.out.below hbB)); (have HB9 : Hid (Below w.heap.size w wB) := HB4.out.trans (hbB.mono HB4.out.size)); clear HBt hbB; go_wp2; go_roundw; (case rel => exact ⟨j + 1, by omega, by go_num, ⟨_, _, _, HH9.out, HK4.out⟩, HB9.out⟩); (case measure => simp [intOf]; omega))
        · have HP := Lib.hid (PowerUp_any G L c ks (by rw [HK.out.1]; omega) (by rw [HK.out.1]; omega) _ wr HH.out HK.out.2)
          have HK4 := Lib.hid (lastK_kinds HK.out)
          have hz := kindK_lastK ks g
          have HBW : Hid (∀ w', Turns wr w' [G] → Below w.heap.size w w') := fun w' ht => ht.below HB.out HB.out.size (by simpa using HH.out.hG)
          clear HK HH HB
          generalize lastK ks = ks4 at *
          go_wp2_with fail
          refine HP.out.mono ?_
          rintro e w4 ⟨⟨v, rfl⟩, ⟨L4, c4, hh4⟩, ht4⟩
          have HH4 := Lib.hid hh4
          have HB4 := Lib.hid (HBW.out _ ht4)
          have HKt := Lib.hid (kind_at (show gs ≤ 256 by omega) G L4 c4 ks4 g _ w4 HH4.out HK4.out)
          generalize kindK ks4 g = now at *
          have hz2 : ¬ ((now : Int) = 2) := by omega
          clear HP hh4 ht4 HBW q0 q1 q2
          go_wp2_with fail
          refine HKt.out.mono ?_
          rintro e w5 ⟨rfl, rfl⟩
          clear HKt
          go_wp2_with fail
          refine (Level_any 1 _).mono ?_
          rintro e w5 ⟨rfl, rfl⟩
          rw [show (if 1 = 1 then (2 : Int) else if 1 = 2 then 3 else 1) = 2 from rfl]
          (have HBt := Lib.hid (Bits_any _ _ _ ks4 (by rw [HK4.out.1]; omega) (by rw [HK4.out.1]; omega) ata _ w4 HH4.out HK4.out.2); have hbit := bit_at HK4.out (by omega) ata; rcases kat.out with k1 | ⟨k1, k2⟩ | ⟨k1, k2⟩); rotate_left; rotate_left
          · focus ((rcases Nat.eq_zero_or_pos (List.getD ks4 ata.toNat 0) with hz | hz); (focus ((rw [if_neg (fun e => e.2 hz)] at hbit); (replace hz : decide (List.getD ks4 ata.toNat 0 = 0) = true := by simpa using hz); (generalize bitsK ata ks4 = β at *); clear kat; go_wp2_with fail; refine HBt.out.mono ?_; rintro e wB ⟨rfl, hbB⟩; (have HH9 := Lib.hid (HH4.out.below hbB)); (have HB9 : Hid (Below w.heap.size w wB) := HB4.out.trans (hbB.mono HB4.out.size)); (have HM := Lib.hid (may_at (show gs ≤ 256 by omega) _ _ _ ks4 ata _ wB HH9.out HK4.out k1 k2)); (rw [hz] at HM); clear HBt hbB; go_wp2_with fail; refine HM.out.mono ?_; rintro e wC ⟨rfl, rfl⟩; clear HM; go_wp2; go_roundw; (case rel => exact ⟨j + 1, by omega, by go_num, ⟨_, _, _, HH9.out, HK4.out⟩, HB9.out⟩); (case measure => simp [intOf]; omega))); (focus ((rw [if_pos ⟨⟨k1, by rw [HK4.out.1]; exact k2⟩, by omega⟩] at hbit); (replace hz : decide (List.getD ks4 ata.toNat 0 = 0) = false := by simpa using (show List.getD ks4 ata.toNat 0 ≠ 0 by omega)); (generalize bitsK ata ks4 = β at *); clear kat; go_wp2_with fail; refine HBt.out.mono ?_; rintro e wB ⟨rfl, hbB⟩; (have HH9 := Lib.hid (HH4.out.below hbB)); (have HB9 : Hid (Below w.heap.size w wB) := HB4.out.trans (hbB.mono HB4.out.size)); (have HM := Lib.hid (may_at (show gs ≤ 256 by omega) _ _ _ ks4 ata _ wB HH9.out HK4.out k1 k2)); (rw [hz] at HM); clear HBt hbB; go_wp2_with fail; refine HM.out.mono ?_; rintro e wC ⟨rfl, rfl⟩; clear HM; go_wp2; go_roundw; (case rel => exact ⟨j + 1, by omega, by go_num, ⟨_, _, _, HH9.out, HK4.out⟩, HB9.out⟩); (case measure => simp [intOf]; omega))))
          · focus ((rw [if_neg (fun e => by have := e.1.1; have := e.1.2; rw [HK4.out.1] at this; omega)] at hbit); (generalize bitsK ata ks4 = β at *); clear kat; go_wp2_with fail; refine HBt.out.mono ?_; rintro e wB ⟨rfl, hbB⟩; (have HH9 := Lib.hid (HH4.out.below hbB)); (have HB9 : Hid (Below w.heap.size w wB) := HB4.out.trans (hbB.mono HB4.out.size)); clear HBt hbB; go_wp2; go_roundw; (case rel => exact ⟨j + 1, by omega, by go_num, ⟨_, _, _, HH9.out, HK4.out⟩, HB9.out⟩); (case measure => simp [intOf]; omega))
          · focus ((rw [if_neg (fun e => by have := e.1.1; have := e.1.2; rw [HK4.out.1] at this; omega)] at hbit); (generalize bitsK ata ks4 = β at *); clear kat; go_wp2_with fail; refine HBt.out.mono ?_; rintro e wB ⟨rfl, hbB⟩; (have HH9 := Lib.hid (HH4.out.below hbB)); (have HB9 : Hid (Below w.heap.size w wB) := HB4.out.trans (hbB.mono HB4.out.size)); clear HBt hbB; go_wp2; go_roundw; (case rel => exact ⟨j + 1, by omega, by go_num, ⟨_, _, _, HH9.out, HK4.out⟩, HB9.out⟩); (case measure => simp [intOf]; omega))
        · (have HBt := Lib.hid (Bits_any _ _ _ ks (by rw [HK.out.1]; omega) (by rw [HK.out.1]; omega) ata _ wr HH.out HK.out.2); have hbit := bit_at HK.out (by omega) ata; rcases kat.out with k1 | ⟨k1, k2⟩ | ⟨k1, k2⟩); rotate_left; rotate_left
          · focus ((rcases Nat.eq_zero_or_pos (List.getD ks ata.toNat 0) with hz | hz); (focus ((rw [if_neg (fun e => e.2 hz)] at hbit); (replace hz : decide (List.getD ks ata.toNat 0 = 0) = true := by simpa using hz); (generalize bitsK ata ks = β at *); clear kat; go_wp2_with fail; refine HBt.out.mono ?_; rintro e wB ⟨rfl, hbB⟩; (have HH9 := Lib.hid (HH.out.below hbB)); (have HB9 : Hid (Below w.heap.size w wB) := HB.out.trans (hbB.mono HB.out.size)); (have HM := Lib.hid (may_at (show gs ≤ 256 by omega) _ _ _ ks ata _ wB HH9.out HK.out k1 k2)); (rw [hz] at HM); clear HBt hbB; go_wp2_with fail; refine HM.out.mono ?_; rintro e wC ⟨rfl, rfl⟩; clear HM; go_wp2; go_roundw; (case rel => exact ⟨j + 1, by omega, by go_num, ⟨_, _, _, HH9.out, HK.out⟩, HB9.out⟩); (case measure => simp [intOf]; omega))); (focus ((rw [if_pos ⟨⟨k1, by rw [HK.out.1]; exact k2⟩, by omega⟩] at hbit); (replace hz : decide (List.getD ks ata.toNat 0 = 0) = false := by simpa using (show List.getD ks ata.toNat 0 ≠ 0 by omega)); (generalize bitsK ata ks = β at *); clear kat; go_wp2_with fail; refine HBt.out.mono ?_; rintro e wB ⟨rfl, hbB⟩; (have HH9 := Lib.hid (HH.out.below hbB)); (have HB9 : Hid (Below w.heap.size w wB) := HB.out.trans (hbB.mono HB.out.size)); (have HM := Lib.hid (may_at (show gs ≤ 256 by omega) _ _ _ ks ata _ wB HH9.out HK.out k1 k2)); (rw [hz] at HM); clear HBt hbB; go_wp2_with fail; refine HM.out.mono ?_; rintro e wC ⟨rfl, rfl⟩; clear HM; go_wp2; go_roundw; (case rel => exact ⟨j + 1, by omega, by go_num, ⟨_, _, _, HH9.out, HK.out⟩, HB9.out⟩); (case measure => simp [intOf]; omega))))
          · focus ((rw [if_neg (fun e => by have := e.1.1; have := e.1.2; rw [HK.out.1] at this; omega)] at hbit); (generalize bitsK ata ks = β at *); clear kat; go_wp2_with fail; refine HBt.out.mono ?_; rintro e wB ⟨rfl, hbB⟩; (have HH9 := Lib.hid (HH.out.below hbB)); (have HB9 : Hid (Below w.heap.size w wB) := HB.out.trans (hbB.mono HB.out.size)); clear HBt hbB; go_wp2; go_roundw; (case rel => exact ⟨j + 1, by omega, by go_num, ⟨_, _, _, HH9.out, HK.out⟩, HB9.out⟩); (case measure => simp [intOf]; omega))
          · focus ((rw [if_neg (fun e => by have := e.1.1; have := e.1.2; rw [HK.out.1] at this; omega)] at hbit); (generalize bitsK ata ks = β at *); clear kat; go_wp2_with fail; refine HBt.out.mono ?_; rintro e wB ⟨rfl, hbB⟩; (have HH9 := Lib.hid (HH.out.below hbB)); (have HB9 : Hid (Below w.heap.size w wB) := HB.out.trans (hbB.mono HB.out.size)); clear HBt hbB; go_wp2; go_roundw; (case rel => exact ⟨j + 1, by omega, by go_num, ⟨_, _, _, HH9.out, HK.out⟩, HB9.out⟩); (case measure => simp [intOf]; omega))
      · obtain rfl : j = n := by omega
        clear HA
        go_wp2
        go_ret
        exact ⟨rfl, HB.out⟩
end Go.Proofs.Ytallanlajecmhaa
namespace Go.Proofs.Ytallanlajecmhaa.guardRises
open Go.ChangeShapes Go.WideShapes Go.ChangeAt Go.RowKit Go.Joins
set_option linter.unusedVariables false
set_option linter.unusedSimpArgs false

theorem opened {H : Type} {enc : TypeId × Value → H} (W : World) {base : Nat} {v0 v1 v2 : Value} {d0 d1 d2 : DataW H} {p0 p1 p2 : List MemPlace}
    (o0 : Value.okWide Try.prog W .any base 3 v0) (o1 : Value.okWide Try.prog W .any base 22 v1) (o2 : Value.okWide Try.prog W .any base 3 v2)
    (h0 : DataW.Trod enc Try.prog W 0 (fun _ => true) true 3 v0 d0 p0) (h1 : DataW.Trod enc Try.prog W 0 (fun _ => true) true 22 v1 d1 p1) (h2 : DataW.Trod enc Try.prog W 0 (fun _ => true) true 3 v2 d2 p2) :
    Calls Try.prog 4 #[v0, v1, v2] W fun e W' => e = .returned (.bool true) ∧ Below W.heap.size W W' := by
  obtain ⟨g, rfl, rfl, rfl, wg⟩ := open_int Try.underlying3 o0 h0
  obtain ⟨k, rfl, rfl, rfl, wk⟩ := open_int Try.underlying3 o2 h2
  obtain ⟨a, n, cap, f, rfl, _, _, hA⟩ := acts_view W Try.underlying22 Try.underlying31 (by kernel_rfl) (by kernel_rfl) 3 Try.underlying3 (by kernel_rfl) (by decide) o1 h1
  exact rises_walk g k a n cap f W hA

/-! THE STATEMENT's FRAME, written by my own program over the guide's way (howto/shells, how-to-prove-an-upto-statement). -/
theorem own : ownKnob Try.prog.godebug = none := by kernel_rfl
theorem laidOut : laidOutB Try.prog = true := by kernel_rfl

theorem contract (H : Type) (enc : TypeId × Value → H) (W : World) (base : Nat) (args : Array Value) (ds gs : List (DataW H)) (before : List MemPlace)
    (hval : ∀ (j : Nat) t v, Try.f4.params[j]? = some t → args[j]? = some v → Value.okWide Try.prog W .any base t v)
    (hW : DataW.Whole enc Try.prog Try.f4.params.toList Rows.guardRisesSpec.vars false W args.toList ds gs before) :
    Calls Try.prog 4 args W fun e W' => ∃ v, e = .returned v ∧ Rows.guardRisesSpec.post enc Try.prog Try.f4 false true false false W args v W' := by
  have hW' := hW
  obtain ⟨p, q, hA0, hV, rfl, hfz, hnd⟩ := hW
  have hA : DataW.TrodAll enc Try.prog W 0 (fun _ => true) true Try.f4.params.toList args.toList ds p := hA0
  rw [Try.params4] at hA hval
  obtain ⟨v0, vs0, d0, ds0, p0, q0, hargs, rfl, rfl, h0, r0⟩ := trodAll_cons hA
  obtain ⟨v1, vs1, d1, ds1, p1, q1, rfl, rfl, rfl, h1, r1⟩ := trodAll_cons r0
  obtain ⟨v2, vs2, d2, ds2, p2, q2, rfl, rfl, rfl, h2, r2⟩ := trodAll_cons r1
  obtain ⟨rfl, rfl, rfl⟩ := trodAll_nil r2
  obtain rfl : args = #[v0, v1, v2] := by cases args; simp_all
  obtain ⟨rfl, rfl⟩ := trodVars_none hV
  have k0 := h0
  have lt0 : ∀ x ∈ p0, x.block < W.heap.size := by obtain ⟨m, hm⟩ := k0; exact DataW.trod_lt m _ _ _ hm
  have k1 := h1
  have lt1 : ∀ x ∈ p1, x.block < W.heap.size := by obtain ⟨m, hm⟩ := k1; exact DataW.trod_lt m _ _ _ hm
  have k2 := h2
  have lt2 : ∀ x ∈ p2, x.block < W.heap.size := by obtain ⟨m, hm⟩ := k2; exact DataW.trod_lt m _ _ _ hm
  clear hA0
  refine (opened W (hval 0 3 v0 rfl rfl) (hval 1 22 v1 rfl rfl) (hval 2 3 v2 rfl rfl) h0 h1 h2).mono fun e W' ⟨he, bel⟩ => ?_
  subst he
  exact ⟨_, rfl, _, _, _, [], _, [], hW', trodAll_mk1 (shut_bool Try.underlying4 _), (trodAll_cons_mk (Below.trod laidOut (by kernel_rfl) (of_decide_eq_true (by kernel_rfl)) k0 bel lt0) (trodAll_cons_mk (Below.trod laidOut (by kernel_rfl) (of_decide_eq_true (by kernel_rfl)) k1 bel lt1) (trodAll_cons_mk (Below.trod laidOut (by kernel_rfl) (of_decide_eq_true (by kernel_rfl)) k2 bel lt2) trodAll_mk0))), rfl, bel.frame _, fun h => by cases h⟩

set_option maxRecDepth 100000 in
theorem lifted (os : Os) (started : os.Started) (H : Type) (enc : TypeId × Value → H) :
    ReturnsInHanded {} Try.checked os 4 .any (Rows.guardRisesSpec.pre6 enc Try.prog Try.f4 Rows.guardRisesRow.domain false) (Rows.guardRisesSpec.post enc Try.prog Try.f4 false true false false) := by
  refine returnsInHanded_of_change (C := Try.checked) own started (by kernel_rfl) Try.func4
    (ChangeSpec.witness6 (enc := enc) (C := Try.checked) false ⟨#[], #[.int .i64 0, .slice none 0 0, .int .i64 0], []⟩ 8 (by kernel_rfl) (by kernel_rfl) (by kernel_rfl) (by kernel_rfl)) ?_
  intro W base args ds gs before hval hW hcnd _
  exact contract H enc W base args ds gs before hval hW

theorem proved : Rows.GuardRisesSaid :=
  OpenClaim.holds_of_wide 4 Try.f4 rfl rfl rfl rfl rfl rfl rfl ⟨rfl, rfl, rfl, rfl, rfl⟩ rfl rfl rfl rfl rfl (by kernel_rfl) Try.func4 (by kernel_rfl)
    (of_decide_eq_true (by kernel_rfl)) (by unfold Func.isWrapper; first | (rw [if_pos (by decide +kernel)]; kernel_rfl) | (rw [if_neg (by decide +kernel)]; exact ⟨rfl, rfl⟩))
    (fun os started H enc _ => lifted os started H enc)
#print axioms proved
end Go.Proofs.Ytallanlajecmhaa.guardRises
