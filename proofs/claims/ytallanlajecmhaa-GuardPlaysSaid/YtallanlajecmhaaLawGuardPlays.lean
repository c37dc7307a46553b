/- GuardPlays: any number of groups, any acts: the program and the reference answer alike, and show alike, behind each act: the law returns true, and its arguments read as before. No condition. -/
import Derived.Test.YtallanlajecmhaaGuardLoad
import Derived.Test.YtallanlajecmhaaLooks
import Derived.Test.YtallanlajecmhaaOpenStructs
namespace Go.Proofs.Ytallanlajecmhaa
open Go.RowKit
set_option linter.unusedVariables false
set_option linter.unusedSimpArgs false

/-- Both objects, beside one another. -/
structure GR (w W : World) (G L c R M d : Nat) (sg sr : List Nat) : Prop where
  hg : GHeld W w.heap.size G L c sg
  hr : RHeld W w.heap.size R M d sr
  hb : Below w.heap.size w W
section
variable {w W : World} {G L c R M d : Nat} {sg sr : List Nat}
theorem GR.apart (h : GR w W G L c R M d sg sr) : G ≠ R ∧ G ≠ M ∧ L ≠ R ∧ L ≠ M := by
  obtain ⟨_, cur, hl, _⟩ := own_row h.hg.own
  obtain ⟨_, cur', hm, _⟩ := own_row h.hr.own
  exact ⟨h.hg.row.ne_type h.hr.row (by decide), h.hg.row.ne_type hm (by decide), hl.ne_type h.hr.row (by decide), hl.ne_type hm (by decide)⟩
theorem GR.below {W' : World} (h : GR w W G L c R M d sg sr) (hb : Below W.heap.size W W') : GR w W' G L c R M d sg sr := ⟨h.hg.below hb, h.hr.below hb, h.hb.trans (hb.mono h.hb.size)⟩
theorem GR.drew (h : GR w W G L c R M d sg sr) : GR w W.drew G L c R M d sg sr := h.below (Below.refl _ _).drew
theorem GR.turnG {W' : World} {L' c' : Nat} {sg' : List Nat} (h : GR w W G L c R M d sg sr) (S : List Nat) (ht : Turns W W' S) (hS : ∀ k ∈ S, k = G ∨ k = L) (hg : GHeld W' w.heap.size G L' c' sg') : GR w W' G L' c' R M d sg' sr := by
  obtain ⟨a1, a2, a3, a4⟩ := h.apart
  refine ⟨hg, h.hr.turns ht (fun hm => ?_) (fun hm => ?_), ht.below h.hb h.hb.size (fun k hk => ?_)⟩
  · rcases hS _ hm with e | e <;> omega
  · rcases hS _ hm with e | e <;> omega
  · have := h.hg.hG; have := h.hg.hL.1; rcases hS _ hk with e | e <;> omega
theorem GR.turnR {W' : World} {sr' : List Nat} (h : GR w W G L c R M d sg sr) (S : List Nat) (ht : Turns W W' S) (hS : ∀ k ∈ S, k = R ∨ k = M) (hr : RHeld W' w.heap.size R M d sr') : GR w W' G L c R M d sg sr' := by
  obtain ⟨a1, a2, a3, a4⟩ := h.apart
  refine ⟨h.hg.turns ht (fun hm => ?_) (fun hm => ?_), hr, ht.below h.hb h.hb.size (fun k hk => ?_)⟩
  · rcases hS _ hm with e | e <;> omega
  · rcases hS _ hm with e | e <;> omega
  · have := h.hr.hG; have := h.hr.hL.1; rcases hS _ hk with e | e <;> omega
theorem GR.set {gs : Nat} (hgs : gs ≤ 256) (h : GR w W G L c R M d sg sr) (hk : Kinds gs sg) (g k : Int) :
    Calls Try.prog 9 #[.pointer (some ⟨G, 0, none⟩), .int .i64 g, .int .i64 k] W fun e W' => e = .returned (.int .i64 (setR sg g k : Nat)) ∧ GR w W' G L c R M d (setK sg g k) sr :=
  (Set_any G L c sg (by rw [hk.1]; exact hgs) g k _ W h.hg hk.2).mono fun e W' ⟨he, hh, ht⟩ => ⟨he, h.turnG [L] ht (by simp) hh⟩
theorem GR.rset {gs : Nat} (hgs : gs ≤ 256) (h : GR w W G L c R M d sg sr) (hk : Kinds gs sr) (g k : Int) :
    Calls Try.prog 17 #[.pointer (some ⟨R, 0, none⟩), .int .i64 g, .int .i64 k] W fun e W' => e = .returned (.int .i64 (setR sr g k : Nat)) ∧ GR w W' G L c R M d sg (setK sr g k) :=
  (refSet_any hgs R M d sr g k _ W h.hr hk).mono fun e W' ⟨he, hh, ht⟩ => ⟨he, h.turnR [M] ht (by simp) hh⟩
theorem GR.clear {gs : Nat} (hgs : gs ≤ 256) (h : GR w W G L c R M d sg sr) (hk : Kinds gs sg) (g : Int) :
    Calls Try.prog 11 #[.pointer (some ⟨G, 0, none⟩), .int .i64 g] W fun e W' => e = .returned (.int .i64 (clearR sg g : Nat)) ∧ GR w W' G L c R M d (clearK sg g) sr :=
  (Clear_any G L c sg (by rw [hk.1]; exact hgs) g _ W h.hg hk.2).mono fun e W' ⟨he, hh, ht⟩ => ⟨he, h.turnG [L] ht (by simp) hh⟩
theorem GR.rclear {gs : Nat} (hgs : gs ≤ 256) (h : GR w W G L c R M d sg sr) (hk : Kinds gs sr) (g : Int) :
    Calls Try.prog 18 #[.pointer (some ⟨R, 0, none⟩), .int .i64 g] W fun e W' => e = .returned (.int .i64 (clearR sr g : Nat)) ∧ GR w W' G L c R M d sg (clearK sr g) :=
  (refClear_any hgs R M d sr g _ W h.hr hk).mono fun e W' ⟨he, hh, ht⟩ => ⟨he, h.turnR [M] ht (by simp) hh⟩
theorem GR.up {gs : Nat} (h0 : 0 < gs) (hgs : gs ≤ 256) (h : GR w W G L c R M d sg sr) (hk : Kinds gs sg) :
    Calls Try.prog 12 #[.pointer (some ⟨G, 0, none⟩)] W fun e W' => (∃ v, e = .returned v) ∧ ∃ L' c', GR w W' G L' c' R M d (lastK sg) sr :=
  (PowerUp_any G L c sg (by rw [hk.1]; exact h0) (by rw [hk.1]; exact hgs) _ W h.hg hk.2).mono fun e W' ⟨he, ⟨L', c', hh⟩, ht⟩ => ⟨he, L', c', h.turnG [G] ht (by simp) hh⟩
theorem GR.rup {gs : Nat} (hgs : gs ≤ 256) (h : GR w W G L c R M d sg sr) (hk : Kinds gs sr) :
    Calls Try.prog 19 #[.pointer (some ⟨R, 0, none⟩)] W fun e W' => (∃ v, e = .returned v) ∧ GR w W' G L c R M d sg (lastK sr) :=
  (refPowerUp_any hgs R M d sr _ W h.hr hk).mono fun e W' ⟨he, hh, ht⟩ => ⟨he, h.turnR [M] ht (by simp) hh⟩
theorem GR.looks {gs : Nat} (h0 : 0 < gs) (hgs : gs ≤ 256) (h : GR w W G L c R M d sg sg) (hk : Kinds gs sg) (k : Int) :
    Calls Try.prog 22 #[.pointer (some ⟨G, 0, none⟩), .pointer (some ⟨R, 0, none⟩), .int .i64 k] W fun e W' => e = .returned (.bool true) ∧ GR w W' G L c R M d sg sg :=
  (looks_any h0 hgs G L c R M d sg k _ _ W h.hg h.hr hk).mono fun e W' ⟨he, hb⟩ => ⟨he, h.below hb⟩
/-- What lasts makes a new one. -/
theorem GR.load {gs : Nat} (h0 : 0 < gs) (hgs : gs ≤ 256) (h : GR w W G L c R M d sg sr) (hk : Kinds gs sg) {A : Option Addr} {n cc : Nat} (ho : W.ownsRow w.heap.size 5 1 (.slice A n cc) n (intsV .u8 (lastK sg))) :
    Calls Try.prog 20 #[.int .i64 gs, .slice A n cc] W fun e W' => ∃ G' L' c', e = .returned (.tuple #[.pointer (some ⟨G', 0, none⟩), .int .i64 0]) ∧ GR w W' G' L' c' R M d (lastK sg) sr := by
  obtain ⟨hn, hc⟩ := Cells8.of_own (l := lastK sg) ho
  have hl : (lastK sg).length = gs := by rw [lastK_length]; exact hk.1
  have hb : (lastK sg).any badB = false := by
    rw [List.any_eq_false]
    intro x hx
    simp only [lastK, List.mem_map] at hx
    obtain ⟨y, hy, rfl⟩ := hx
    have := hk.2 y hy
    simp only [badB]
    split
    · simp
    · simp; omega
  have := Load_yes A (lastK sg) cc (by omega) (by omega) W hc hb
  rw [← hn, hn, hl] at this
  rw [hn, hl]
  exact this.mono fun e W' ⟨G', L', c', he, hh, hbb⟩ => ⟨G', L', c', he, hh.mono h.hb.size, h.hr.below hbb, h.hb.trans (hbb.mono h.hb.size)⟩
end

set_option maxRecDepth 100000 in
set_option maxHeartbeats 4000000 in
theorem plays_walk (groups : Int) (a : Option Addr) (n cap : Nat) (f : Nat → Nat → Int) (w : World) (hA : Acts w a n 3 f) :
    Calls Try.prog 5 #[.int .i64 groups, .slice a n cap] w fun e w' => e = .returned (.bool true) ∧ Below w.heap.size w w' := by
  by_cases hn : 300 < n
  · have e : ((300 : Int) < (n : Int)) = (300 < n) := by simp; omega
    go_enter Try.func5, Try.ntmps5
    go_wp2_with fail
    refine (known_any _).mono ?_
    rintro e w1 ⟨rfl, hb1⟩
    have HB := Lib.hid hb1
    clear hb1
    go_wp2
    go_ret
    exact ⟨rfl, HB.out⟩
  · have h1 : ¬ ((300 : Int) < (n : Int)) := by omega
    by_cases hg : groups < 1 ∨ 256 < groups
    · have HN := Lib.hid (fun W => New_no groups hg W)
      have HR := Lib.hid (fun W => refNew_no groups hg W)
      clear hg
      go_enter Try.func5, Try.ntmps5
      go_wp2_with fail
      refine (known_any _).mono ?_
      rintro e w1 ⟨rfl, hb1⟩
      have HB := Lib.hid hb1
      clear hb1
      go_wp2_with fail
      refine (HN.out _).mono ?_
      rintro e w2 ⟨rfl, rfl⟩
      go_wp2_with fail
      refine (HR.out _).mono ?_
      rintro e w2 ⟨rfl, rfl⟩
      go_wp2
      go_ret
      exact ⟨rfl, HB.out⟩
    · obtain ⟨gs, rfl⟩ := Int.eq_ofNat_of_zero_le (show 0 ≤ groups by omega)
      have hg1 : 1 ≤ gs := by omega
      have hg2 : gs ≤ 256 := by omega
      have HA := Lib.hid hA
      clear hA hg
      go_enter Try.func5, Try.ntmps5
      go_wp2_with fail
      refine (known_any _).mono ?_
      rintro e w1 ⟨rfl, hb1⟩
      have HB1 := Lib.hid hb1
      clear hb1
      go_wp2_with fail
      refine (New_yes gs hg1 hg2 w1).mono ?_
      rintro e w2 ⟨G, L, c, rfl, hh, hb2⟩
      have HB2 : Hid (Below w.heap.size w w2) := HB1.out.trans (hb2.mono HB1.out.size)
      have HH : Hid (GHeld w2 w.heap.size G L c (List.replicate gs 0)) := hh.mono HB1.out.size
      clear hh hb2 HB1
      go_wp2_with fail
      refine (refNew_yes gs hg1 hg2 w2).mono ?_
      rintro e w3 ⟨R, M, d, rfl, hr, hb3⟩
      have HX : Hid (GR w w3 G L c R M d (List.replicate gs 0) (List.replicate gs 0)) := ⟨HH.out.below hb3, hr.mono HB2.out.size, HB2.out.trans (hb3.mono HB2.out.size)⟩
      have HKS : Hid (Kinds gs (List.replicate gs 0)) := ⟨by simp, by intro x hx; have := List.eq_of_mem_replicate hx; omega⟩
      clear HB2 HH hr hb3
      generalize List.replicate gs 0 = ks0 at *
      go_wp2
      go_loopw [5, 9] (fun p i wr => ∃ j : Nat, j ≤ n ∧ i = .int .i64 j ∧ ∃ G, p = .pointer (some ⟨G, 0, none⟩) ∧ ∃ L c ks, GR w wr G L c R M d ks ks ∧ Kinds gs ks) (fun _ i _ => n - (intOf i).toNat)
      case atStart => exact ⟨0, by omega, rfl, G, rfl, L, c, ks0, HX.out, HKS.out⟩
      case round =>
        clear HX HKS
        obtain ⟨j, hj, rfl, G, rfl, L, c, ks, hh, hkk⟩ := hrel
        have HH := Lib.hid hh
        have HK := Lib.hid hkk
        clear hh hkk
        by_cases hjn : j < n
        · obtain ⟨b, off, rfl⟩ := HA.out.addr (by omega)
          have hbl := HA.out.lt (by omega) (by omega)
          have q0 : wr.cell? ⟨b, off + j * 3, none⟩ = some (.int .i64 (f j 0)) := (HH.out.hb.cell (p := ⟨b, off + j * 3, none⟩) hbl).trans (HA.out.cells j 0 hjn (by omega))
          have HQ : Hid (∀ W G L c sg sr, GR w W G L c R M d sg sr → W.cell? ⟨b, off + j * 3 + 1, none⟩ = some (.int .i64 (f j 1)) ∧ W.cell? ⟨b, off + j * 3 + 2, none⟩ = some (.int .i64 (f j 2))) := fun W G L c sg sr h =>
            ⟨(h.hb.cell (p := ⟨b, off + j * 3 + 1, none⟩) hbl).trans (HA.out.cells j 1 hjn (by omega)), (h.hb.cell (p := ⟨b, off + j * 3 + 2, none⟩) hbl).trans (HA.out.cells j 2 hjn (by omega))⟩
          obtain ⟨g, hg⟩ : ∃ g, g = f j 1 := ⟨_, rfl⟩
          have Hf1 := Lib.hid hg
          rw [← hg] at HQ
          clear hg
          generalize f j 0 = o at *
          generalize f j 2 = kd at *
          have key : o = 1 ∨ (o ≠ 1 ∧ o = 2) ∨ (o ≠ 1 ∧ o ≠ 2 ∧ o = 3) ∨ (o ≠ 1 ∧ o ≠ 2 ∧ o ≠ 3 ∧ o = 4) ∨ (o ≠ 1 ∧ o ≠ 2 ∧ o ≠ 3 ∧ o ≠ 4) := by omega
          rcases key with rfl | ⟨k1, rfl⟩ | ⟨k1, k2, rfl⟩ | ⟨k1, k2, k3, rfl⟩ | ⟨k1, k2, k3, k4⟩
          · have HS : Hid (∀ W sr, GR w W G L c R M d ks sr → Calls Try.prog 9 #[.pointer (some ⟨G, 0, none⟩), .int .i64 g, .int .i64 kd] W fun e W' => e = .returned (.int .i64 (setR ks g kd : Nat)) ∧ GR w W' G L c R M d (setK ks g kd) sr) := fun W sr h => h.set (by omega) HK.out g kd
            have HT : Hid (∀ W sg, GR w W G L c R M d sg ks → Calls Try.prog 17 #[.pointer (some ⟨R, 0, none⟩), .int .i64 g, .int .i64 kd] W fun e W' => e = .returned (.int .i64 (setR ks g kd : Nat)) ∧ GR w W' G L c R M d sg (setK ks g kd)) := fun W sg h => h.rset (by omega) HK.out g kd
            have HK4 := Lib.hid (setK_kinds HK.out g kd)
            generalize setK ks g kd = ks4 at *
            generalize setR ks g kd = r at *
            have HX0 := Lib.hid HH.out.drew
            have hq := HQ.out _ _ _ _ _ _ HX0.out
            have hq0 := HQ.out _ _ _ _ _ _ HH.out
            go_wp2
            go_region_held_law (fun w' => w'.cell? ⟨b, off + j * 3 + 1, none⟩ = some (.int .i64 g) ∧ w'.cell? ⟨b, off + j * 3 + 2, none⟩ = some (.int .i64 kd)) (exact hq)
              (first | (go_at_call 9; refine (HS.out _ _ (by first | exact HX0.out | exact hXr.out)).mono ?_; rintro e w' ⟨rfl, hX⟩; have hXg := Lib.hid hX; have hq := HQ.out _ _ _ _ _ _ hX; clear hX) | (go_at_call 17; refine (HT.out _ _ (by first | exact HX0.out | exact hXg.out)).mono ?_; rintro e w' ⟨rfl, hX⟩; have hXr := Lib.hid hX; have hq := HQ.out _ _ _ _ _ _ hX; clear hX))
            have HF : Hid (GR w _ G L c R M d ks4 ks4) := hXr
            clear hq hq0 hXg hXr HX0 HS HT
            (obtain ⟨q1W, q2W⟩ := HQ.out _ _ _ _ _ _ HF.out); (have HLk := Lib.hid (HF.out.looks (show 0 < gs by omega) (show gs ≤ 256 by omega) HK4.out g)); clear q2W; go_wp2_with fail; refine HLk.out.mono ?_; rintro e w9 ⟨rfl, hh9⟩; (have H9 := Lib.hid hh9); clear HLk hh9; go_wp2; go_roundw; (case rel => exact ⟨j + 1, by omega, by go_num, _, rfl, _, _, _, H9.out, HK4.out⟩); (case measure => simp [intOf]; omega)
          · have HS : Hid (∀ W sr, GR w W G L c R M d ks sr → Calls Try.prog 11 #[.pointer (some ⟨G, 0, none⟩), .int .i64 g] W fun e W' => e = .returned (.int .i64 (clearR ks g : Nat)) ∧ GR w W' G L c R M d (clearK ks g) sr) := fun W sr h => h.clear (by omega) HK.out g
            have HT : Hid (∀ W sg, GR w W G L c R M d sg ks → Calls Try.prog 18 #[.pointer (some ⟨R, 0, none⟩), .int .i64 g] W fun e W' => e = .returned (.int .i64 (clearR ks g : Nat)) ∧ GR w W' G L c R M d sg (clearK ks g)) := fun W sg h => h.rclear (by omega) HK.out g
            have HK4 := Lib.hid (clearK_kinds HK.out g)
            generalize clearK ks g = ks4 at *
            generalize clearR ks g = r at *
            have HX0 := Lib.hid HH.out.drew
            have hq := HQ.out _ _ _ _ _ _ HX0.out
            have hq0 := HQ.out _ _ _ _ _ _ HH.out
            go_wp2
            go_region_held_law (fun w' => w'.cell? ⟨b, off + j * 3 + 1, none⟩ = some (.int .i64 g) ∧ w'.cell? ⟨b, off + j * 3 + 2, none⟩ = some (.int .i64 kd)) (exact hq)
              (first | (go_at_call 11; refine (HS.out _ _ (by first | exact HX0.out | exact hXr.out)).mono ?_; rintro e w' ⟨rfl, hX⟩; have hXg := Lib.hid hX; have hq := HQ.out _ _ _ _ _ _ hX; clear hX) | (go_at_call 18; refine (HT.out _ _ (by first | exact HX0.out | exact hXg.out)).mono ?_; rintro e w' ⟨rfl, hX⟩; have hXr := Lib.hid hX; have hq := HQ.out _ _ _ _ _ _ hX; clear hX))
            have HF : Hid (GR w _ G L c R M d ks4 ks4) := hXr
            clear hq hq0 hXg hXr HX0 HS HT
            (obtain ⟨q1W, q2W⟩ := HQ.out _ _ _ _ _ _ HF.out); (have HLk := Lib.hid (HF.out.looks (show 0 < gs by omega) (show gs ≤ 256 by omega) HK4.out g)); clear q2W; go_wp2_with fail; refine HLk.out.mono ?_; rintro e w9 ⟨rfl, hh9⟩; (have H9 := Lib.hid hh9); clear HLk hh9; go_wp2; go_roundw; (case rel => exact ⟨j + 1, by omega, by go_num, _, rfl, _, _, _, H9.out, HK4.out⟩); (case measure => simp [intOf]; omega)
          · have HU := Lib.hid (HH.out.up (show 0 < gs by omega) (by omega) HK.out)
            have HK4 := Lib.hid (lastK_kinds HK.out)
            go_wp2_with fail
            refine HU.out.mono ?_
            rintro e w4 ⟨⟨v, rfl⟩, L4, c4, h4⟩
            have HU2 := Lib.hid (h4.rup (show gs ≤ 256 by omega) HK.out)
            clear HU h4 HH
            go_wp2_with fail
            refine HU2.out.mono ?_
            rintro e w5 ⟨⟨v2, rfl⟩, h5⟩
            have HF := Lib.hid h5
            clear HU2 h5
            generalize lastK ks = ks4 at *
            (obtain ⟨q1W, q2W⟩ := HQ.out _ _ _ _ _ _ HF.out); (have HLk := Lib.hid (HF.out.looks (show 0 < gs by omega) (show gs ≤ 256 by omega) HK4.out g)); clear q2W; go_wp2_with fail; refine HLk.out.mono ?_; rintro e w9 ⟨rfl, hh9⟩; (have H9 := Lib.hid hh9); clear HLk hh9; go_wp2; go_roundw; (case rel => exact ⟨j + 1, by omega, by go_num, _, rfl, _, _, _, H9.out, HK4.out⟩); (case measure => simp [intOf]; omega)
          · have HLs := Lib.hid (Lasting_any G L c ks (by rw [HK.out.1]; omega) (by rw [HK.out.1]; omega) _ wr HH.out.hg HK.out.2)
            have HK4 := Lib.hid (lastK_kinds HK.out)
            go_wp2_with fail
            refine HLs.out.mono ?_
            rintro e w4 ⟨L1, c1, rfl, ho, hb4⟩
            have H4 := Lib.hid (HH.out.below hb4)
            have HLd := Lib.hid (H4.out.load (show 0 < gs by omega) (by omega) HK.out (own_mono ho HH.out.hb.size))
            clear HLs HH ho hb4 H4
            go_wp2_with fail
            refine HLd.out.mono ?_
            rintro e w5 ⟨G5, L5, c5, rfl, h5⟩
            have HU2 := Lib.hid (h5.rup (show gs ≤ 256 by omega) HK.out)
            clear HLd h5
            go_wp2_with fail
            refine HU2.out.mono ?_
            rintro e w6 ⟨⟨v2, rfl⟩, h6⟩
            have HF := Lib.hid h6
            clear HU2 h6
            generalize lastK ks = ks4 at *
            (obtain ⟨q1W, q2W⟩ := HQ.out _ _ _ _ _ _ HF.out); (have HLk := Lib.hid (HF.out.looks (show 0 < gs by omega) (show gs ≤ 256 by omega) HK4.out g)); clear q2W; go_wp2_with fail; refine HLk.out.mono ?_; rintro e w9 ⟨rfl, hh9⟩; (have H9 := Lib.hid hh9); clear HLk hh9; go_wp2; go_roundw; (case rel => exact ⟨j + 1, by omega, by go_num, _, rfl, _, _, _, H9.out, HK4.out⟩); (case measure => simp [intOf]; omega)
          · (obtain ⟨q1W, q2W⟩ := HQ.out _ _ _ _ _ _ HH.out); (have HLk := Lib.hid (HH.out.looks (show 0 < gs by omega) (show gs ≤ 256 by omega) HK.out g)); clear q2W; go_wp2_with fail; refine HLk.out.mono ?_; rintro e w9 ⟨rfl, hh9⟩; (have H9 := Lib.hid hh9); clear HLk hh9; go_wp2; go_roundw; (case rel => exact ⟨j + 1, by omega, by go_num, _, rfl, _, _, _, H9.out, HK.out⟩); (case measure => simp [intOf]; omega)
        · obtain rfl : j = n := by omega
          clear HA
          go_wp2
          go_ret
          exact ⟨rfl, HH.out.hb⟩
end Go.Proofs.Ytallanlajecmhaa
namespace Go.Proofs.Ytallanlajecmhaa.guardPlays
open Go.ChangeShapes Go.WideShapes Go.ChangeAt Go.RowKit Go.Joins
set_option linter.unusedVariables false
set_option linter.unusedSimpArgs false

theorem opened {H : Type} {enc : TypeId × Value → H} (W : World) {base : Nat} {v0 v1 : Value} {d0 d1 : DataW H} {p0 p1 : List MemPlace}
    (o0 : Value.okWide Try.prog W .any base 3 v0) (o1 : Value.okWide Try.prog W .any base 22 v1)
    (h0 : DataW.Trod enc Try.prog W 0 (fun _ => true) true 3 v0 d0 p0) (h1 : DataW.Trod enc Try.prog W 0 (fun _ => true) true 22 v1 d1 p1) :
    Calls Try.prog 5 #[v0, v1] W fun e W' => e = .returned (.bool true) ∧ Below W.heap.size W W' := by
  obtain ⟨g, rfl, rfl, rfl, wg⟩ := open_int Try.underlying3 o0 h0
  obtain ⟨a, n, cap, f, rfl, _, _, hA⟩ := acts_view W Try.underlying22 Try.underlying31 (by kernel_rfl) (by kernel_rfl) 3 Try.underlying3 (by kernel_rfl) (by decide) o1 h1
  exact plays_walk g a n cap f W hA

/-! THE STATEMENT's FRAME, written by my own program over the guide's way (howto/shells, how-to-prove-an-upto-statement). -/
theorem own : ownKnob Try.prog.godebug = none := by kernel_rfl
theorem laidOut : laidOutB Try.prog = true := by kernel_rfl

theorem contract (H : Type) (enc : TypeId × Value → H) (W : World) (base : Nat) (args : Array Value) (ds gs : List (DataW H)) (before : List MemPlace)
    (hval : ∀ (j : Nat) t v, Try.f5.params[j]? = some t → args[j]? = some v → Value.okWide Try.prog W .any base t v)
    (hW : DataW.Whole enc Try.prog Try.f5.params.toList Rows.guardPlaysSpec.vars false W args.toList ds gs before) :
    Calls Try.prog 5 args W fun e W' => ∃ v, e = .returned v ∧ Rows.guardPlaysSpec.post enc Try.prog Try.f5 false true false false W args v W' := by
  have hW' := hW
  obtain ⟨p, q, hA0, hV, rfl, hfz, hnd⟩ := hW
  have hA : DataW.TrodAll enc Try.prog W 0 (fun _ => true) true Try.f5.params.toList args.toList ds p := hA0
  rw [Try.params5] at hA hval
  obtain ⟨v0, vs0, d0, ds0, p0, q0, hargs, rfl, rfl, h0, r0⟩ := trodAll_cons hA
  obtain ⟨v1, vs1, d1, ds1, p1, q1, rfl, rfl, rfl, h1, r1⟩ := trodAll_cons r0
  obtain ⟨rfl, rfl, rfl⟩ := trodAll_nil r1
  obtain rfl : args = #[v0, v1] := by cases args; simp_all
  obtain ⟨rfl, rfl⟩ := trodVars_none hV
  have k0 := h0
  have lt0 : ∀ x ∈ p0, x.block < W.heap.size := by obtain ⟨m, hm⟩ := k0; exact DataW.trod_lt m _ _ _ hm
  have k1 := h1
  have lt1 : ∀ x ∈ p1, x.block < W.heap.size := by obtain ⟨m, hm⟩ := k1; exact DataW.trod_lt m _ _ _ hm
  clear hA0
  refine (opened W (hval 0 3 v0 rfl rfl) (hval 1 22 v1 rfl rfl) h0 h1).mono fun e W' ⟨he, bel⟩ => ?_
  subst he
  exact ⟨_, rfl, _, _, _, [], _, [], hW', trodAll_mk1 (shut_bool Try.underlying4 _), (trodAll_cons_mk (Below.trod laidOut (by kernel_rfl) (of_decide_eq_true (by kernel_rfl)) k0 bel lt0) (trodAll_cons_mk (Below.trod laidOut (by kernel_rfl) (of_decide_eq_true (by kernel_rfl)) k1 bel lt1) trodAll_mk0)), rfl, bel.frame _, fun h => by cases h⟩

set_option maxRecDepth 100000 in
theorem lifted (os : Os) (started : os.Started) (H : Type) (enc : TypeId × Value → H) :
    ReturnsInHanded {} Try.checked os 5 .any (Rows.guardPlaysSpec.pre6 enc Try.prog Try.f5 Rows.guardPlaysRow.domain false) (Rows.guardPlaysSpec.post enc Try.prog Try.f5 false true false false) := by
  refine returnsInHanded_of_change (C := Try.checked) own started (by kernel_rfl) Try.func5
    (ChangeSpec.witness6 (enc := enc) (C := Try.checked) false ⟨#[], #[.int .i64 0, .slice none 0 0], []⟩ 8 (by kernel_rfl) (by kernel_rfl) (by kernel_rfl) (by kernel_rfl)) ?_
  intro W base args ds gs before hval hW hcnd _
  exact contract H enc W base args ds gs before hval hW

theorem proved : Rows.GuardPlaysSaid :=
  OpenClaim.holds_of_wide 5 Try.f5 rfl rfl rfl rfl rfl rfl rfl ⟨rfl, rfl, rfl, rfl, rfl⟩ rfl rfl rfl rfl rfl (by kernel_rfl) Try.func5 (by kernel_rfl)
    (of_decide_eq_true (by kernel_rfl)) (by unfold Func.isWrapper; first | (rw [if_pos (by decide +kernel)]; kernel_rfl) | (rw [if_neg (by decide +kernel)]; exact ⟨rfl, rfl⟩))
    (fun os started H enc _ => lifted os started H enc)
#print axioms proved
end Go.Proofs.Ytallanlajecmhaa.guardPlays
