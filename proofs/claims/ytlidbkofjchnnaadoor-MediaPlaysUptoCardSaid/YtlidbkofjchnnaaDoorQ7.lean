/- What follows is laid together from several texts of mine, in their order. -/
import Derived.Test.YtlidbkofjchnnaaDoorQ6

namespace Go.Proofs.YtlidbkofjchnnaaDoor
open Go.RowKit
set_option linter.unusedVariables false
set_option linter.unusedSimpArgs false

/-- Bytes of which one bit is turned. -/
def flipBit (l : List Nat) (bit : Nat) : List Nat := l.set (bit / 8) (l.getD (bit / 8) 0 ^^^ 2 ^ (bit % 8))
theorem flip_raw {c : Nat} {l : List Nat} (h : Raw c l) (bit : Nat) : Raw c (flipBit l bit) := by
  refine ⟨by unfold flipBit; rw [List.length_set]; exact h.1, fun u hu => ?_⟩
  unfold flipBit at hu
  rcases List.mem_or_eq_of_mem_set hu with h1 | h1
  · exact h.2 u h1
  · rw [h1]
    have h2 := getD_lt h.2 (bit / 8)
    have h3 : 2 ^ (bit % 8) < 2 ^ 8 := Nat.pow_lt_pow_right (by omega) (Nat.mod_lt _ (by omega))
    exact Nat.xor_lt_two_pow (n := 8) h2 h3
def Fl.flips (S : Fl) (k : Nat) (p bit : Int) : Prop := (0 ≤ p ∧ p < S.has k) ∧ (S.b k).half = false ∧ p < (S.b k).next ∧ 0 ≤ bit ∧ bit < (584 * S.chunks : Nat)
section
variable {w : World} {B F L : Nat} {P : Nat → Nat} {S : Fl}
theorem Flip_out (h : FlIs w B F L P S) (k p bit : Int) (hk : k < 0 ∨ S.nb ≤ k) : Calls Tryd.prog 26 #[.pointer (some ⟨F, 0, none⟩), .int .i64 k, .int .i64 p, .int .i64 bit] w fun e w' => e = .returned (.bool false) ∧ w = w' := by
  have HB := Lib.hid (block_out h k hk)
  have HP := Lib.hid (page_out F p w)
  clear h hk
  go_enter Tryd.func26, Tryd.ntmps26
  go_wp2_with fail
  refine HB.out.mono ?_
  rintro e w' ⟨rfl, rfl⟩
  go_wp2_with fail
  refine HP.out.mono ?_
  rintro e w' ⟨rfl, rfl⟩
  clear HB HP
  go_wp2
  go_ret
  exact ⟨rfl, rfl⟩
set_option maxRecDepth 100000 in
set_option maxHeartbeats 2000000 in
theorem Flip_no (h : FlIs w B F L P S) (k : Nat) (hk : k < S.nb) (p bit : Int) (hn : ¬ S.flips k p bit) : Calls Tryd.prog 26 #[.pointer (some ⟨F, 0, none⟩), .int .i64 k, .int .i64 p, .int .i64 bit] w fun e w' => e = .returned (.bool false) ∧ w = w' := by
  have HBl := Lib.hid (block_in h k hk)
  have HPg := Lib.hid (page_in h k hk p)
  obtain ⟨_, _, _, c5⟩ := h.fcell
  obtain ⟨_, d1, d2, _, _⟩ := h.cells hk
  have hch := h.ok.chunks
  unfold Fl.flips at hn
  generalize S.has k = has at *
  generalize (S.b k).half = hf at *
  generalize (S.b k).next = nx at *
  generalize S.chunks = ch at *
  have hw1 : IntKind.i64.wrap (8 * (ch : Int)) = 8 * (ch : Int) := by rw [IntKind.wrap_i64]; omega
  have hw2 : IntKind.i64.wrap (8 * (ch : Int) * 73) = 584 * (ch : Int) := by rw [IntKind.wrap_i64]; omega
  clear h
  by_cases hp : 0 ≤ p ∧ p < has
  · rw [decide_eq_true hp] at HPg
    cases hf
    · by_cases h1 : p < nx
      · by_cases h2 : bit < 0
        · clear hn hp
          go_enter Tryd.func26, Tryd.ntmps26
          go_wp2_with fail
          refine HBl.out.mono ?_
          rintro e w' ⟨rfl, rfl⟩
          clear HBl
          go_wp2_with fail
          refine HPg.out.mono ?_
          rintro e w' ⟨rfl, rfl⟩
          clear HPg
          go_wp2
          go_ret
          exact ⟨rfl, rfl⟩
        · have h3 : ¬ bit < 584 * (ch : Int) := fun h3 => hn ⟨hp, rfl, h1, by omega, by omega⟩
          clear hn hp
          go_enter Tryd.func26, Tryd.ntmps26
          go_wp2_with fail
          refine HBl.out.mono ?_
          rintro e w' ⟨rfl, rfl⟩
          clear HBl
          go_wp2_with fail
          refine HPg.out.mono ?_
          rintro e w' ⟨rfl, rfl⟩
          clear HPg
          go_wp2
          go_ret
          exact ⟨rfl, rfl⟩
      · clear hn hp
        go_enter Tryd.func26, Tryd.ntmps26
        go_wp2_with fail
        refine HBl.out.mono ?_
        rintro e w' ⟨rfl, rfl⟩
        clear HBl
        go_wp2_with fail
        refine HPg.out.mono ?_
        rintro e w' ⟨rfl, rfl⟩
        clear HPg
        go_wp2
        go_ret
        exact ⟨rfl, rfl⟩
    · clear hn hp
      go_enter Tryd.func26, Tryd.ntmps26
      go_wp2_with fail
      refine HBl.out.mono ?_
      rintro e w' ⟨rfl, rfl⟩
      clear HBl
      go_wp2_with fail
      refine HPg.out.mono ?_
      rintro e w' ⟨rfl, rfl⟩
      clear HPg
      go_wp2
      go_ret
      exact ⟨rfl, rfl⟩
  · rw [decide_eq_false hp] at HPg
    clear hn hp
    go_enter Tryd.func26, Tryd.ntmps26
    go_wp2_with fail
    refine HBl.out.mono ?_
    rintro e w' ⟨rfl, rfl⟩
    clear HBl
    go_wp2_with fail
    refine HPg.out.mono ?_
    rintro e w' ⟨rfl, rfl⟩
    clear HPg
    go_wp2
    go_ret
    exact ⟨rfl, rfl⟩
end
end Go.Proofs.YtlidbkofjchnnaaDoor
namespace Go.Proofs.YtlidbkofjchnnaaDoor
open Go.RowKit
set_option linter.unusedVariables false
set_option linter.unusedSimpArgs false

section
variable {w : World} {B F L : Nat} {P : Nat → Nat} {S : Fl}
def Fl.flipped (S : Fl) (k p bit : Nat) : Fl := S.setB k { S.b k with pg := fun i => if i = p then some (flipBit (S.raw k p) bit) else (S.b k).pg i }
set_option maxRecDepth 100000 in
set_option maxHeartbeats 2000000 in
theorem Flip_yes (h : FlIs w B F L P S) (k : Nat) (hk : k < S.nb) (p bit : Nat) (hf : S.flips k p bit) : Calls Tryd.prog 26 #[.pointer (some ⟨F, 0, none⟩), .int .i64 k, .int .i64 p, .int .i64 bit] w fun e w' => e = .returned (.bool true) ∧ FlIs w' B F L P (S.flipped k p bit) ∧ Turns w w' [P k] := by
  obtain ⟨hp, hh, hpx, _, hbit⟩ := hf
  have HBl := Lib.hid (block_in h k hk)
  have hpg0 := page_in h k hk p
  rw [decide_eq_true hp] at hpg0
  have HPg := Lib.hid hpg0
  have hhas := has_le h.ok k
  have hpp : p < S.pages := by omega
  have HRw := Lib.hid (raw_any h k p hk hpp)
  obtain ⟨_, _, _, c5⟩ := h.fcell
  obtain ⟨d0, d1, d2, _, _⟩ := h.cells hk
  rw [hh] at d2
  have hch := h.ok.chunks
  have hwf := h.ok.wf k hk
  have hraw := Fl.raw_ok h.ok hk p
  have HR : Hid (∀ w1, FlIs w1 B F L P S → ∀ v, w1.ownsRow 0 5 1 v (73 * S.chunks) (intsV .u8 (flipBit (S.raw k p) bit)) → FlIs (w1.setCell ⟨P k, p, none⟩ v) B F L P (S.flipped k p bit)) := fun w1 h1 v hv => by
    have hfr := flip_raw hraw bit
    refine h1.putPage hk hpp v (some (flipBit (S.raw k p) bit)) ?_ _ rfl rfl ⟨hwf.next, fun j hj => ?_, fun j l hl => ?_⟩
    · show w1.ownsRow 0 _ 1 v (flipBit (S.raw k p) bit).length _
      rw [hfr.1]; exact hv
    · have hj' : (S.b k).next ≤ j := hj
      show (if j = p then _ else (S.b k).pg j) = none
      rw [if_neg (by omega)]
      exact hwf.none j hj'
    · have hl' : (if j = p then some (flipBit (S.raw k p) bit) else (S.b k).pg j) = some l := hl
      by_cases e : j = p
      · rw [if_pos e] at hl'
        injection hl' with hl'
        subst hl'
        exact hfr
      · rw [if_neg e] at hl'
        exact hwf.raw j l hl'
  have HH := Lib.hid h
  have HFb : Hid (flipBit (S.raw k p) bit = (S.raw k p).set (bit / 8) ((S.raw k p).getD (bit / 8) 0 ^^^ 2 ^ (bit % 8))) := rfl
  have HRa := Lib.hid hraw
  have HK := Lib.hid hk
  obtain ⟨n, hn⟩ : ∃ n, n = 73 * S.chunks := ⟨_, rfl⟩
  rw [← hn] at HRw HR
  have HN := Lib.hid hn
  obtain ⟨q, hq⟩ : ∃ q, q = bit / 8 := ⟨_, rfl⟩
  obtain ⟨m, hm⟩ : ∃ m, m = bit % 8 := ⟨_, rfl⟩
  have hqn : q < n := by omega
  have hqd : (bit : Int) / 8 = (q : Int) := by omega
  have hmd : (bit : Int) % 8 = (m : Int) := by omega
  have hqt : (bit : Int).tdiv 8 = (q : Int) := by rw [Int.tdiv_eq_ediv_of_nonneg (by omega)]; omega
  have hmt : (bit : Int).tmod 8 = (m : Int) := by rw [Int.tmod_eq_emod_of_nonneg (by omega)]; omega
  have hm8 : m < 8 := by omega
  have hwq : IntKind.i64.wrap (q : Int) = (q : Int) := by rw [IntKind.wrap_i64]; omega
  rw [← hq, ← hm] at HFb
  have hx := getD_lt hraw.2 q
  obtain ⟨x, hxe⟩ : ∃ x, x = (S.raw k p).getD q 0 := ⟨_, rfl⟩
  rw [← hxe] at hx HFb
  have HXe := Lib.hid hxe
  have h2m : 2 ^ m < 256 := by have : 2 ^ m < 2 ^ 8 := Nat.pow_lt_pow_right (by omega) hm8; omega
  have hpc : (2 : Int) ^ m = ((2 ^ m : Nat) : Int) := by simp
  have hsh : IntKind.u8.wrap (1 * 2 ^ m) = ((2 ^ m : Nat) : Int) := by
    rw [IntKind.wrap_u8, Int.one_mul, hpc]
    clear hpc HFb
    generalize (2 ^ m : Nat) = y at *
    omega
  have hxor := u8_xor_nat x (2 ^ m) hx h2m
  generalize S.chunks = ch at *
  generalize (S.b k).next = nx at *
  have hpx' : (p : Int) < nx := hpx
  have hw1 : IntKind.i64.wrap (8 * (ch : Int)) = 8 * (ch : Int) := by rw [IntKind.wrap_i64]; omega
  have hw2 : IntKind.i64.wrap (8 * (ch : Int) * 73) = 584 * (ch : Int) := by rw [IntKind.wrap_i64]; omega
  have hb5 : (bit : Int) < 584 * (ch : Int) := by omega
  clear h hp hh hhas hpg0 hwf hraw hn hq hm hxe hk hbit
  go_enter Tryd.func26, Tryd.ntmps26
  go_wp2_with fail
  refine HBl.out.mono ?_
  rintro e w' ⟨rfl, rfl⟩
  clear HBl
  go_wp2_with fail
  refine HPg.out.mono ?_
  rintro e w' ⟨rfl, rfl⟩
  clear HPg
  go_wp2_with fail
  refine HRw.out.mono ?_
  rintro e w2 ⟨A, c, rfl, ho, hb⟩
  obtain ⟨g, c', he, hgB, hgl, hnc, hcm⟩ := own_at ho (by omega)
  injection he with e1 e2 e3
  subst e1
  subst e3
  have HO := Lib.hid ho
  have hcell : w2.cell? ⟨g, q, none⟩ = some (.int .u8 x) := by
    rw [ho.cellAt q (by omega), intsV_get .u8 _ q (by rw [HRa.out.1, ← HN.out]; exact hqn), ← HXe.out]
  have k1 : ∀ t : Kept w2 [], t.u.cell? ⟨g, q, none⟩ = some (.int .u8 x) := fun t => t.h.cell hcell (by simp)
  have q1 : w2.drew.cell? ⟨g, q, none⟩ = some (.int .u8 x) := hcell
  have q2 : w2.drew.frozen? ⟨g, q, none⟩ = false := ho.drew.frozenAt q
  obtain ⟨y, hy⟩ : ∃ y, y = x ^^^ 2 ^ m := ⟨_, rfl⟩
  rw [← hy] at hxor HFb
  have HTz : Hid (Turns w (w2.drew.setCell ⟨g, q, none⟩ (.int .u8 y)) []) := ((Turns.of_below hb []).drew).setCell (.inr hgB) _
  have hz := HH.out.keep HTz.out
  have d0z := (hz.cells HK.out).1
  obtain ⟨_, hrp⟩ := hz.rowP HK.out
  obtain ⟨cur, hrP, hPs, _⟩ := hz.pg k HK.out
  obtain ⟨v1, p1⟩ := Row.some hrP (i := p) (by omega)
  have p2 := hrP.frozen p
  have hoz := (ho.drew.stored q (.int .u8 y)).1
  rw [show (intsV .u8 (S.raw k p)).set q (.int .u8 y) = intsV .u8 (flipBit (S.raw k p) bit) by rw [HFb.out]; exact (List.map_set ..).symm] at hoz
  have HF := Lib.hid (HR.out _ hz _ (own_mono hoz (Nat.zero_le _)))
  have HTf : Hid (Turns w ((w2.drew.setCell ⟨g, q, none⟩ (.int .u8 y)).setCell ⟨P k, p, none⟩ (.slice (some ⟨g, 0, none⟩) n c)) [P k]) := (HTz.out.mono (by simp)).setCell (by simp) _
  have hppi : (p : Int) < S.pages := by omega
  have hqi : (q : Int) < n := by omega
  have hmi : ¬ (m : Int) < 0 := by omega
  have hbx : bits .xor .u8 (x : Int) (2 ^ m % 256) = (y : Int) := by
    have h1 : (2 : Int) ^ m % 256 = ((2 ^ m : Nat) : Int) := by
      rw [hpc]
      clear hpc hsh hxor hy HFb hoz HF HTz HTf
      generalize (2 ^ m : Nat) = z at *
      omega
    rw [h1, hxor]
  have d0y : (w2.setCell ⟨g, q, none⟩ (.int .u8 y)).cell? ⟨L, k * 5, none⟩ = some (.slice (some ⟨P k, 0, none⟩) S.pages S.pages) := d0z
  have p1y : (w2.setCell ⟨g, q, none⟩ (.int .u8 y)).cell? ⟨P k, p, none⟩ = some v1 := p1
  have p2y : (w2.setCell ⟨g, q, none⟩ (.int .u8 y)).frozen? ⟨P k, p, none⟩ = false := p2
  clear d0z p1 p2
  clear hsh hxor hpc h2m
  clear HRw ho hb d0 d1 d2 c5 hz hrp hrP hPs hoz hcell HO hy HR HH HTz HFb HRa HXe HN
  go_wp2
  (refine region_kept ([]) [0, 1, 2, 3, 4, 5, 6, 7, 8, 9] [10] (by kernel_rfl) (by kernel_rfl) (fun _ _ _ _ _ h => h) ?_; simp only [List.filterMap_cons, List.getElem?_cons_zero, List.getElem?_cons_succ, List.filterMap_nil]; (repeat ((show wpQuiet _ _ _ _ (_ :: _) _); go_big_quiet_step (fail))); refine wpQuiet_nil ?_)
  refine wpSeqS_last ?_
  clear k1
  go_wp2
  go_ret
  exact ⟨rfl, HF.out, HTf.out⟩
end
end Go.Proofs.YtlidbkofjchnnaaDoor
namespace Go.Proofs.YtlidbkofjchnnaaDoor
open Go.RowKit
set_option linter.unusedVariables false
set_option linter.unusedSimpArgs false

section
variable {w : World} {B F L : Nat} {P : Nat → Nat} {S : Fl}
set_option maxHeartbeats 1000000 in
theorem Program_failed (h : FlIs w B F L P S) (k : Nat) (hk : k < S.nb) (ho : S.off = false) (hf : (S.b k).failed = true) (hn : (S.b k).next < S.has k) (A : Option Addr) (rc : Nat) :
    Calls Tryd.prog 116 #[.pointer (some ⟨F, 0, none⟩), .int .i64 k, .int .i64 ((S.b k).next : Nat), .slice A (73 * S.chunks) rc] w fun e w' => e = .returned (.int .i64 7) ∧ w = w' := by
  have HBl := Lib.hid (block_in h k hk)
  have hpg0 := page_in h k hk ((S.b k).next : Nat)
  rw [decide_eq_true (by omega)] at hpg0
  have HPg := Lib.hid hpg0
  have hmy0 := may_in h k hk true
  rw [ho, hf] at hmy0
  have HMy : Hid (Calls Tryd.prog 118 #[.pointer (some ⟨F, 0, none⟩), .pointer (some ⟨L, k * 5, none⟩), .bool true] w fun e w' => e = .returned (.int .i64 7) ∧ w = w') := hmy0
  obtain ⟨_, _, _, c5⟩ := h.fcell
  have hch := h.ok.chunks
  obtain ⟨n, hn73⟩ : ∃ n, n = 73 * S.chunks := ⟨_, rfl⟩
  rw [← hn73]
  have hw : IntKind.i64.wrap ((S.chunks : Int) * 73) = (n : Int) := by rw [IntKind.wrap_i64]; omega
  generalize S.chunks = ch at *
  generalize (S.b k).next = m at *
  clear h hpg0 hmy0 ho hf hn hn73
  go_enter Tryd.func116, Tryd.ntmps116
  go_wp2_with fail
  refine HBl.out.mono ?_
  rintro e w' ⟨rfl, rfl⟩
  clear HBl
  go_wp2_with fail
  refine HPg.out.mono ?_
  rintro e w' ⟨rfl, rfl⟩
  clear HPg
  go_wp2_with fail
  refine HMy.out.mono ?_
  rintro e w' ⟨rfl, rfl⟩
  clear HMy
  go_wp2
  go_ret
  exact ⟨rfl, rfl⟩
end
end Go.Proofs.YtlidbkofjchnnaaDoor
