/- guard.Bits: the caller of the range over All. -/
import Derived.Test.YtallanlajecmhaaGuardAll
namespace Go.Proofs.Ytallanlajecmhaa
open Go.RowKit Go.Shelf
attribute [local go_sem] Oper.semAt_some
set_option linter.unusedVariables false
set_option linter.unusedSimpArgs false

theorem Row.kept {W W' : World} {row : Option Nat} {g : Nat} {t : TypeId} {cs : Array Value} (h : Row W g t cs) (hg : W.grownBy W' row) (hr : ∀ r, row = some r → ∃ o : Obj, W.heap[r]? = some o ∧ o.isCells = false) : Row W' g t cs := by
  refine (hg.block g h.lt (fun e => ?_)).trans h
  obtain ⟨o, ho, hc⟩ := hr g e.symm
  unfold Row at h
  rw [h] at ho
  injection ho with ho
  subst ho
  simp [Obj.isCells] at hc

set_option maxRecDepth 100000 in
set_option maxHeartbeats 2000000 in
theorem Bits_in (n : Nat) (hn : 3 ≤ n) (G L c : Nat) (ks : List Nat) (h0 : 0 < ks.length) (hlen : ks.length ≤ 256) (fr : Int) (B : Nat) (w : World) (h : GHeld w B G L c ks) (h4 : ∀ x ∈ ks, x < 4) :
    CallsIn Fence.wide n Try.prog 15 #[.pointer (some ⟨G, 0, none⟩), .int .i64 fr] w fun e w' => e = .returned (.int .u32 (bitsIn fr (evs (fun j => ks.getD j 0) ks.length) : Nat)) ∧ Below w.heap.size w w' := by
  have h1 : 1 ≤ n := by omega
  have H := Lib.hid h
  have H4 := Lib.hid h4
  clear h4
  refine callsIn_of_wp_marks Try.func15 rfl trivial ?_ rfl
  simp only [Try.ntmps15, List.size_toArray, List.length_cons, List.length_nil, Nat.reduceAdd, Nat.reduceSub, Array.replicate_succ, Array.replicate_zero, List.push_toArray, List.append_toArray, List.nil_append, List.cons_append]
  have HA : Hid (GHeld ((w.alloc (.cells #[.int .i64 fr] 3)).alloc (.cells #[.int .u32 0] 36)) B G L c ks) := (h.alloc _).alloc _
  clear h
  gi_wp2_with (refine ⟨trivial, ?_⟩; gi_at_call 26; refine (callsIn_wide.2 (All_any G L c ks h0 hlen B _ HA.out)).mono ?_; rintro e w1 ⟨Bx, L', c', rfl, hBx, hr, ho, hb⟩)
  have hb0 : Hid (Below w.heap.size w w1) := by unfold Hid; (have hsz0 := Below.size hb; repeat (first | (with_reducible refine Below.drew ?_) | (with_reducible refine below_drewN0 ?_ _) | ((with_reducible refine Below.setCell ?_ ?_ _); rotate_left; focus (first | omega | (simp; done) | (simp; omega) | (simp at *; omega))) | ((with_reducible refine Below.alloc ?_ ?_ _); rotate_left; focus (first | omega | (simp; done) | (simp; omega) | (simp at *; omega))) | ((with_reducible refine Below.trans ?_ (Below.mono hb ?_)); rotate_left; focus (first | omega | (simp; done) | (simp; omega) | (simp at *; omega))) | (with_reducible exact Below.refl _ _)))
  have hsz := hb.size
  simp at hsz
  have hLb := (own_at ho h0)
  have hR0 : Row w1 w.heap.size 3 #[.int .i64 fr] := ((Row.fresh w _ _).alloc _).below hb (by simp; omega)
  have hR1 : Row w1 (w.heap.size + 1) 36 #[.int .u32 0] := by
    have := Row.fresh (w.alloc (.cells #[.int .i64 fr] 3)) 36 #[.int .u32 0]
    rw [World.size_alloc] at this
    exact this.below hb (by simp)
  have hLo : w.heap.size + 2 ≤ L' ∧ L' < w1.heap.size := by
    obtain ⟨g, c2, e2, hg0, hg1, hg2, hg3⟩ := hLb
    injection e2 with e2 _ e3
    injection e2 with e2
    injection e2 with e2
    simp at hg0
    omega
  refine wpIn_rangeFunc_ownF rfl h1 (gf := 34) (lb := #[.pointer (some ⟨Bx, 0, none⟩)]) rfl trivial (enters_of Try.func34 (by kernel_rfl) rfl)
    (All_stops Fence.wide (n - 1) trivial rfl (by omega) Bx L' c' _ ks hlen H4.out w1 hr ho) (fun h k => Eq.trans k h) (fun W l o o' hl h _ _ => by
      have : l ≠ L' := by omega
      exact World.putObj_heap_other (fun e => this e.symm)) (Below.refl _ _) (fun _ => rfl)
    (fun pre W => (Row W w.heap.size 3 #[.int .i64 fr] ∧ Row W (w.heap.size + 1) 36 #[.int .u32 (bitsIn fr pre : Nat)]) ∧ Below w.heap.size w W)
    (fun _ _ _ => False)
    (OwnFrom.and (Own.from (fun s A B row hs hg hr => ⟨hs.1.kept hg hr, hs.2.kept hg hr⟩) _) (ownFrom_below (Nat.le_refl _) (by omega)))
    (fun _ _ _ _ _ hs _ _ => hs)
    ⟨⟨hR0, hR1⟩, hb0.out⟩
    (fun x => { tmps := #[.pointer (some ⟨G, 0, none⟩), .int .i64 fr, undef, .pointer (some ⟨w.heap.size, 0, none⟩), .int .u32 0, .pointer (some ⟨w.heap.size + 1, 0, none⟩), .int .i64 (x.1.1 : Nat), .pointer (some ⟨G, 0, none⟩), .func (.func 34) #[] #[.pointer (some ⟨Bx, 0, none⟩)], .int .i64 (x.1.1 : Nat), .int .i64 (x.1.2 : Nat), undef, undef, undef, undef, undef, undef, undef, undef, undef, undef, undef, undef, undef, undef, undef, undef, undef, undef, undef, undef], defers := [] }) ?assign ?body ?done ?stop
  case assign =>
    intro l x W K hK
    gi_wp2
    exact hK
  case body =>
    rintro l pre x W ⟨⟨hRf, hRo⟩, hB⟩ _
    have hcf := hRf.cell 0
    have hco := hRo.cell 0
    have hfo := hRo.frozen 0
    simp at hcf hco
    have ho32 := bitsIn_lt fr pre
    have HS := Lib.hid (bitsIn_snoc fr pre x)
    have HRf := Lib.hid hRf
    have HRo := Lib.hid hRo
    have HB := Lib.hid hB
    clear hRf hRo hB hb hr ho hR0 hR1 hLb
    obtain ⟨⟨g, kd⟩, hg256, hk4⟩ := x
    simp only at hg256 hk4
    by_cases hin : 0 ≤ fr ∧ fr ≤ (g : Int) ∧ (g : Int) - fr < 32
    · obtain ⟨f0, hf0⟩ := Int.eq_ofNat_of_zero_le hin.1
      obtain ⟨d, hd⟩ := Int.eq_ofNat_of_zero_le (show 0 ≤ (g : Int) - fr by omega)
      subst hf0
      have hd32 : d < 32 := by omega
      have hgd : g = f0 + d := by omega
      subst hgd
      have HE : Hid (bitIn (f0 : Int) (bitsIn (f0 : Int) pre) ⟨(f0 + d, kd), hg256, hk4⟩ = bitsIn (f0 : Int) pre ||| 2 ^ d) := by
        unfold Hid bitIn; rw [if_pos hin]; simp only; rw [hd, Int.toNat_natCast]
      rw [HE.out] at HS
      clear HE hin hd
      generalize bitsIn (f0 : Int) pre = o at *
      have hw : IntKind.i64.wrap ((f0 : Int) + (d : Int) - (f0 : Int)) = (d : Int) := by rw [IntKind.wrap_i64]; omega
      have hd33 : (d : Int) ≤ 32 := by omega
      obtain ⟨p, hp⟩ : ∃ p : Nat, p = 2 ^ d := ⟨_, rfl⟩
      have hp32 : p < 4294967296 := by rw [hp]; exact Nat.pow_lt_pow_right (n := 32) (by omega) hd32
      have hw2 : ((2 ^ d : Nat) : Int) = (2 : Int) ^ d := by simp
      have hw1 : IntKind.u32.wrap ((2 : Int) ^ d) = (p : Int) := by rw [IntKind.wrap_u32, ← hw2, ← hp]; omega
      have hor : bits .or .u32 (o : Int) (p : Int) = ((o ||| p : Nat) : Int) := u32_or_nat o p ho32 hp32
      rw [← hp] at HS
      have HF : Hid (Row (W.drew.setCell ⟨w.heap.size + 1, 0, none⟩ (.int .u32 ((o ||| p : Nat) : Int))) w.heap.size 3 #[.int .i64 f0] ∧ Row (W.drew.setCell ⟨w.heap.size + 1, 0, none⟩ (.int .u32 ((o ||| p : Nat) : Int))) (w.heap.size + 1) 36 #[.int .u32 ((o ||| p : Nat) : Int)]) :=
        ⟨(HRf.out.drewN 1).far (by simp) _, by have hro : Row W.drew (w.heap.size + 1) 36 #[.int .u32 (o : Nat)] := HRo.out; simpa using hro.put 0 (.int .u32 ((o ||| p : Nat) : Int))⟩
      clear hp hw2
      have hmx : Try.prog.follows .mixedOrders = true := by kernel_rfl
      have hd1 : 1 ≤ n - 1 - 1 := by omega
      gi_wp2
      gi_region_with_o (fail)
      all_goals gi_wp2
      all_goals (try go_bits)
      all_goals have hB := HB.out
      all_goals exact ⟨(KeepsOthers.setCell _ _ _).trans (KeepsOthers.drew _), Below.heap_setCell _ _ _ _ (by simp; omega), ⟨HF.out.1, by rw [HS.out]; exact HF.out.2⟩, by (have hsz0 := Below.size hB; repeat (first | (with_reducible refine Below.drew ?_) | (with_reducible refine below_drewN0 ?_ _) | ((with_reducible refine Below.setCell ?_ ?_ _); rotate_left; focus (first | omega | (simp; done) | (simp; omega) | (simp at *; omega))) | ((with_reducible refine Below.alloc ?_ ?_ _); rotate_left; focus (first | omega | (simp; done) | (simp; omega) | (simp at *; omega))) | ((with_reducible refine Below.trans ?_ (Below.mono hB ?_)); rotate_left; focus (first | omega | (simp; done) | (simp; omega) | (simp at *; omega))) | (with_reducible exact Below.refl _ _)))⟩
    · have HE : Hid (bitIn fr (bitsIn fr pre) ⟨(g, kd), hg256, hk4⟩ = bitsIn fr pre) := by
        unfold Hid bitIn; rw [if_neg hin]
      rw [HE.out] at HS
      clear HE
      have key : fr < 0 ∨ (0 ≤ fr ∧ (g : Int) < fr) ∨ (0 ≤ fr ∧ fr ≤ (g : Int) ∧ 32 ≤ (g : Int) - fr) := by omega
      clear hin
      have hB := HB.out
      rcases key with k1 | ⟨k1, k2⟩ | ⟨k1, k2, k3⟩
      · gi_wp2
        exact ⟨KeepsOthers.refl _, rfl, ⟨HRf.out, by rw [HS.out]; exact HRo.out⟩, hB⟩
      · gi_wp2
        exact ⟨KeepsOthers.refl _, rfl, ⟨HRf.out, by rw [HS.out]; exact HRo.out⟩, hB⟩
      · have hw : IntKind.i64.wrap ((g : Int) - fr) = (g : Int) - fr := by rw [IntKind.wrap_i64]; omega
        gi_wp2
        exact ⟨KeepsOthers.refl _, rfl, ⟨HRf.out, by rw [HS.out]; exact HRo.out⟩, hB⟩
  case done =>
    rintro D ys W hD rfl ⟨⟨_, hRo⟩, hB⟩ hK
    have hc := hRo.cell 0
    simp at hc
    have hB := Lib.hid hB
    gi_wp2
    refine ⟨by simp, .inl ⟨_, _, rfl, run_takeDeferred hK, ?_⟩⟩
    exact ⟨_, results_tmp rfl _ _ _, rfl, hB.out.trans (belowK_b (w := w) (Nat.le_refl _) W D _ _ (by omega) hK rfl rfl)⟩
  case stop =>
    rintro D c pre W _ _ h _
    exact h.elim

/-- What Bits answers. -/
def bitsK (fr : Int) (ks : List Nat) : Nat := bitsIn fr (evs (fun j => ks.getD j 0) ks.length)
theorem bitsK_lt (fr : Int) (ks : List Nat) : bitsK fr ks < 4294967296 := bitsIn_lt _ _
theorem Bits_any (G L c : Nat) (ks : List Nat) (h0 : 0 < ks.length) (hlen : ks.length ≤ 256) (fr : Int) (B : Nat) (w : World) (h : GHeld w B G L c ks) (h4 : ∀ x ∈ ks, x < 4) :
    Calls Try.prog 15 #[.pointer (some ⟨G, 0, none⟩), .int .i64 fr] w fun e w' => e = .returned (.int .u32 (bitsK fr ks : Nat)) ∧ Below w.heap.size w w' :=
  callsIn_wide.1 (Bits_in 3 (Nat.le_refl _) G L c ks h0 hlen fr B w h h4)
end Go.Proofs.Ytallanlajecmhaa
