/- GuardLoads: any bytes as what lasts, any register as a kind: the program and the reference answer alike: the law returns true, and its arguments read as before. No condition. -/
import Derived.Test.YtallanlajecmhaaGuardLoad
import Derived.Test.YtallanlajecmhaaLooks
import Derived.Test.YtallanlajecmhaaOpenBytes
namespace Go.Proofs.Ytallanlajecmhaa
open Go.RowKit
set_option linter.unusedVariables false
set_option linter.unusedSimpArgs false

theorem cells_text {w : World} {b off c : Nat} {l : List Nat} (h : Cells8 w (some ⟨b, off, none⟩) l) : (convert 44 9 (.slice (some ⟨b, off, none⟩) l.length c)).run Try.prog w = .ok (.string (textOf l)) w := by
  rw [run_convert_bytes_string w _ _ 5 _ _ _ Try.underlying44 Try.underlying5 Try.underlying9]
  refine run_bytesToString w _ _ _ _ ?_
  have h2 := run_loadCells_list (P := Try.prog) w ⟨b, off, none⟩ (intsV .u8 l) (fun j v hv => by
    have hj : j < l.length := by
      rcases Nat.lt_or_ge j l.length with h1 | h1
      · exact h1
      · rw [List.getElem?_eq_none (by rw [intsV_length]; exact h1)] at hv; cases hv
    rw [intsV_get .u8 l j hj] at hv
    injection hv with hv
    subst hv
    rw [addr_add]
    exact h.at0 j hj)
  rw [intsV_length] at h2
  rw [h2]; congr 1
  simp [intsV]
theorem lastK_ok (l : List Nat) (h : l.any badB = false) : lastK l = l ∧ ∀ x ∈ l, x < 4 := by
  rw [List.any_eq_false] at h
  have h' : ∀ x ∈ l, x = 0 ∨ x = 1 ∨ x = 3 := fun x hx => by
    have := h x hx
    simp [badB] at this; omega
  refine ⟨?_, fun x hx => by have := h' x hx; omega⟩
  unfold lastK
  conv => rhs; rw [← List.map_id l]
  exact List.map_congr_left fun x hx => by
    have := h' x hx
    rw [if_neg (by omega)]; rfl

set_option maxRecDepth 100000 in
set_option maxHeartbeats 1000000 in
theorem loads_long (g : Int) (a : Option Addr) (n c : Nat) (r : Int) (h : 1000 < n) (w : World) :
    Calls Try.prog 6 #[.int .i64 g, .slice a n c, .int .u8 r] w fun e w' => e = .returned (.bool true) ∧ Below w.heap.size w w' := by
  have h1 : (1000 : Int) < n := by omega
  go_enter Try.func6, Try.ntmps6
  go_wp2_with fail
  refine (known_any _).mono ?_
  rintro e w1 ⟨rfl, hb1⟩
  have HB := Lib.hid hb1
  clear hb1
  go_wp2
  go_ret
  exact ⟨rfl, HB.out⟩
/-- Neither makes one: the law is through. -/
theorem loads_none (g : Int) (a : Option Addr) (n c : Nat) (r k : Nat) (h : n ≤ 1000) (w : World) (hk : k = 1 ∨ k = 24)
    (h1 : Hid (∀ w', Below w.heap.size w w' → Calls Try.prog 20 #[.int .i64 g, .slice a n c] w' fun e w'' => e = .returned (.tuple #[.pointer none, .int .i64 (k : Nat)]) ∧ Below w'.heap.size w' w''))
    (h2 : Hid (∀ w', Below w.heap.size w w' → Calls Try.prog 23 #[.int .i64 g, .slice a n c] w' fun e w'' => e = .returned (.tuple #[.pointer none, .int .i64 (k : Nat)]) ∧ Below w'.heap.size w' w'')) :
    Calls Try.prog 6 #[.int .i64 g, .slice a n c, .int .u8 r] w fun e w' => e = .returned (.bool true) ∧ Below w.heap.size w w' := by
  have h3 : ¬ (1000 : Int) < n := by omega
  have hlv := fun w => Lib.hid (Level_any r w)
  have hlr := fun w => Lib.hid (refLevel_any r w)
  have HL1 := Lib.hid hlv
  have HL2 := Lib.hid hlr
  clear hlv hlr
  generalize (if r = 1 then (2 : Int) else if r = 2 then 3 else 1) = q at *
  rcases hk with rfl | rfl
  all_goals
    go_enter Try.func6, Try.ntmps6
    go_wp2_with fail
    refine (known_any _).mono ?_
    rintro e w1 ⟨rfl, hb1⟩
    have HB1 := Lib.hid hb1
    have H1 := Lib.hid (h1.out w1 hb1)
    clear hb1
    go_wp2_with fail
    refine H1.out.mono ?_
    rintro e w2 ⟨rfl, hb2⟩
    have HB2 : Hid (Below w.heap.size w w2) := HB1.out.trans (hb2.mono HB1.out.size)
    have H2 := Lib.hid (h2.out w2 HB2.out)
    clear hb2 H1 HB1
    go_wp2_with fail
    refine H2.out.mono ?_
    rintro e w3 ⟨rfl, hb3⟩
    have HB3 : Hid (Below w.heap.size w w3) := HB2.out.trans (hb3.mono HB2.out.size)
    clear hb3 H2 HB2
    go_wp2_with fail
    refine (HL1.out _).out.mono ?_
    rintro e w4 ⟨rfl, rfl⟩
    go_wp2_with fail
    refine (HL2.out _).out.mono ?_
    rintro e w4 ⟨rfl, rfl⟩
    go_wp2
    go_quiet (fail)
    go_wp2
    go_ret
    exact ⟨rfl, by have h := HB3.out; (have hsz0 := Below.size h; repeat (first | (with_reducible refine Below.drew ?_) | (with_reducible refine below_drewN0 ?_ _) | ((with_reducible refine Below.setCell ?_ ?_ _); rotate_left; focus (first | omega | (simp; done) | (simp; omega) | (simp at *; omega))) | ((with_reducible refine Below.alloc ?_ ?_ _); rotate_left; focus (first | omega | (simp; done) | (simp; omega) | (simp at *; omega))) | ((with_reducible refine Below.trans ?_ (Below.mono h ?_)); rotate_left; focus (first | omega | (simp; done) | (simp; omega) | (simp at *; omega))) | (with_reducible exact Below.refl _ _)))⟩

set_option maxRecDepth 100000 in
set_option maxHeartbeats 2000000 in
theorem loads_both (b off : Nat) (l : List Nat) (c r : Nat) (h1 : 1 ≤ l.length) (h2 : l.length ≤ 256) (h256 : ∀ x ∈ l, x < 256) (w : World) (hc : Cells8 w (some ⟨b, off, none⟩) l) (hok : l.any badB = false) :
    Calls Try.prog 6 #[.int .i64 (l.length : Nat), .slice (some ⟨b, off, none⟩) l.length c, .int .u8 r] w fun e w' => e = .returned (.bool true) ∧ Below w.heap.size w w' := by
  have h3 : ¬ (1000 : Int) < l.length := by omega
  have hlv := fun w => Lib.hid (Level_any r w)
  have hlr := fun w => Lib.hid (refLevel_any r w)
  have HL1 := Lib.hid hlv
  have HL2 := Lib.hid hlr
  have HKs : Hid (Kinds l.length l) := ⟨rfl, (lastK_ok l hok).2⟩
  have HLa := Lib.hid (lastK_ok l hok).1
  have HOK := Lib.hid hok
  have HC := Lib.hid hc
  have H256 := Lib.hid h256
  clear hlv hlr hok hc h256
  generalize (if r = 1 then (2 : Int) else if r = 2 then 3 else 1) = q at *
  go_enter Try.func6, Try.ntmps6
  go_wp2_with fail
  refine (known_any _).mono ?_
  rintro e w1 ⟨rfl, hb1⟩
  have HB1 := Lib.hid hb1
  have H1 := Lib.hid (Load_yes _ l c h1 h2 w1 (HC.out.keep (keep_below hb1)) HOK.out)
  clear hb1
  go_wp2_with fail
  refine H1.out.mono ?_
  rintro e w2 ⟨G, L, c1, rfl, hh1, hb2⟩
  have HB2 : Hid (Below w.heap.size w w2) := HB1.out.trans (hb2.mono HB1.out.size)
  have HG2 := Lib.hid (hh1.mono HB1.out.size)
  have H2 := Lib.hid (refLoad_any _ l c h1 h2 H256.out w2 (HC.out.keep (keep_below HB2.out)))
  clear hb2 hh1 H1 HB1
  go_wp2_with fail
  refine H2.out.mono ?_
  rintro e w3 ⟨_, hr0, hb3⟩
  obtain ⟨R, M, d, rfl, hr⟩ := hr0 HOK.out
  have HB3 : Hid (Below w.heap.size w w3) := HB2.out.trans (hb3.mono HB2.out.size)
  have HR3 := Lib.hid (hr.mono HB2.out.size)
  have HG3 := Lib.hid (HG2.out.below hb3)
  clear hb3 H2 HB2 HG2 hr hr0
  go_wp2_with fail
  refine (HL1.out _).out.mono ?_
  rintro e w4 ⟨rfl, rfl⟩
  go_wp2_with fail
  refine (HL2.out _).out.mono ?_
  rintro e w4 ⟨rfl, rfl⟩
  clear HL1 HL2
  have hks : l.length ≤ 256 := h2
  have HLk : Hid (∀ t : Later w3, Calls Try.prog 22 #[.pointer (some ⟨G, 0, none⟩), .pointer (some ⟨R, 0, none⟩), .int .i64 0] t.u fun e w' => e = .returned (.bool true) ∧ Below t.u.heap.size t.u w') := fun t => looks_any h1 h2 G L c1 R M d l 0 _ _ t.u (HG3.out.below t.h) (HR3.out.below t.h) HKs.out
  have HLs : Hid (∀ t : Later w3, Calls Try.prog 21 #[.pointer (some ⟨G, 0, none⟩)] t.u fun e w' => ∃ L1 c1, e = .returned (.slice (some ⟨L1, 0, none⟩) l.length c1) ∧ ∃ t' : Later w3, w' = t'.u ∧ Below t.u.heap.size t.u t'.u ∧ (convert 44 9 (.slice (some ⟨L1, 0, none⟩) l.length c1)).run Try.prog t'.u = .ok (.string (textOf l)) t'.u) := fun t =>
    (Lasting_any G L c1 l h1 h2 _ t.u (HG3.out.below t.h) HKs.out.2).mono fun e w' ⟨L1, c1, he, ho, hb⟩ => ⟨L1, c1, he, ⟨w', t.h.trans (hb.mono t.h.size)⟩, rfl, hb, by rw [HLa.out] at ho; exact own_text ho⟩
  have HCv : Hid (∀ t : Later w3, (convert 44 9 (.slice (some ⟨b, off, none⟩) l.length c)).run Try.prog t.u = .ok (.string (textOf l)) t.u) := fun t => cells_text ((HC.out.keep (keep_below HB3.out)).keep (keep_below t.h))
  generalize textOf l = S at *
  clear HC H256 HOK HLa HKs
  go_wp2
  have hcv0 := HCv.out ⟨w3.drew, (Below.refl _ _).drew⟩
  go_region_held_law (fun w' => True) (fail)
    (first | (go_at_call 22; refine (Later.call (HLk.out ⟨w3.drew, (Below.refl _ _).drew⟩)).mono ?_; rintro e w' ⟨rfl, t1, rfl⟩; have hcv1 := HCv.out t1) | (go_at_call 21; refine (HLs.out _).mono ?_; rintro e w' ⟨L1, c2, rfl, t2, rfl, hbt, hcv2⟩; have hcv3 := HCv.out t2))
  all_goals
    have HBt : Hid (Below w.heap.size w t2.u) := HB3.out.trans (t2.h.mono HB3.out.size)
    go_wp2
    go_ret
    exact ⟨rfl, HBt.out⟩
end Go.Proofs.Ytallanlajecmhaa
namespace Go.Proofs.Ytallanlajecmhaa.guardLoads
open Go.ChangeShapes Go.WideShapes Go.ChangeAt Go.RowKit Go.Joins
set_option linter.unusedVariables false
set_option linter.unusedSimpArgs false

theorem opened {H : Type} {enc : TypeId × Value → H} (W : World) {base : Nat} {v0 v1 v2 : Value} {d0 d1 d2 : DataW H} {p0 p1 p2 : List MemPlace}
    (o0 : Value.okWide Try.prog W .any base 3 v0) (o1 : Value.okWide Try.prog W .any base 44 v1) (o2 : Value.okWide Try.prog W .any base 5 v2)
    (h0 : DataW.Trod enc Try.prog W 0 (fun _ => true) true 3 v0 d0 p0) (h1 : DataW.Trod enc Try.prog W 0 (fun _ => true) true 44 v1 d1 p1) (h2 : DataW.Trod enc Try.prog W 0 (fun _ => true) true 5 v2 d2 p2) :
    Calls Try.prog 6 #[v0, v1, v2] W fun e W' => e = .returned (.bool true) ∧ Below W.heap.size W W' := by
  obtain ⟨g, rfl, rfl, rfl, wg⟩ := open_int Try.underlying3 o0 h0
  obtain ⟨r, rfl, rfl, rfl, wr⟩ := open_int Try.underlying5 o2 h2
  obtain ⟨a, l, cap, rfl, _, _, l8, lc⟩ := bytes_view W o1 h1
  simp [Lit.wf, IntKind.min, IntKind.max, IntKind.signed, IntKind.bits] at wr
  obtain ⟨r, rfl⟩ := Int.eq_ofNat_of_zero_le wr.1
  by_cases hl : 1000 < l.length
  · exact loads_long g a l.length cap r hl W
  · by_cases hg : g < 1 ∨ 256 < g
    · exact loads_none g a l.length cap r 1 (by omega) W (.inl rfl) (fun w' hb => (Load_no1 g hg a _ _ w').mono fun e w'' ⟨he, hw⟩ => ⟨he, by rw [← hw]; exact Below.refl _ _⟩)
        (fun w' hb => (refLoad_no1 g hg a _ _ w').mono fun e w'' ⟨he, hw⟩ => ⟨he, by rw [← hw]; exact Below.refl _ _⟩)
    · obtain ⟨n, rfl⟩ := Int.eq_ofNat_of_zero_le (show 0 ≤ g by omega)
      by_cases hn : l.length = n
      · subst hn
        cases hb : l.any badB with
        | true =>
          exact loads_none _ a l.length cap r 24 (by omega) W (.inr rfl) (fun w' hb' => Load_no2 l.length (by omega) (by omega) a l cap (by omega) w' (lc.keep (keep_below hb')) (.inr hb))
            (fun w' hb' => (refLoad_any a l cap (by omega) (by omega) l8 w' (lc.keep (keep_below hb'))).mono fun e w'' h => ⟨h.1 hb, h.2.2⟩)
        | false =>
          obtain ⟨b, off, rfl⟩ := lc.addr (by intro e; simp [e] at hg)
          exact loads_both b off l cap r (by omega) (by omega) l8 W lc hb
      · exact loads_none _ a l.length cap r 24 (by omega) W (.inr rfl) (fun w' hb' => Load_no2 n (by omega) (by omega) a l cap (by omega) w' (lc.keep (keep_below hb')) (.inl hn))
            (fun w' hb' => refLoad_no2 n (by omega) (by omega) a _ cap (by omega) w' hn)

/-! THE STATEMENT's FRAME, written by my own program over the guide's way (howto/shells, how-to-prove-an-upto-statement). -/
theorem own : ownKnob Try.prog.godebug = none := by kernel_rfl
theorem laidOut : laidOutB Try.prog = true := by kernel_rfl

theorem contract (H : Type) (enc : TypeId × Value → H) (W : World) (base : Nat) (args : Array Value) (ds gs : List (DataW H)) (before : List MemPlace)
    (hval : ∀ (j : Nat) t v, Try.f6.params[j]? = some t → args[j]? = some v → Value.okWide Try.prog W .any base t v)
    (hW : DataW.Whole enc Try.prog Try.f6.params.toList Rows.guardLoadsSpec.vars false W args.toList ds gs before) :
    Calls Try.prog 6 args W fun e W' => ∃ v, e = .returned v ∧ Rows.guardLoadsSpec.post enc Try.prog Try.f6 false true false false W args v W' := by
  have hW' := hW
  obtain ⟨p, q, hA0, hV, rfl, hfz, hnd⟩ := hW
  have hA : DataW.TrodAll enc Try.prog W 0 (fun _ => true) true Try.f6.params.toList args.toList ds p := hA0
  rw [Try.params6] at hA hval
  obtain ⟨v0, vs0, d0, ds0, p0, q0, hargs, rfl, rfl, h0, r0⟩ := trodAll_cons hA
  obtain ⟨v1, vs1, d1, ds1, p1, q1, rfl, rfl, rfl, h1, r1⟩ := trodAll_cons r0
  obtain ⟨v2, vs2, d2, ds2, p2, q2, rfl, rfl, rfl, h2, r2⟩ := trodAll_cons r1
  obtain ⟨rfl, rfl, rfl⟩ := trodAll_nil r2
  obtain rfl : args = #[v0, v1, v2] := by cases args; simp_all
  obtain ⟨rfl, rfl⟩ := trodVars_none hV
  have k0 := h0
  have lt0 : ∀ x ∈ p0, x.block < W.heap.size := by obtain ⟨m, hm⟩ := k0; exact DataW.trod_lt m _ _ _ hm
  have k1 := h1
  have lt1 : ∀ x ∈ p1, x.block < W.heap.size := by obtain ⟨m, hm⟩ := k1; exact DataW.trod_lt m _ _ _ hm
  have k2 := h2
  have lt2 : ∀ x ∈ p2, x.block < W.heap.size := by obtain ⟨m, hm⟩ := k2; exact DataW.trod_lt m _ _ _ hm
  clear hA0
  refine (opened W (hval 0 3 v0 rfl rfl) (hval 1 44 v1 rfl rfl) (hval 2 5 v2 rfl rfl) h0 h1 h2).mono fun e W' ⟨he, bel⟩ => ?_
  subst he
  exact ⟨_, rfl, _, _, _, [], _, [], hW', trodAll_mk1 (shut_bool Try.underlying4 _), (trodAll_cons_mk (Below.trod laidOut (by kernel_rfl) (of_decide_eq_true (by kernel_rfl)) k0 bel lt0) (trodAll_cons_mk (Below.trod laidOut (by kernel_rfl) (of_decide_eq_true (by kernel_rfl)) k1 bel lt1) (trodAll_cons_mk (Below.trod laidOut (by kernel_rfl) (of_decide_eq_true (by kernel_rfl)) k2 bel lt2) trodAll_mk0))), rfl, bel.frame _, fun h => by cases h⟩

set_option maxRecDepth 100000 in
theorem lifted (os : Os) (started : os.Started) (H : Type) (enc : TypeId × Value → H) :
    ReturnsInHanded {} Try.checked os 6 .any (Rows.guardLoadsSpec.pre6 enc Try.prog Try.f6 Rows.guardLoadsRow.domain false) (Rows.guardLoadsSpec.post enc Try.prog Try.f6 false true false false) := by
  refine returnsInHanded_of_change (C := Try.checked) own started (by kernel_rfl) Try.func6
    (ChangeSpec.witness6 (enc := enc) (C := Try.checked) false ⟨#[], #[.int .i64 0, .slice none 0 0, .int .u8 0], []⟩ 8 (by kernel_rfl) (by kernel_rfl) (by kernel_rfl) (by kernel_rfl)) ?_
  intro W base args ds gs before hval hW hcnd _
  exact contract H enc W base args ds gs before hval hW

theorem proved : Rows.GuardLoadsSaid :=
  OpenClaim.holds_of_wide 6 Try.f6 rfl rfl rfl rfl rfl rfl rfl ⟨rfl, rfl, rfl, rfl, rfl⟩ rfl rfl rfl rfl rfl (by kernel_rfl) Try.func6 (by kernel_rfl)
    (of_decide_eq_true (by kernel_rfl)) (by unfold Func.isWrapper; first | (rw [if_pos (by decide +kernel)]; kernel_rfl) | (rw [if_neg (by decide +kernel)]; exact ⟨rfl, rfl⟩))
    (fun os started H enc _ => lifted os started H enc)
#print axioms proved
end Go.Proofs.Ytallanlajecmhaa.guardLoads
