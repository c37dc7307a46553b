/- CrashMore: within: each value that a place may have in one also one in another. -/
import Derived.Test.YtomigaldomiefaaCrWholeV
import Derived.Test.YtomigaldomiefaaCrMoreP
namespace Go.Proofs.Ytomigaldomiefaa
open Go.RowKit Go.Shelf Go.MapKept Go.ChangeMaps
attribute [local go_sem] Oper.semAt_some
attribute [local simp, local go_sem] wide_fn
set_option linter.unusedVariables false
set_option linter.unusedSimpArgs false

theorem within_results (tmps : Array Value) (W : World) (R : Nat) (u : Value) (h8 : tmps.getD 6 undef = .pointer (some ⟨R, 0, none⟩)) (r0 : W.cell? ⟨R, 0, none⟩ = some u) :
    (results Try.f22 tmps).run Try.prog W = .ok u W := by
  simp at h8
  simp [results, Try.results22, go_sem, h8, r0]
theorem rb_own (w : World) (R : Nat) (u : Value) : OwnFrom w.heap.size (fun (_ : Unit) V => Row V R 4 #[u] ∧ Below w.heap.size w V) := fun _ W W' row ⟨h1, h2⟩ hg hr =>
  ⟨Row.kept h1 hg (fun r e => (hr r e).2), h2.grown hg h2.size (fun r e => (hr r e).1)⟩
set_option maxRecDepth 100000 in
set_option maxHeartbeats 8000000 in
theorem within_any (B C H L B' C' H' L' : Nat) (S S' : Cr) (p : Nat) (hp : p < S.n) (hp' : p < S'.n) (w : World) (h : TwoIs w B C H L B' C' H' L' S S') (hs : ∀ x ∈ S.vals p (S.groups.length + 1), x ∈ S'.vals p (S'.groups.length + 1)) :
    Calls Try.prog 22 #[.pointer (some ⟨C, 0, none⟩), .pointer (some ⟨C', 0, none⟩), .int .i64 p] w fun e w' => e = .returned (.bool true) ∧ Below w.heap.size w w' := by
  obtain ⟨R, hR⟩ : ∃ R, R = w.heap.size := ⟨_, rfl⟩
  obtain ⟨Q, hQ⟩ : ∃ Q, Q = w.heap.size + 1 := ⟨_, rfl⟩
  obtain ⟨M, hM⟩ : ∃ M, M = w.heap.size + 1 + 1 := ⟨_, rfl⟩
  obtain ⟨w1, hw1⟩ : ∃ w1, w1 = ((w.alloc (.cells #[.bool false] 4)).alloc (.map #[] 0)).alloc (.cells #[.map (some Q)] 78) := ⟨_, rfl⟩
  have HB1 : Hid (Below w.heap.size w w1) := by unfold Hid; rw [hw1]; (repeat (first | (with_reducible refine Below.drew ?_) | (with_reducible refine below_drewN0 ?_ _) | ((with_reducible refine Below.setCell ?_ ?_ _); rotate_left; focus (first | omega | (simp; done) | (simp; omega) | (simp at *; omega))) | ((with_reducible refine Below.alloc ?_ ?_ _); rotate_left; focus (first | omega | (simp; done) | (simp; omega) | (simp at *; omega))) | (with_reducible exact Below.refl _ _)))
  have HR1 : Hid (Row w1 R 4 #[.bool false]) := by unfold Hid; rw [hw1, hR]; exact ((Row.fresh _ _ _).alloc _).alloc _
  have HM1 : Hid (Row w1 M 78 #[.map (some Q)]) := by
    unfold Hid; rw [hw1, hM]
    have := Row.fresh ((w.alloc (.cells #[.bool false] 4)).alloc (.map #[] 0)) 78 #[.map (some Q)]
    simp only [World.size_alloc] at this; exact this
  have HQ1 : Hid (SeenS w1 Q []) := by
    unfold Hid; rw [hw1, hQ]
    have := SeenS.fresh (w.alloc (.cells #[.bool false] 4))
    rw [World.size_alloc] at this
    exact this.turns (Turns.of_below ((Below.refl _ _).alloc (Nat.le_refl _) _) []) (by simp)
  have HW1 := Lib.hid hw1
  have HE := Lib.hid (And.intro hR (And.intro hQ hM))
  have H0 := Lib.hid h
  have HS := Lib.hid hs
  have HP := Lib.hid (And.intro hp hp')
  obtain ⟨u4, u5, hb⟩ := (h.below HB1.out).b
  have HVb := Lib.hid (Values_in B' C' H' L' u4 u5 S' p hp' w1 hb)
  have HOk := Lib.hid (hb.vals_ok p (S'.groups.length + 1))
  clear h hs hp hp' hw1 hR hQ hM hb
  refine (callsIn_wide (n := 9)).1 (callsIn_of_wp_marks Try.func22 rfl trivial ?_ rfl)
  simp only [Try.ntmps22, List.size_toArray, List.length_cons, List.length_nil, Nat.reduceAdd, Nat.reduceSub, Array.replicate_succ, Array.replicate_zero, List.push_toArray, List.append_toArray, List.nil_append, List.cons_append]
  refine wpIn_wide.2 ?_
  have hmm := @run_makeMap Try.prog
  go_wp2_with fail
  clear hmm
  rw [← HE.out.2.2, ← HE.out.2.1, ← HE.out.1, ← HW1.out]
  refine HVb.out.mono ?_
  rintro e w2 ⟨Z, us, rfl, hZ, hv, hnd, hm, hb⟩
  have HB2 : Hid (Below w.heap.size w w2) := HB1.out.trans (hb.mono HB1.out.size)
  have HR2 := Lib.hid (HR1.out.below hb HR1.out.lt)
  have HM2 := Lib.hid (HM1.out.below hb HM1.out.lt)
  have HQ2 : Hid (SeenS w2 Q []) := HQ1.out.turns (Turns.of_below hb []) (by simp)
  have HO2 : Hid (∀ x ∈ us, OkT x) := fun x hx => HOk.out x ((hm x).1 hx)
  have HSb : Hid (∀ x ∈ S.vals p (S.groups.length + 1), x ∈ us) := fun x hx => (hm x).2 (HS.out x hx)
  have hQl := HQ1.out.lt
  obtain ⟨Av, cv, hvl⟩ := valsAt_vl (T := [Q]) hv (by simp; omega) (fun g hg cs hr => by rw [List.mem_singleton.1 hg] at hr; exact HQ2.out.not_row _ _ hr)
  have HSeq := Lib.hid (vals1_own 8 (by omega) Z cv Av us hv.1 w2 (Kp := KpC [Q]) (fun _ _ h => KpC.of_below h) (fun h h' => KpC.trans h h') hvl)
  have HX : Hid (w.heap.size = R ∧ Q = R + 1 ∧ M = R + 2 ∧ Q < w2.heap.size) := ⟨HE.out.1.symm, by rw [HE.out.2.1, HE.out.1], by rw [HE.out.2.2, HE.out.1], HQ2.out.lt⟩
  clear HVb HB1 HR1 HM1 HQ1 HOk HS hZ hv hnd hm hb hvl hQl
  go_wp2_with fail
  refine (wpIn_wide (n := 9)).1 ?_
  apply wpIn_range_ownA rfl (by omega) (gf := 59) (lb := #[.pointer (some ⟨Z, 0, none⟩)]) rfl trivial (enters_of Try.func59 (by kernel_rfl) rfl)
    (hseq := HSeq.out)
    (hKr := fun V => KpC.of_below (Below.refl _ _)) (hKt := fun h h' => KpC.trans h h') (hKb := fun V l r o' _ hl => KpC.put hl) (hb0 := Below.refl _ _) (hps := fun _ => rfl)
    (I := fun pre V => SeenS V Q pre ∧ Row V M 78 #[.map (some Q)] ∧ Row V R 4 #[.bool false] ∧ Below w.heap.size w V) (Ix := fun _ _ _ => False)
  case hI =>
    rintro s V V' row ⟨h1, h2, h3, h4⟩ hg hr
    exact ⟨h1.block (hg.block Q h1.lt (fun e => by have := (hr Q e.symm).1; have := HX.out; omega)), Row.kept h2 hg (fun r e => (hr r e).2), Row.kept h3 hg (fun r e => (hr r e).2), h4.grown hg h4.size (fun r e => by have := (hr r e).1; have := HX.out; omega)⟩
  case hIx => exact fun _ _ _ _ _ hs _ _ => hs
  case h0 => exact ⟨HQ2.out, HM2.out, HR2.out, HB2.out⟩
  case hassign =>
    intro l pre x V hi _ _
    gi_wp2
    exact ⟨rfl, trivial⟩
  case hbody =>
    rintro l pre x V ⟨h1, h2, h3, h4⟩ hxm _
    obtain ⟨V', hup, hs', ht'⟩ := h1.set (HO2.out x hxm)
    have c1 := h2.cell 0
    simp only [List.getElem?_toArray, List.getElem?_cons_zero, List.getElem?_cons_succ] at c1
    have HF : Hid (KeepsFrom w2.heap.size V V' ∧ KpC [Q] V V' ∧ SeenS V' Q (pre ++ [x]) ∧ Row V' M 78 #[.map (some Q)] ∧ Row V' R 4 #[.bool false] ∧ Below w.heap.size w V') := by
      have hq := HX.out
      refine ⟨⟨ht'.size, fun k o hk0 hk1 _ => (ht'.block k (Array.getElem?_eq_some_iff.1 hk1).1 (by simp; omega)).trans hk1⟩, KpC.of_turns ht' (fun y hy => hy), hs', ht'.row h2 (by simp; omega), ht'.row h3 (by simp; omega), ht'.below h4 h4.size (fun y hy => by rw [List.mem_singleton.1 hy]; omega)⟩
    clear h1 h2 h3 h4 hs' ht' hxm
    gi_wp2
    exact HF.out
  case hstop =>
    rintro D c pre V _ _ h _
    exact h.elim
  case hdone =>
    rintro D1 ys V hD1 rfl ⟨h1, h2, h3, h4⟩ hDf
    have HQ3 := Lib.hid h1
    have HM3 := Lib.hid h2
    have HR3 := Lib.hid h3
    have HB3 := Lib.hid h4
    have HK3 : Hid (MarksIn w.heap.size V [{ target := .collected D1, args := #[] }]) := ⟨⟨D1, rfl, by have := HB2.out.size; omega, hDf, by simp⟩, trivial⟩
    obtain ⟨v4, v5, ha⟩ := (H0.out.below h4).a
    have HVa := Lib.hid (Values_in B C H L v4 v5 S p HP.out.1 V ha)
    clear h1 h2 h3 h4 hDf ha HSeq HQ2 HM2 HR2
    go_wp2_with fail
    refine HVa.out.mono ?_
    rintro e w3 ⟨Z', us', rfl, hZ, hv, hnd, hm, hb⟩
    obtain ⟨Av', cv', hvl⟩ := valsAt_vl (T := []) hv (by simp) (fun g hg => by cases hg)
    have HSeq := Lib.hid (vals1_own 8 (by omega) Z' cv' Av' us' hv.1 w3 (Kp := KpC []) (fun _ _ h => KpC.of_below h) (fun h h' => KpC.trans h h') hvl)
    have HB4 : Hid (Below w.heap.size w w3) := HB3.out.trans (hb.mono HB3.out.size)
    have HR4 := Lib.hid (HR3.out.below hb HR3.out.lt)
    have HM4 := Lib.hid (HM3.out.below hb HM3.out.lt)
    have HQ4 : Hid (SeenS w3 Q ys) := HQ3.out.turns (Turns.of_below hb []) (by simp)
    have HK4 : Hid (MarksIn w.heap.size w3 [{ target := .collected D1, args := #[] }]) := HK3.out.mono fun D _ _ hD => (hb.block D (Array.getElem?_eq_some_iff.1 hD).1).trans hD
    have HMl : Hid (∀ (d : Deferred), d ∈ [({ target := .collected D1, args := #[] } : Deferred)] → ∃ D, d = { target := .collected D, args := #[] } ∧ D < w3.heap.size) := marks_lt HK4.out
    have HI : Hid (∀ x ∈ us', ys.contains x = true ∧ OkT x) := fun x hx => by
      have h1 := HSb.out x ((hm x).1 hx)
      exact ⟨List.contains_iff_mem.2 h1, HO2.out x h1⟩
    have HXw : Hid (Q < w3.heap.size ∧ w.heap.size ≤ w3.heap.size) := ⟨HQ4.out.lt, HB4.out.size⟩
    clear HVa hZ hv hnd hm hb hvl HQ3 HM3 HR3 HB3 HK3
    go_wp2_with fail
    refine (wpIn_wide (n := 9)).1 ?_
    apply wpIn_range_ownA rfl (by omega) (gf := 59) (lb := #[.pointer (some ⟨Z', 0, none⟩)]) rfl trivial (enters_of Try.func59 (by kernel_rfl) rfl)
      (hseq := HSeq.out)
      (hKr := fun V => KpC.of_below (Below.refl _ _)) (hKt := fun h h' => KpC.trans h h') (hKb := fun V l r o' _ hl => KpC.put hl) (hb0 := Below.refl _ _) (hps := fun _ => rfl)
      (I := fun pre V => SeenS V Q ys ∧ Row V M 78 #[.map (some Q)] ∧ Row V R 4 #[.bool false] ∧ Below w.heap.size w V ∧ MarksIn w.heap.size V [{ target := .collected D1, args := #[] }]) (Ix := fun _ _ _ => False)
    case hI =>
      rintro s V V' row ⟨h1, h2, h3, h4, h5⟩ hg hr
      refine ⟨h1.block (hg.block Q h1.lt (fun e => by have := (hr Q e.symm).1; have := HXw.out; omega)), Row.kept h2 hg (fun r e => (hr r e).2), Row.kept h3 hg (fun r e => (hr r e).2), h4.grown hg h4.size (fun r e => by have := (hr r e).1; have := HXw.out; omega), h5.mono fun D _ hm hD => ?_⟩
      obtain ⟨D', e, hlt⟩ := HMl.out _ hm
      obtain rfl : D = D' := by injection e with e _; injection e
      exact (hg.block D (Array.getElem?_eq_some_iff.1 hD).1 (fun e => by have := (hr D e.symm).1; omega)).trans hD
    case hIx => exact fun _ _ _ _ _ hs _ _ => hs
    case h0 => exact ⟨HQ4.out, HM4.out, HR4.out, HB4.out, HK4.out⟩
    case hassign =>
      intro l pre x V hi _ _
      gi_wp2
      exact ⟨rfl, trivial⟩
    case hbody =>
      rintro l pre x V ⟨h1, h2, h3, h4, h5⟩ hxm _
      obtain ⟨hc, hokx⟩ := HI.out x hxm
      have hlk := h1.look hokx
      rw [hc] at hlk
      have c1 := h2.cell 0
      simp only [List.getElem?_toArray, List.getElem?_cons_zero, List.getElem?_cons_succ] at c1
      have HH := Lib.hid (And.intro h1 (And.intro h2 (And.intro h3 (And.intro h4 h5))))
      clear h1 h2 h3 h4 h5 hxm hc hokx
      gi_wp2
      exact ⟨KeepsFrom.refl _ _, KpC.of_below (Below.refl _ _), HH.out⟩
    case hstop =>
      rintro D c pre V _ _ h _
      exact h.elim
    case hdone =>
      rintro D2 zs' V2 hD2 rfl ⟨h1, h2, h3, h4, h5⟩ hDf
      have c1 := h3.cell 0
      have f1 := h3.frozen 0
      simp only [List.getElem?_toArray, List.getElem?_cons_zero, List.getElem?_cons_succ] at c1
      have HF : Hid (Row (V2.setCell ⟨R, 0, none⟩ (.bool true)) R 4 #[.bool true] ∧ Below w.heap.size w (V2.setCell ⟨R, 0, none⟩ (.bool true))) :=
        ⟨by simpa using h3.put 0 (.bool true), h4.setCell (p := ⟨R, 0, none⟩) (by show w.heap.size ≤ R; have := HX.out; omega) _⟩
      have HK : Hid (MarksIn w.heap.size (V2.setCell ⟨R, 0, none⟩ (.bool true)) ({ target := .collected D2, args := #[] } :: [{ target := .collected D1, args := #[] }])) :=
        (h5.push (by have := HXw.out; omega) hDf (fun hm => by obtain ⟨D', e, hlt⟩ := HMl.out _ hm; injection e with e _; injection e with e; omega)).mono fun D _ _ h0 => (KeepsOthers.setCell _ _ _).same _ _ h0 rfl
      clear h1 h2 h3 h4 h5 hDf
      go_wp2
      exact leaves_marks (B := w.heap.size) (Rb := fun V => Row V R 4 #[.bool true] ∧ Below w.heap.size w V) (fun V hV => ⟨_, within_results _ V R (.bool true) rfl (hV.1.cell 0), rfl, hV.2⟩) (fun V D hD hV h0 => (rb_own w R (.bool true)).putObj (s := ()) _ hV hD h0 rfl) _ _ HK.out HF.out
end Go.Proofs.Ytomigaldomiefaa
