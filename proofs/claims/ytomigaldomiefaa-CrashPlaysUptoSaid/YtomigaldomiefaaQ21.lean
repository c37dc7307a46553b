/- What follows is laid together from several texts of mine, in their order. -/
import Derived.Test.YtomigaldomiefaaQ20
import Derived.Test.YtomigaldomiefaaQ15
import Derived.Test.YtomigaldomiefaaQ16
import Derived.Test.YtomigaldomiefaaQ19
import Derived.Test.YtomigaldomiefaaQ14

namespace Go.Proofs.Ytomigaldomiefaa
open Go.RowKit Go.Shelf Go.MapKept Go.ChangeMaps
set_option linter.unusedVariables false
set_option linter.unusedSimpArgs false

theorem valsAt_vl {w : World} {T : List Nat} {B Z : Nat} {vs : List (List Nat)} (h : ValsAt w B Z vs) (hZ : Z ∉ T) (hT : ∀ g ∈ T, ∀ cs, ¬ Row w g 9 cs) : ∃ A c, ∀ V, KpC T w V → VlAt V Z c A vs := by
  obtain ⟨h1, v, h2, h3⟩ := h
  obtain ⟨A, c, rfl, _, _⟩ := own_shape h3
  refine ⟨A, c, fun V hk => ?_⟩
  have h4 := own_kpc h3 hk hT
  have h5 := (hk.row h2 hZ).cell 0
  simp only [List.getElem?_toArray, List.getElem?_cons_zero] at h5
  refine ⟨h5, fun k x hx => ?_⟩
  have hkl := (List.getElem?_eq_some_iff.1 hx).1
  rcases h4.2 with ⟨_, h0⟩ | ⟨g, cap, cur, e1, _, hr, a1, a2, a3, a4⟩
  · omega
  · injection e1 with e1 _ _
    refine ⟨g, e1, ?_⟩
    have h6 : (cur.toList.take (vs.length * 1))[k]? = some (.string (textOf x)) := by rw [a4, List.getElem?_map, hx]; rfl
    rw [List.getElem?_take, if_pos (by omega)] at h6
    rw [(show Row V g _ cur from hr).cell]
    simpa using h6
theorem hasOf_small (pl : Int) (its : List Ws) (h : ∀ x ∈ its, ∀ u ∈ x.l, u < 256) : ∀ u ∈ hasOf pl its, u < 256 := by
  unfold hasOf
  suffices ∀ a : List Nat, (∀ u ∈ a, u < 256) → ∀ u ∈ its.foldl (stepW pl) a, u < 256 from this _ (by simp)
  induction its with
  | nil => intro a ha; exact ha
  | cons x its ih =>
    intro a ha
    rw [List.foldl_cons]
    refine ih (fun y hy => h y (List.mem_cons_of_mem _ hy)) _ ?_
    unfold stepW
    split
    · exact h x (by simp)
    · exact ha
/-- What Values hands on, of a state that has only what lasts. -/
def wholeL (n : Nat) (pl : Int) (its : List Ws) : List (List Nat) := if 0 ≤ pl ∧ pl < (n : Int) then [hasOf pl its] else []
theorem whole_vals (n : Nat) (its : List Ws) (pl : Int) (B C H L : Nat) (v4 v5 : Value) (w : World) (h : CrIs w B C H L v4 v5 ((cr0 n 2).durable (rightL n 2 its))) :
    Calls Try.prog 19 #[.pointer (some ⟨C, 0, none⟩), .int .i64 pl] w fun e w' => ∃ (Z : Nat), e = .returned (.func (.func 59) #[] #[.pointer (some ⟨Z, 0, none⟩)]) ∧ w.heap.size ≤ Z ∧ ValsAt w' w.heap.size Z (wholeL n pl its) ∧ Below w.heap.size w w' := by
  obtain ⟨h1, h2, h3, h4⟩ := durable_same (rightL n 2 its) (cr0 n 2)
  unfold wholeL
  by_cases hin : 0 ≤ pl ∧ pl < (n : Int)
  · rw [if_pos hin]
    obtain ⟨p, rfl⟩ := Int.eq_ofNat_of_zero_le hin.1
    refine (Values_in B C H L v4 v5 _ p (by rw [h1]; show p < n; omega) (by
      rw [h3]
      show ((List.range (0 + 1)).flatMap _).length ≤ _
      rw [show List.range (0 + 1) = [0] from rfl, List.flatMap_singleton, whole_level n its 0 p (by omega)]; simp) w h).mono ?_
    rintro e w' ⟨Z, vs, rfl, hZ, hv, ⟨hnd, _⟩, hm, hb⟩
    refine ⟨Z, rfl, hZ, ?_, hb⟩
    have hm2 : ∀ d, d ∈ vs ↔ d = hasOf p its := fun d => by
      rw [hm, h3]
      show d ∈ (List.range (0 + 1)).flatMap _ ↔ _
      rw [show List.range (0 + 1) = [0] from rfl, List.flatMap_singleton, whole_level n its 0 p (by omega), List.mem_singleton]
    have : vs = [hasOf p its] := by
      match vs, hnd, hm2 with
      | [], _, hm2 => exact absurd ((hm2 _).2 rfl) (by simp)
      | [x], _, hm2 => rw [(hm2 x).1 (by simp)]
      | x :: y :: l, hnd, hm2 =>
        have ex := (hm2 x).1 (by simp)
        have ey := (hm2 y).1 (by simp)
        rw [List.nodup_cons] at hnd
        exact absurd (by rw [ex, ← ey]; simp) hnd.1
    rw [this] at hv
    exact hv
  · rw [if_neg hin]
    refine (Values_out B C H L v4 v5 _ pl (by rw [h1]; exact hin) w h).mono ?_
    rintro e w' ⟨Z, rfl, hZ, hv, hb⟩
    exact ⟨Z, rfl, hZ, hv, hb⟩
end Go.Proofs.Ytomigaldomiefaa

namespace Go.Proofs.Ytomigaldomiefaa
open Go.RowKit Go.Shelf Go.MapKept Go.ChangeMaps
attribute [local go_sem] Oper.semAt_some
attribute [local simp, local go_sem] wide_fn
set_option linter.unusedVariables false
set_option linter.unusedSimpArgs false

theorem within_results (tmps : Array Value) (W : World) (R : Nat) (u : Value) (h8 : tmps.getD 6 undef = .pointer (some ⟨R, 0, none⟩)) (r0 : W.cell? ⟨R, 0, none⟩ = some u) :
    (results Try.f22 tmps).run Try.prog W = .ok u W := by
  simp at h8
  simp [results, Try.results22, go_sem, h8, r0]
theorem rb_own (w : World) (R : Nat) (u : Value) : OwnFrom w.heap.size (fun (_ : Unit) V => Row V R 4 #[u] ∧ Below w.heap.size w V) := fun _ W W' row ⟨h1, h2⟩ hg hr =>
  ⟨Row.kept h1 hg (fun r e => (hr r e).2), h2.grown hg h2.size (fun r e => (hr r e).1)⟩
set_option maxRecDepth 100000 in
set_option maxHeartbeats 8000000 in
theorem within_any (B C H L B' C' H' L' : Nat) (S S' : Cr) (p : Nat) (hp : p < S.n) (hp' : p < S'.n) (hf : (S.vals p (S.groups.length + 1)).length ≤ 8796093022208) (hf' : (S'.vals p (S'.groups.length + 1)).length ≤ 8796093022208) (w : World) (h : TwoIs w B C H L B' C' H' L' S S') (hs : ∀ x ∈ S.vals p (S.groups.length + 1), x ∈ S'.vals p (S'.groups.length + 1)) :
    Calls Try.prog 22 #[.pointer (some ⟨C, 0, none⟩), .pointer (some ⟨C', 0, none⟩), .int .i64 p] w fun e w' => e = .returned (.bool true) ∧ Below w.heap.size w w' := by
  obtain ⟨R, hR⟩ : ∃ R, R = w.heap.size := ⟨_, rfl⟩
  obtain ⟨Q, hQ⟩ : ∃ Q, Q = w.heap.size + 1 := ⟨_, rfl⟩
  obtain ⟨M, hM⟩ : ∃ M, M = w.heap.size + 1 + 1 := ⟨_, rfl⟩
  obtain ⟨w1, hw1⟩ : ∃ w1, w1 = ((w.alloc (.cells #[.bool false] 4)).alloc (.map #[] 0)).alloc (.cells #[.map (some Q)] 78) := ⟨_, rfl⟩
  have HB1 : Hid (Below w.heap.size w w1) := by unfold Hid; rw [hw1]; (repeat (first | (with_reducible refine Below.drew ?_) | (with_reducible refine below_drewN0 ?_ _) | ((with_reducible refine Below.setCell ?_ ?_ _); rotate_left; focus (first | omega | (simp; done) | (simp; omega) | (simp at *; omega))) | ((with_reducible refine Below.alloc ?_ ?_ _); rotate_left; focus (first | omega | (simp; done) | (simp; omega) | (simp at *; omega))) | (with_reducible exact Below.refl _ _)))
  have HR1 : Hid (Row w1 R 4 #[.bool false]) := by unfold Hid; rw [hw1, hR]; exact ((Row.fresh _ _ _).alloc _).alloc _
  have HM1 : Hid (Row w1 M 78 #[.map (some Q)]) := by
    unfold Hid; rw [hw1, hM]
    have := Row.fresh ((w.alloc (.cells #[.bool false] 4)).alloc (.map #[] 0)) 78 #[.map (some Q)]
    simp only [World.size_alloc] at this; exact this
  have HQ1 : Hid (SeenS w1 Q []) := by
    unfold Hid; rw [hw1, hQ]
    have := SeenS.fresh (w.alloc (.cells #[.bool false] 4))
    rw [World.size_alloc] at this
    exact this.turns (Turns.of_below ((Below.refl _ _).alloc (Nat.le_refl _) _) []) (by simp)
  have HW1 := Lib.hid hw1
  have HE := Lib.hid (And.intro hR (And.intro hQ hM))
  have H0 := Lib.hid h
  have HS := Lib.hid hs
  have HP := Lib.hid (And.intro hp hp')
  obtain ⟨u4, u5, hb⟩ := (h.below HB1.out).b
  have HVb := Lib.hid (Values_in B' C' H' L' u4 u5 S' p hp' hf' w1 hb)
  have HOk := Lib.hid (hb.vals_ok p (S'.groups.length + 1))
  have HFw := Lib.hid hf
  clear h hs hp hp' hw1 hR hQ hM hb hf hf'
  refine (callsIn_wide (n := 9)).1 (callsIn_of_wp_marks Try.func22 rfl trivial ?_ rfl)
  simp only [Try.ntmps22, List.size_toArray, List.length_cons, List.length_nil, Nat.reduceAdd, Nat.reduceSub, Array.replicate_succ, Array.replicate_zero, List.push_toArray, List.append_toArray, List.nil_append, List.cons_append]
  refine wpIn_wide.2 ?_
  have hmm := @run_makeMap Try.prog
  go_wp2_with fail
  clear hmm
  rw [← HE.out.2.2, ← HE.out.2.1, ← HE.out.1, ← HW1.out]
  refine HVb.out.mono ?_
  rintro e w2 ⟨Z, us, rfl, hZ, hv, hnd, hm, hb⟩
  have HB2 : Hid (Below w.heap.size w w2) := HB1.out.trans (hb.mono HB1.out.size)
  have HR2 := Lib.hid (HR1.out.below hb HR1.out.lt)
  have HM2 := Lib.hid (HM1.out.below hb HM1.out.lt)
  have HQ2 : Hid (SeenS w2 Q []) := HQ1.out.turns (Turns.of_below hb []) (by simp)
  have HO2 : Hid (∀ x ∈ us, OkT x) := fun x hx => HOk.out x ((hm x).1 hx)
  have HSb : Hid (∀ x ∈ S.vals p (S.groups.length + 1), x ∈ us) := fun x hx => (hm x).2 (HS.out x hx)
  have hQl := HQ1.out.lt
  obtain ⟨Av, cv, hvl⟩ := valsAt_vl (T := [Q]) hv (by simp; omega) (fun g hg cs hr => by rw [List.mem_singleton.1 hg] at hr; exact HQ2.out.not_row _ _ hr)
  have HSeq := Lib.hid (vals1_own 8 (by omega) Z cv Av us hv.1 w2 (Kp := KpC [Q]) (fun _ _ h => KpC.of_below h) (fun h h' => KpC.trans h h') hvl)
  have HX : Hid (w.heap.size = R ∧ Q = R + 1 ∧ M = R + 2 ∧ Q < w2.heap.size) := ⟨HE.out.1.symm, by rw [HE.out.2.1, HE.out.1], by rw [HE.out.2.2, HE.out.1], HQ2.out.lt⟩
  clear HVb HB1 HR1 HM1 HQ1 HOk HS hZ hv hnd hm hb hvl hQl
  go_wp2_with fail
  refine (wpIn_wide (n := 9)).1 ?_
  apply wpIn_range_ownA rfl (by omega) (gf := 59) (lb := #[.pointer (some ⟨Z, 0, none⟩)]) rfl trivial (enters_of Try.func59 (by kernel_rfl) rfl)
    (hseq := HSeq.out)
    (hKr := fun V => KpC.of_below (Below.refl _ _)) (hKt := fun h h' => KpC.trans h h') (hKb := fun V l r o' _ hl => KpC.put hl) (hb0 := Below.refl _ _) (hps := fun _ => rfl)
    (I := fun pre V => SeenS V Q pre ∧ Row V M 78 #[.map (some Q)] ∧ Row V R 4 #[.bool false] ∧ Below w.heap.size w V) (Ix := fun _ _ _ => False)
  case hI =>
    rintro s V V' row ⟨h1, h2, h3, h4⟩ hg hr
    exact ⟨h1.block (hg.block Q h1.lt (fun e => by have := (hr Q e.symm).1; have := HX.out; omega)), Row.kept h2 hg (fun r e => (hr r e).2), Row.kept h3 hg (fun r e => (hr r e).2), h4.grown hg h4.size (fun r e => by have := (hr r e).1; have := HX.out; omega)⟩
  case hIx => exact fun _ _ _ _ _ hs _ _ => hs
  case h0 => exact ⟨HQ2.out, HM2.out, HR2.out, HB2.out⟩
  case hassign =>
    intro l pre x V hi _ _
    gi_wp2
    exact ⟨rfl, trivial⟩
  case hbody =>
    rintro l pre x V ⟨h1, h2, h3, h4⟩ hxm _
    obtain ⟨V', hup, hs', ht'⟩ := h1.set (HO2.out x hxm)
    have c1 := h2.cell 0
    simp only [List.getElem?_toArray, List.getElem?_cons_zero, List.getElem?_cons_succ] at c1
    have HF : Hid (KeepsFrom w2.heap.size V V' ∧ KpC [Q] V V' ∧ SeenS V' Q (pre ++ [x]) ∧ Row V' M 78 #[.map (some Q)] ∧ Row V' R 4 #[.bool false] ∧ Below w.heap.size w V') := by
      have hq := HX.out
      refine ⟨⟨ht'.size, fun k o hk0 hk1 _ => (ht'.block k (Array.getElem?_eq_some_iff.1 hk1).1 (by simp; omega)).trans hk1⟩, KpC.of_turns ht' (fun y hy => hy), hs', ht'.row h2 (by simp; omega), ht'.row h3 (by simp; omega), ht'.below h4 h4.size (fun y hy => by rw [List.mem_singleton.1 hy]; omega)⟩
    clear h1 h2 h3 h4 hs' ht' hxm
    gi_wp2
    exact HF.out
  case hstop =>
    rintro D c pre V _ _ h _
    exact h.elim
  case hdone =>
    rintro D1 ys V hD1 rfl ⟨h1, h2, h3, h4⟩ hDf
    have HQ3 := Lib.hid h1
    have HM3 := Lib.hid h2
    have HR3 := Lib.hid h3
    have HB3 := Lib.hid h4
    have HK3 : Hid (MarksIn w.heap.size V [{ target := .collected D1, args := #[] }]) := ⟨⟨D1, rfl, by have := HB2.out.size; omega, hDf, by simp⟩, trivial⟩
    obtain ⟨v4, v5, ha⟩ := (H0.out.below h4).a
    have HVa := Lib.hid (Values_in B C H L v4 v5 S p HP.out.1 HFw.out V ha)
    clear h1 h2 h3 h4 hDf ha HSeq HQ2 HM2 HR2
    go_wp2_with fail
    refine HVa.out.mono ?_
    rintro e w3 ⟨Z', us', rfl, hZ, hv, hnd, hm, hb⟩
    obtain ⟨Av', cv', hvl⟩ := valsAt_vl (T := []) hv (by simp) (fun g hg => by cases hg)
    have HSeq := Lib.hid (vals1_own 8 (by omega) Z' cv' Av' us' hv.1 w3 (Kp := KpC []) (fun _ _ h => KpC.of_below h) (fun h h' => KpC.trans h h') hvl)
    have HB4 : Hid (Below w.heap.size w w3) := HB3.out.trans (hb.mono HB3.out.size)
    have HR4 := Lib.hid (HR3.out.below hb HR3.out.lt)
    have HM4 := Lib.hid (HM3.out.below hb HM3.out.lt)
    have HQ4 : Hid (SeenS w3 Q ys) := HQ3.out.turns (Turns.of_below hb []) (by simp)
    have HK4 : Hid (MarksIn w.heap.size w3 [{ target := .collected D1, args := #[] }]) := HK3.out.mono fun D _ _ hD => (hb.block D (Array.getElem?_eq_some_iff.1 hD).1).trans hD
    have HMl : Hid (∀ (d : Deferred), d ∈ [({ target := .collected D1, args := #[] } : Deferred)] → ∃ D, d = { target := .collected D, args := #[] } ∧ D < w3.heap.size) := marks_lt HK4.out
    have HI : Hid (∀ x ∈ us', ys.contains x = true ∧ OkT x) := fun x hx => by
      have h1 := HSb.out x ((hm x).1 hx)
      exact ⟨List.contains_iff_mem.2 h1, HO2.out x h1⟩
    have HXw : Hid (Q < w3.heap.size ∧ w.heap.size ≤ w3.heap.size) := ⟨HQ4.out.lt, HB4.out.size⟩
    clear HVa hZ hv hnd hm hb hvl HQ3 HM3 HR3 HB3 HK3
    go_wp2_with fail
    refine (wpIn_wide (n := 9)).1 ?_
    apply wpIn_range_ownA rfl (by omega) (gf := 59) (lb := #[.pointer (some ⟨Z', 0, none⟩)]) rfl trivial (enters_of Try.func59 (by kernel_rfl) rfl)
      (hseq := HSeq.out)
      (hKr := fun V => KpC.of_below (Below.refl _ _)) (hKt := fun h h' => KpC.trans h h') (hKb := fun V l r o' _ hl => KpC.put hl) (hb0 := Below.refl _ _) (hps := fun _ => rfl)
      (I := fun pre V => SeenS V Q ys ∧ Row V M 78 #[.map (some Q)] ∧ Row V R 4 #[.bool false] ∧ Below w.heap.size w V ∧ MarksIn w.heap.size V [{ target := .collected D1, args := #[] }]) (Ix := fun _ _ _ => False)
    case hI =>
      rintro s V V' row ⟨h1, h2, h3, h4, h5⟩ hg hr
      refine ⟨h1.block (hg.block Q h1.lt (fun e => by have := (hr Q e.symm).1; have := HXw.out; omega)), Row.kept h2 hg (fun r e => (hr r e).2), Row.kept h3 hg (fun r e => (hr r e).2), h4.grown hg h4.size (fun r e => by have := (hr r e).1; have := HXw.out; omega), h5.mono fun D _ hm hD => ?_⟩
      obtain ⟨D', e, hlt⟩ := HMl.out _ hm
      obtain rfl : D = D' := by injection e with e _; injection e
      exact (hg.block D (Array.getElem?_eq_some_iff.1 hD).1 (fun e => by have := (hr D e.symm).1; omega)).trans hD
    case hIx => exact fun _ _ _ _ _ hs _ _ => hs
    case h0 => exact ⟨HQ4.out, HM4.out, HR4.out, HB4.out, HK4.out⟩
    case hassign =>
      intro l pre x V hi _ _
      gi_wp2
      exact ⟨rfl, trivial⟩
    case hbody =>
      rintro l pre x V ⟨h1, h2, h3, h4, h5⟩ hxm _
      obtain ⟨hc, hokx⟩ := HI.out x hxm
      have hlk := h1.look hokx
      rw [hc] at hlk
      have c1 := h2.cell 0
      simp only [List.getElem?_toArray, List.getElem?_cons_zero, List.getElem?_cons_succ] at c1
      have HH := Lib.hid (And.intro h1 (And.intro h2 (And.intro h3 (And.intro h4 h5))))
      clear h1 h2 h3 h4 h5 hxm hc hokx
      gi_wp2
      exact ⟨KeepsFrom.refl _ _, KpC.of_below (Below.refl _ _), HH.out⟩
    case hstop =>
      rintro D c pre V _ _ h _
      exact h.elim
    case hdone =>
      rintro D2 zs' V2 hD2 rfl ⟨h1, h2, h3, h4, h5⟩ hDf
      have c1 := h3.cell 0
      have f1 := h3.frozen 0
      simp only [List.getElem?_toArray, List.getElem?_cons_zero, List.getElem?_cons_succ] at c1
      have HF : Hid (Row (V2.setCell ⟨R, 0, none⟩ (.bool true)) R 4 #[.bool true] ∧ Below w.heap.size w (V2.setCell ⟨R, 0, none⟩ (.bool true))) :=
        ⟨by simpa using h3.put 0 (.bool true), h4.setCell (p := ⟨R, 0, none⟩) (by show w.heap.size ≤ R; have := HX.out; omega) _⟩
      have HK : Hid (MarksIn w.heap.size (V2.setCell ⟨R, 0, none⟩ (.bool true)) ({ target := .collected D2, args := #[] } :: [{ target := .collected D1, args := #[] }])) :=
        (h5.push (by have := HXw.out; omega) hDf (fun hm => by obtain ⟨D', e, hlt⟩ := HMl.out _ hm; injection e with e _; injection e with e; omega)).mono fun D _ _ h0 => (KeepsOthers.setCell _ _ _).same _ _ h0 rfl
      clear h1 h2 h3 h4 h5 hDf
      go_wp2
      exact leaves_marks (B := w.heap.size) (Rb := fun V => Row V R 4 #[.bool true] ∧ Below w.heap.size w V) (fun V hV => ⟨_, within_results _ V R (.bool true) rfl (hV.1.cell 0), rfl, hV.2⟩) (fun V D hD hV h0 => (rb_own w R (.bool true)).putObj (s := ()) _ hV hD h0 rfl) _ _ HK.out HF.out
end Go.Proofs.Ytomigaldomiefaa

namespace Go.Proofs.Ytomigaldomiefaa
open Go.RowKit Go.Shelf Go.MapKept Go.ChangeMaps
set_option linter.unusedVariables false
set_option linter.unusedSimpArgs false

section
variable {w w' : World} {B C H L R X M : Nat} {v3 v4 v5 : Value} {S : Cr} {T : List Nat}
theorem CrIs.nodatT (h : CrIs w B C H L v4 v5 S) : NoDat w [C, H, L] := fun g hg ty cs hr => by
  simp only [List.mem_cons, List.not_mem_nil, or_false] at hg
  rcases hg with rfl | rfl | rfl
  · have e : ty = 67 := Classical.byContradiction fun hne => Row.ne_type hr h.row hne rfl
    rw [e]; exact ⟨by decide, by decide, by decide⟩
  · exact absurd hr (h.has.not_row _ _)
  · exact absurd hr (h.loose.not_row _ _)
theorem CrIs.nodat (h : CrIs w B C H L v4 v5 S) (ht : Turns w w' T) (hn : C ∉ T ∧ H ∉ T ∧ L ∉ T) (hT : NoDat w T) : CrIs w' B C H L v4 v5 S :=
  ⟨ht.row h.row hn.1, h.has.turns ht hn.2.1, h.loose.turns ht hn.2.2, h.grs.nodat ht hT, h.fly.nodat ht hT, h.low, h.ne, h.n, h.sz, h.okG, h.okF, h.few⟩
theorem both_apart (h : CrIs w B C H L v4 v5 S) {v3' v4' : Value} {S' : Cr} (h' : RfIs w B R X M v3' v4' S') : (C ∉ [R, X, M] ∧ H ∉ [R, X, M] ∧ L ∉ [R, X, M]) ∧ (R ∉ [C, H, L] ∧ X ∉ [C, H, L] ∧ M ∉ [C, H, L]) := by
  obtain ⟨cx, hx, _⟩ := h'.has
  obtain ⟨cl, hl, _⟩ := h'.loose
  have a1 := Row.ne_type h.row h'.row (by decide)
  have a2 := Row.ne_type h.row hx (by decide)
  have a3 := Row.ne_type h.row hl (by decide)
  have b1 : H ≠ R := fun e => h.has.not_row _ _ (e ▸ h'.row)
  have b2 : H ≠ X := fun e => h.has.not_row _ _ (e ▸ hx)
  have b3 : H ≠ M := fun e => h.has.not_row _ _ (e ▸ hl)
  have c1 : L ≠ R := fun e => h.loose.not_row _ _ (e ▸ h'.row)
  have c2 : L ≠ X := fun e => h.loose.not_row _ _ (e ▸ hx)
  have c3 : L ≠ M := fun e => h.loose.not_row _ _ (e ▸ hl)
  simp
  exact ⟨⟨⟨a1, a2, a3⟩, ⟨b1, b2, b3⟩, ⟨c1, c2, c3⟩⟩, ⟨Ne.symm a1, Ne.symm b1, Ne.symm c1⟩, ⟨Ne.symm a2, Ne.symm b2, Ne.symm c2⟩, ⟨Ne.symm a3, Ne.symm b3, Ne.symm c3⟩⟩
end
/-- Both states, of one kind. -/
structure Pl (w0 w : World) (C H L R X M : Nat) (S : Cr) : Prop where
  cr : ∃ v4 v5, CrIs w w0.heap.size C H L v4 v5 S
  rf : ∃ v3 v4, RfIs w w0.heap.size R X M v3 v4 S
  below : Below w0.heap.size w0 w
section
variable {w0 w w' : World} {C H L R X M : Nat} {S S' : Cr}
theorem Pl.later (h : Pl w0 w C H L R X M S) (hb : Below w.heap.size w w') : Pl w0 w' C H L R X M S := by
  obtain ⟨v4, v5, h1⟩ := h.cr
  obtain ⟨u3, u4, h2⟩ := h.rf
  exact ⟨⟨v4, v5, h1.below hb⟩, ⟨u3, u4, h2.below hb⟩, h.below.trans (hb.mono h.below.size)⟩
/-- The one has turned. -/
theorem Pl.crash (h : Pl w0 w C H L R X M S) (ht : Turns w w' [C, H, L]) (hc : ∃ v4 v5, CrIs w' w0.heap.size C H L v4 v5 S') : (∃ v4 v5, CrIs w' w0.heap.size C H L v4 v5 S') ∧ (∃ v3 v4, RfIs w' w0.heap.size R X M v3 v4 S) ∧ Below w0.heap.size w0 w' := by
  obtain ⟨v4, v5, h1⟩ := h.cr
  obtain ⟨u3, u4, h2⟩ := h.rf
  have hl := h1.low
  exact ⟨hc, ⟨u3, u4, h2.keep ht (both_apart h1 h2).2 h1.nodatT⟩, ht.below h.below h.below.size (by simp; omega)⟩
/-- And the other. -/
theorem Pl.ref {w1 : World} (hc : ∃ v4 v5, CrIs w1 w0.heap.size C H L v4 v5 S') (hr : ∃ v3 v4, RfIs w1 w0.heap.size R X M v3 v4 S) (hb : Below w0.heap.size w0 w1) (ht : Turns w1 w' [R, X, M]) (hr' : ∃ v3 v4, RfIs w' w0.heap.size R X M v3 v4 S') : Pl w0 w' C H L R X M S' := by
  obtain ⟨v4, v5, h1⟩ := hc
  obtain ⟨u3, u4, h2⟩ := hr
  have hl := h2.low
  exact ⟨⟨v4, v5, h1.nodat ht (both_apart h1 h2).1 h2.nodat⟩, hr', ht.below hb hb.size (by simp; omega)⟩
end
theorem loose_same (S : Cr) (p : Int) (q : Nat) (hq : q < S.n) : (S.loose q || (decide (0 ≤ p ∧ p < (S.n : Int)) && decide (q = p.toNat))) = (if 0 ≤ p ∧ p < (S.n : Int) then { S with loose := updL S.loose p.toNat true } else S).loose q := by
  by_cases h : 0 ≤ p ∧ p < (S.n : Int)
  · rw [if_pos h, decide_eq_true h]
    show _ = if q = p.toNat then true else S.loose q
    by_cases e : q = p.toNat
    · simp [e]
    · simp [e]
  · rw [if_neg h, decide_eq_false h]; simp
theorem RfIs.loosened {w : World} {B R X M : Nat} {v3 v4 : Value} {S : Cr} {p : Int} (h : RfIs w B R X M v3 v4 (if 0 ≤ p ∧ p < (S.n : Int) then { S with loose := updL S.loose p.toNat true } else S)) : RfIs w B R X M v3 v4 { S with loose := fun q => S.loose q || (decide (0 ≤ p ∧ p < S.n) && decide (q = p.toNat)) } := by
  have e : ∀ S' : Cr, S' = (if 0 ≤ p ∧ p < (S.n : Int) then { S with loose := updL S.loose p.toNat true } else S) → S'.n = S.n ∧ S'.sz = S.sz ∧ S'.has = S.has ∧ S'.groups = S.groups ∧ S'.fly = S.fly := fun S' e => by
    subst e
    split <;> exact ⟨rfl, rfl, rfl, rfl, rfl⟩
  obtain ⟨e1, e2, e3, e4, e5⟩ := e _ rfl
  refine h.congr e1.symm e2.symm (fun q hq => ?_) (fun q hq => ?_) e4.symm e5.symm
  · unfold Cr.base0; rw [e3, e2]
  · exact loose_same S p q (by rw [e1] at hq; exact hq)
end Go.Proofs.Ytomigaldomiefaa

namespace Go.Proofs.Ytomigaldomiefaa
open Go.RowKit Go.Shelf Go.MapKept Go.ChangeMaps
attribute [local go_sem] Oper.semAt_some
attribute [local simp, local go_sem] wide_fn
set_option linter.unusedVariables false
set_option linter.unusedSimpArgs false

theorem looks_results (tmps : Array Value) (W : World) (R : Nat) (u : Value) (h8 : tmps.getD 8 undef = .pointer (some ⟨R, 0, none⟩)) (r0 : W.cell? ⟨R, 0, none⟩ = some u) :
    (results Try.f30 tmps).run Try.prog W = .ok u W := by
  simp at h8
  simp [results, Try.results30, go_sem, h8, r0]
theorem takeWhile_lt {p : List Nat → Bool} : ∀ (ts : List (List Nat)) (i : Nat) (y : List Nat), i < (ts.takeWhile p).length → ts[i]? = some y → p y = true
  | [], i, y, h, _ => by simp at h
  | t :: ts, i, y, h, hy => by
    rw [List.takeWhile_cons] at h
    split at h
    · rename_i hp
      cases i with
      | zero => simp at hy; rw [← hy]; exact hp
      | succ i => exact takeWhile_lt ts i y (by simpa using h) (by simpa using hy)
    · simp at h
theorem takeWhile_stop {p : List Nat → Bool} : ∀ (ts : List (List Nat)) (y : List Nat), ts[(ts.takeWhile p).length]? = some y → p y = false
  | [], y, h => by simp at h
  | t :: ts, y, h => by
    rw [List.takeWhile_cons] at h
    split at h
    · exact takeWhile_stop ts y (by simpa using h)
    · rename_i hp
      simp at h
      rw [← h]; simpa using hp
theorem sorted_ex : ∀ (l : List (List Nat)), (∀ d ∈ l, ∀ u ∈ d, u < 256) → ∃ ts, SortN ts ∧ ∀ d, d ∈ ts ↔ d ∈ l
  | [], _ => ⟨[], SortN.nil, by simp⟩
  | x :: l, ok => by
    obtain ⟨ts, h1, h2⟩ := sorted_ex l (fun d hd => ok d (List.mem_cons_of_mem _ hd))
    by_cases hx : x ∈ ts
    · refine ⟨ts, h1, fun d => ?_⟩
      rw [List.mem_cons, ← h2]
      exact ⟨.inr, fun h => h.elim (fun e => e ▸ hx) id⟩
    · have okt : ∀ d ∈ ts, ∀ u ∈ d, u < 256 := fun d hd => ok d (List.mem_cons_of_mem _ ((h2 d).1 hd))
      refine ⟨_, h1.ins (x := x) (n := (ts.takeWhile fun y => decide (bytesOf y < bytesOf x)).length) okt (ok x (by simp)) (fun i y hi hy => of_decide_eq_true (takeWhile_lt ts i y hi hy)) (fun y hy => ⟨fun h => ?_, fun e => hx (e ▸ List.mem_of_getElem? hy)⟩), fun d => ?_⟩
      · have := takeWhile_stop ts y hy
        rw [decide_eq_true h] at this; cases this
      · rw [mem_ins, List.mem_cons, h2]
/-- Values, of a place that is, or of one that is none. -/
theorem both_vals (w0 w : World) (C H L R X M : Nat) (S : Cr) (p : Int) (h : Pl w0 w C H L R X M S) :
    ∃ vs : List (List Nat), vs.length ≤ 2199027449858 ∧ (∀ d ∈ vs, ∀ u ∈ d, u < 256) ∧
      (Calls Try.prog 48 #[.pointer (some ⟨R, 0, none⟩), .int .i64 p] w fun e w' => ∃ v, e = .returned v ∧ StrsIs w' w.heap.size v vs ∧ Below w.heap.size w w') ∧
      ∀ w1, Below w.heap.size w w1 → Calls Try.prog 19 #[.pointer (some ⟨C, 0, none⟩), .int .i64 p] w1 fun e w' => ∃ Z, e = .returned (.func (.func 59) #[] #[.pointer (some ⟨Z, 0, none⟩)]) ∧ w1.heap.size ≤ Z ∧ ValsAt w' w1.heap.size Z vs ∧ Below w1.heap.size w1 w' := by
  obtain ⟨u3, u4, hr⟩ := h.rf
  by_cases hin : 0 ≤ p ∧ p < (S.n : Int)
  · obtain ⟨q, rfl⟩ := Int.eq_ofNat_of_zero_le hin.1
    have hq : q < S.n := by omega
    have hok : ∀ d ∈ S.vals q (S.groups.length + 1), ∀ u ∈ d, u < 256 := fun d hd => by
      unfold Cr.vals at hd
      obtain ⟨k, _, hd⟩ := List.mem_flatMap.1 hd
      exact (rf_level_ok hr k hq d ((mem_atL S k q d).2 hd)).2
    obtain ⟨vs, hs, hm⟩ := sorted_ex _ hok
    have hvo : ∀ d ∈ vs, ∀ u ∈ d, u < 256 := fun d hd => hok d ((hm d).1 hd)
    have hvl := vals_len S q 1048576 1048576 hr.few.2.1 hr.few.2.2 (S.groups.length + 1)
    have hg := hr.few.1
    have hvl2 : (S.vals q (S.groups.length + 1)).length ≤ 2199027449858 := by
      have : (S.groups.length + 1) * (2 + 1048576 + 1048576) ≤ 1048577 * (2 + 1048576 + 1048576) := Nat.mul_le_mul_right _ (by omega)
      omega
    have hl : vs.length ≤ 2199027449858 := Nat.le_trans (nodup_le hs.1 (fun d hd => (hm d).1 hd)) hvl2
    refine ⟨vs, hl, hvo, ?_, fun w1 hb1 => ?_⟩
    · refine (rfValues_in _ R X M u3 u4 S q hq w hr).mono ?_
      rintro e w' ⟨v, ts, rfl, h1, h2, h3⟩
      have e : ts = vs := SortN.uniq h2.so hs (fun d hd => (h2.ok hr hq) d hd) (fun d => by rw [h2.mem d, hm d]; simp)
      rw [e] at h1
      exact ⟨v, rfl, h1, h3⟩
    · obtain ⟨v4, v5, hc⟩ := (h.later hb1).cr
      refine (Values_in _ C H L v4 v5 S q hq (by omega) w1 hc).mono ?_
      rintro e w' ⟨Z, us, rfl, hZ, hv, hn, hmu, hb⟩
      have e : us = vs := SortN.uniq hn hs (fun d hd => hok d ((hmu d).1 hd)) (fun d => by rw [hmu d, hm d])
      rw [e] at hv
      exact ⟨Z, rfl, hZ, hv, hb⟩
  · refine ⟨[], by simp, by simp, ?_, fun w1 hb1 => ?_⟩
    · refine (rfValues_out _ R X M u3 u4 S p hin w hr).mono ?_
      rintro e w' ⟨rfl, rfl⟩
      exact ⟨_, rfl, World.ownsRow_nil _ _ _ _, Below.refl _ _⟩
    · obtain ⟨v4, v5, hc⟩ := (h.later hb1).cr
      exact Values_out _ C H L v4 v5 S p hin w1 hc
set_option maxRecDepth 100000 in
set_option maxHeartbeats 8000000 in
theorem looks_any (w0 w : World) (C H L R X M : Nat) (S : Cr) (h : Pl w0 w C H L R X M S) (p : Int) (A : Option Addr) (c : Nat) (ds : List (List Nat)) (hr : RdsAt w A ds) (hl : ds.length ≤ 1048576) (hb : ∀ d ∈ ds, ∀ u ∈ d, u < 256) :
    Calls Try.prog 30 #[.pointer (some ⟨C, 0, none⟩), .pointer (some ⟨R, 0, none⟩), .int .i64 p, .slice A ds.length c] w fun e w' => e = .returned (.bool true) ∧ Below w.heap.size w w' := by
  obtain ⟨Rb, hRb⟩ : ∃ R, R = w.heap.size := ⟨_, rfl⟩
  obtain ⟨w1, hw1⟩ : ∃ w1, w1 = w.alloc (.cells #[.bool false] 4) := ⟨_, rfl⟩
  have HB1 : Hid (Below w.heap.size w w1) := by unfold Hid; rw [hw1]; (repeat (first | (with_reducible refine Below.drew ?_) | (with_reducible refine below_drewN0 ?_ _) | ((with_reducible refine Below.setCell ?_ ?_ _); rotate_left; focus (first | omega | (simp; done) | (simp; omega) | (simp at *; omega))) | ((with_reducible refine Below.alloc ?_ ?_ _); rotate_left; focus (first | omega | (simp; done) | (simp; omega) | (simp at *; omega))) | (with_reducible exact Below.refl _ _)))
  have HR1 : Hid (Row w1 Rb 4 #[.bool false]) := by unfold Hid; rw [hw1, hRb]; exact Row.fresh _ _ _
  have HW1 := Lib.hid hw1
  have HE := Lib.hid hRb
  have HP1 := Lib.hid (h.later HB1.out)
  have HRd : Hid (∀ wx, Below w1.heap.size w1 wx → RdsAt wx A ds) := fun wx hbx => hr.keep (keep_below (HB1.out.trans (hbx.mono HB1.out.size)))
  have HBy := Lib.hid hb
  obtain ⟨m, hm⟩ : ∃ m, m = ds.length := ⟨_, rfl⟩
  have HM := Lib.hid hm
  rw [← hm] at hl ⊢
  obtain ⟨gl, hgl⟩ : ∃ g, g = S.groups.length := ⟨_, rfl⟩
  have HGl := Lib.hid hgl
  have HX : Hid (∃ A3 c3, ∀ wx, Below w1.heap.size w1 wx → wx.cell? ⟨R, 3, none⟩ = some (.slice A3 gl c3)) := by
    obtain ⟨u3, u4, h2⟩ := HP1.out.rf
    obtain ⟨vs, ho, _⟩ := h2.grs
    obtain ⟨A3, c3, rfl, _, _⟩ := own_shape ho
    exact ⟨A3, c3, fun wx hbx => by rw [hgl]; exact (h2.below hbx).cells.2.2.2.1⟩
  obtain ⟨A3, c3, hx⟩ := HX.out
  have hgl20 : gl ≤ 1048576 := by
    obtain ⟨u3, u4, h2⟩ := HP1.out.rf
    rw [hgl]; exact h2.few.1
  clear h hr hb hw1 hRb hm hgl HX
  refine (callsIn_wide (n := 9)).1 (callsIn_of_wp_marks Try.func30 rfl trivial ?_ rfl)
  simp only [Try.ntmps30, List.size_toArray, List.length_cons, List.length_nil, Nat.reduceAdd, Nat.reduceSub, Array.replicate_succ, Array.replicate_zero, List.push_toArray, List.append_toArray, List.nil_append, List.cons_append]
  refine wpIn_wide.2 ?_
  go_wp2_with fail
  rw [← HE.out, ← HW1.out]
  have hmx : Try.prog.follows .mixedOrders = true := by kernel_rfl
  have hS : ∃ t : Later w1, w1.drew = t.u := ⟨⟨_, (Below.refl _ _).drew⟩, rfl⟩
  have k3 : ∀ t : Later w1, t.u.cell? ⟨R, 3, none⟩ = some (.slice A3 gl c3) := fun t => hx t.u t.h
  clear hx
  refine wp_region_noPanic ?_
  refine region_treeW (fun u => ∃ t : Later w1, u = t.u) (Tn.takes [0, 1, 4, 5] (.one 2 (.one 3 (.one 6 (.take 7 (.take 8 (.takes [9, 11, 12, 13, 14, 15, 16] (.one 10 (.take 17 (.take 18 .nil)))))))))) hmx (by kernel_rfl) (fun _ _ _ _ _ h => h) hS ?_
  simp only [Tn.takes]
  (repeat ((with_reducible refine wpTree_take (by with_unfolding_all exact rfl) ?_); (with_reducible (show wpQuiet _ _ _ _ (_ :: _) _)); go_big_quiet_step (fail); (with_reducible refine wpQuiet_nil ?_)))
  have HRa := Lib.hid (reader_any A m c w1.drew)
  (with_reducible refine wpTree_one (by with_unfolding_all exact rfl) ?_)
  gi_wp2_with fail
  refine ((callsIn_wide (n := 8)).2 HRa.out).mono ?_
  rintro e wb ⟨rfl, hwb⟩
  have HBb : Hid (Below w1.heap.size w1 wb) := by unfold Hid; rw [hwb]; (repeat (first | (with_reducible refine Below.drew ?_) | (with_reducible refine below_drewN0 ?_ _) | ((with_reducible refine Below.setCell ?_ ?_ _); rotate_left; focus (first | omega | (simp; done) | (simp; omega) | (simp at *; omega))) | ((with_reducible refine Below.alloc ?_ ?_ _); rotate_left; focus (first | omega | (simp; done) | (simp; omega) | (simp at *; omega))) | (with_reducible exact Below.refl _ _)))
  have HRw : Hid (Row wb w1.heap.size 37 #[.slice A m c]) := by unfold Hid; rw [hwb]; exact Row.fresh _ _ _
  obtain ⟨x4, x5, hc⟩ := (HP1.out.later HBb.out).cr
  obtain ⟨rd, hrd⟩ : ∃ rd, rd = rdOf ds := ⟨_, rfl⟩
  have hMy := May_any w0.heap.size C H L x4 x5 S [] _ _ rd wb (by
    rw [hrd]
    refine reader_ok w1.heap.size c S.n (by have := hc.n; omega) A ds (by rw [← HM.out]; exact hl) HBy.out [] wb (fun V hV => ⟨?_, ?_⟩)
    · rw [← HM.out]; exact (hV.row HRw.out (by simp)).cell 0
    · exact (HRd.out wb HBb.out).keep (fun a v h => hV.cell h (by simp))) hc
  obtain ⟨bb, hbb⟩ : ∃ b, S.may rd = b := ⟨_, rfl⟩
  have HBB := Lib.hid hbb
  have HRD := Lib.hid hrd
  rw [hbb] at hMy
  have HMy := Lib.hid hMy
  clear hMy hwb hc hbb hrd
  gi_wp2_with fail
  (with_reducible refine outQ_normal ?_ ?_); exact ⟨⟨wb, HBb.out⟩, rfl⟩
  (with_reducible refine wpTree_one (by with_unfolding_all exact rfl) ?_)
  gi_wp2_with fail
  refine ((callsIn_wide (n := 8)).2 HMy.out).mono ?_
  rintro e wc ⟨rfl, hb⟩
  have HBc : Hid (Below w1.heap.size w1 wc) := HBb.out.trans (hb.mono HBb.out.size)
  obtain ⟨u3, u4, h2⟩ := (HP1.out.later HBc.out).rf
  have hMr := rfMay_any w0.heap.size R X M u3 u4 S A c ds wc h2 (HRd.out wc HBc.out) (by rw [← HM.out]; exact hl) HBy.out
  rw [← HM.out, ← HRD.out, HBB.out] at hMr
  have HMr := Lib.hid hMr
  clear hMr h2 hb HMy
  gi_wp2_with fail
  (with_reducible refine outQ_normal ?_ ?_); exact ⟨⟨wc, HBc.out⟩, rfl⟩
  (with_reducible refine wpTree_one (by with_unfolding_all exact rfl) ?_)
  gi_wp2_with fail
  refine ((callsIn_wide (n := 8)).2 HMr.out).mono ?_
  rintro e wd ⟨rfl, hb⟩
  have HBd : Hid (Below w1.heap.size w1 wd) := HBc.out.trans (hb.mono HBc.out.size)
  obtain ⟨x4, x5, hc⟩ := (HP1.out.later HBd.out).cr
  have hLe := Levels_any hc
  rw [← HGl.out] at hLe
  have HLe := Lib.hid hLe
  clear hb HMr hc hLe
  gi_wp2_with fail
  (with_reducible refine outQ_normal ?_ ?_); exact ⟨⟨wd, HBd.out⟩, rfl⟩
  (repeat ((with_reducible refine wpTree_take (by with_unfolding_all exact rfl) ?_); (with_reducible (show wpQuiet _ _ _ _ (_ :: _) _)); go_big_quiet_step (fail); (with_reducible refine wpQuiet_nil ?_)))
  (with_reducible refine wpTree_one (by with_unfolding_all exact rfl) ?_)
  gi_wp2_with fail
  refine ((callsIn_wide (n := 8)).2 HLe.out).mono ?_
  rintro e we ⟨rfl, rfl⟩
  clear HLe
  gi_wp2_with fail
  (with_reducible refine outQ_normal ?_ ?_); exact ⟨⟨wd, HBd.out⟩, rfl⟩
  (repeat ((with_reducible refine wpTree_take (by with_unfolding_all exact rfl) ?_); (with_reducible (show wpQuiet _ _ _ _ (_ :: _) _)); go_big_quiet_step (fail); (with_reducible refine wpQuiet_nil ?_)))
  with_reducible refine wpTree_nil ?_
  refine NoPanic.normal ?_
  clear hmx hS k3 HRa
  obtain ⟨vs, hvl, hvo, hv1, hv2⟩ := both_vals w0 wd C H L R X M S p (HP1.out.later HBd.out)
  have HV1 := Lib.hid hv1
  have HV2 := Lib.hid hv2
  have HVo := Lib.hid hvo
  obtain ⟨n, hn⟩ : ∃ n, n = vs.length := ⟨_, rfl⟩
  have HN := Lib.hid hn
  rw [← hn] at hvl
  clear hv1 hv2 hvo hn
  go_wp2_with fail
  refine HV1.out.mono ?_
  rintro e w3 ⟨v, rfl, hs, hb⟩
  obtain ⟨Av, cv, rfl, _, _⟩ := hs.shape
  have HB3 : Hid (Below w1.heap.size w1 w3) := HBd.out.trans (hb.mono HBd.out.size)
  have HS3 := Lib.hid (hs.mono HBd.out.size)
  obtain ⟨Wt, hWt⟩ : ∃ W, W = w3.heap.size := ⟨_, rfl⟩
  obtain ⟨Nb, hNb⟩ : ∃ N, N = w3.heap.size + 1 := ⟨_, rfl⟩
  obtain ⟨w4, hw4⟩ : ∃ w4, w4 = (w3.alloc (.cells #[.slice Av vs.length cv] 81)).alloc (.cells #[.int .i64 0] 3) := ⟨_, rfl⟩
  have HB4 : Hid (Below w3.heap.size w3 w4) := by unfold Hid; rw [hw4]; (repeat (first | (with_reducible refine Below.drew ?_) | (with_reducible refine below_drewN0 ?_ _) | ((with_reducible refine Below.setCell ?_ ?_ _); rotate_left; focus (first | omega | (simp; done) | (simp; omega) | (simp at *; omega))) | ((with_reducible refine Below.alloc ?_ ?_ _); rotate_left; focus (first | omega | (simp; done) | (simp; omega) | (simp at *; omega))) | (with_reducible exact Below.refl _ _)))
  have HWt : Hid (Row w4 Wt 81 #[.slice Av n cv]) := by unfold Hid; rw [hw4, hWt, HN.out]; exact (Row.fresh _ _ _).alloc _
  have HNb : Hid (Row w4 Nb 3 #[.int .i64 0]) := by
    unfold Hid; rw [hw4, hNb]
    have := Row.fresh (w3.alloc (.cells #[.slice Av vs.length cv] 81)) 3 #[.int .i64 0]
    rw [World.size_alloc] at this; exact this
  have HE4 := Lib.hid (And.intro hw4 (And.intro hWt hNb))
  have HS4 := Lib.hid (HS3.out.below HB4.out)
  have HB14 : Hid (Below w1.heap.size w1 w4) := HB3.out.trans (HB4.out.mono HB3.out.size)
  have HVc := Lib.hid (HV2.out w4 (by have h1 : Below wd.heap.size wd w3 := hb; exact h1.trans (HB4.out.mono h1.size)))
  clear hs hb HV1 HV2 hw4 hWt hNb
  rw [HN.out] at hvl
  go_wp2_with fail
  rw [← HE4.out.2.2, ← HE4.out.2.1, ← HE4.out.1]
  refine HVc.out.mono ?_
  rintro e w5 ⟨Z, rfl, hZ, hv, hb⟩
  have HB5 : Hid (Below w1.heap.size w1 w5) := HB14.out.trans (hb.mono HB14.out.size)
  have HB05 : Hid (Below w.heap.size w w5) := HB1.out.trans (HB5.out.mono HB1.out.size)
  have HR5 := Lib.hid (HR1.out.below HB5.out HR1.out.lt)
  have HWt5 := Lib.hid (HWt.out.below hb HWt.out.lt)
  have HNb5 := Lib.hid (HNb.out.below hb HNb.out.lt)
  have HS5 := Lib.hid (HS4.out.below hb)
  obtain ⟨Ay, cy, hvs⟩ := valsAt_vl (T := [Nb, Rb]) hv (by
    have h1 := HR1.out.lt
    have h2 := HNb.out.lt
    have h3 := HB14.out.size
    simp; omega) (fun g hg cs hr => by
    simp only [List.mem_cons, List.not_mem_nil, or_false] at hg
    rcases hg with rfl | rfl
    · exact Row.ne_type hr HNb5.out (by decide) rfl
    · exact Row.ne_type hr HR5.out (by decide) rfl)
  have HSeq := Lib.hid (vals1_own 8 (by omega) Z cy Ay vs hv.1 w5 (Kp := KpC [Nb, Rb]) (fun _ _ h => KpC.of_below h) (fun h h' => KpC.trans h h') hvs)
  have HLt : Hid (Nb < w5.heap.size ∧ Rb < w5.heap.size ∧ Wt < w5.heap.size ∧ w.heap.size = Rb ∧ Nb = Wt + 1 ∧ Rb < Wt ∧ Wt = w3.heap.size ∧ w1.heap.size ≤ w3.heap.size) := ⟨HNb5.out.lt, HR5.out.lt, HWt5.out.lt, HE.out.symm, by have := HE4.out.2; omega, by have h1 := HR1.out.lt; have h2 := HB3.out.size; have h3 := HE4.out.2.1; omega, HE4.out.2.1, HB3.out.size⟩
  have hgW : Hid (∀ g, Av = some g → g.block ≠ Nb ∧ g.block ≠ Rb ∧ g.block ≠ Wt) := fun g hg => by
    rcases HS5.out.2 with ⟨e1, _⟩ | ⟨g', cap, cur, e1, _, h5, _⟩
    · injection e1 with e1 _ _; rw [e1] at hg; cases hg
    · injection e1 with e1 _ _
      rw [e1] at hg
      injection hg with hg
      subst hg
      exact ⟨Row.ne_type h5 HNb5.out (by decide), Row.ne_type h5 HR5.out (by decide), Row.ne_type h5 HWt5.out (by decide)⟩
  clear hZ hv hb hvs HVc HR1 HWt HNb HS4 HS3 HE4
  go_wp2_with fail
  refine (wpIn_wide (n := 9)).1 ?_
  apply wpIn_range_ownA rfl (by omega) (gf := 59) (lb := #[.pointer (some ⟨Z, 0, none⟩)]) rfl trivial (enters_of Try.func59 (by kernel_rfl) rfl)
    (hseq := HSeq.out)
    (hKr := fun V => KpC.of_below (Below.refl _ _)) (hKt := fun h h' => KpC.trans h h') (hKb := fun V l r o' _ hl => KpC.put hl) (hb0 := Below.refl _ _) (hps := fun _ => rfl)
    (I := fun pre V => (∃ k : Nat, k ≤ pre.length ∧ (pre <+: vs → k = pre.length) ∧ Row V Nb 3 #[.int .i64 k]) ∧ Row V Wt 81 #[.slice Av n cv] ∧ StrsIs V w1.heap.size (.slice Av vs.length cv) vs ∧ Row V Rb 4 #[.bool false] ∧ Below w.heap.size w V) (Ix := fun _ pre _ => ¬ pre <+: vs)
  case hI =>
    rintro s V V' row ⟨⟨k, hk1, hk2, h1⟩, h2, h3, h4, h5⟩ hg hr
    refine ⟨⟨k, hk1, hk2, Row.kept h1 hg (fun r e => (hr r e).2)⟩, Row.kept h2 hg (fun r e => (hr r e).2), h3.kept hg ?_, Row.kept h4 hg (fun r e => (hr r e).2), h5.grown hg h5.size (fun r e => by have := (hr r e).1; have := HB05.out.size; omega)⟩
    rcases h3.2 with ⟨e1, _⟩ | ⟨g, cap, cur, e1, _, h6, _⟩
    · rw [e1]; simp [Value.ownBlock]
    · right; rw [e1]
      intro e
      obtain ⟨_, o, ho, hn⟩ := hr g (by simpa [Value.ownBlock] using e.symm)
      rw [h6] at ho; injection ho with ho; subst ho; cases hn
  case hIx => exact fun _ _ _ _ _ hs _ _ => hs
  case h0 => exact ⟨⟨0, Nat.le_refl _, fun _ => rfl, HNb5.out⟩, HWt5.out, HS5.out, HR5.out, HB05.out⟩
  case hassign =>
    intro l pre x V hi _ _
    gi_wp2
    exact ⟨rfl, trivial⟩
  case hbody =>
    rintro l pre x V ⟨⟨k, hk1, hk2, h1⟩, h2, h3, h4, h5⟩ hxm hpl
    have hkn : k < n := by rw [HN.out]; omega
    have hkb : k ≤ 2199027449858 := by have := HN.out; omega
    obtain ⟨y, hy⟩ : ∃ y, vs[k]? = some y := ⟨_, List.getElem?_eq_getElem (by omega)⟩
    obtain ⟨g, e, q0⟩ := h3.at.2 k y hy
    subst e
    have hpx : pre ++ [x] <+: vs → pre <+: vs ∧ vs[pre.length]? = some x := fun hp => ⟨(List.prefix_append pre [x]).trans hp, by
      obtain ⟨r, hr⟩ := hp
      rw [← hr]; simp⟩
    have c1 := h1.cell 0
    have c2 := h2.cell 0
    have f1 := h1.frozen 0
    simp only [List.getElem?_toArray, List.getElem?_cons_zero, List.getElem?_cons_succ] at c1 c2
    have hlt := HLt.out
    have hgn := hgW.out _ rfl
    simp only at hgn
    by_cases hyx : y = x
    · have HF : Hid (KeepsFrom w5.heap.size V (V.setCell ⟨Nb, 0, none⟩ (.int .i64 (k + 1 : Nat))) ∧ KpC [Nb, Rb] V (V.setCell ⟨Nb, 0, none⟩ (.int .i64 (k + 1 : Nat))) ∧ (∃ j : Nat, j ≤ (pre ++ [x]).length ∧ (pre ++ [x] <+: vs → j = (pre ++ [x]).length) ∧ Row (V.setCell ⟨Nb, 0, none⟩ (.int .i64 (k + 1 : Nat))) Nb 3 #[.int .i64 j]) ∧ Row (V.setCell ⟨Nb, 0, none⟩ (.int .i64 (k + 1 : Nat))) Wt 81 #[.slice (some ⟨g, 0, none⟩) n cv] ∧ StrsIs (V.setCell ⟨Nb, 0, none⟩ (.int .i64 (k + 1 : Nat))) w1.heap.size (.slice (some ⟨g, 0, none⟩) vs.length cv) vs ∧ Row (V.setCell ⟨Nb, 0, none⟩ (.int .i64 (k + 1 : Nat))) Rb 4 #[.bool false] ∧ Below w.heap.size w (V.setCell ⟨Nb, 0, none⟩ (.int .i64 (k + 1 : Nat)))) := by
        have ht : Turns V (V.setCell ⟨Nb, 0, none⟩ (.int .i64 (k + 1 : Nat))) [Nb] := (Turns.refl V [Nb]).setCell (by simp) _
        refine ⟨⟨ht.size, fun i o hk0 hi1 _ => (ht.block i (Array.getElem?_eq_some_iff.1 hi1).1 (by simp; omega)).trans hi1⟩, KpC.of_turns ht (fun z hz => by rw [List.mem_singleton.1 hz]; simp), ⟨k + 1, by simp; exact hk1, fun hp => ?_, by simpa using h1.put 0 (.int .i64 (k + 1 : Nat))⟩, ht.row h2 (by simp; omega), ht.own h3 (fun i hi => ?_), ht.row h4 (by simp; omega), ht.below h5 h5.size (by simp; omega)⟩
        · rw [hk2 (hpx hp).1]; simp
        · simp [Value.ownBlock] at hi
          subst hi
          simp; omega
      rw [show ((k + 1 : Nat) : Int) = (k : Int) + 1 by omega] at HF
      subst hyx
      clear h1 h2 h3 h4 h5 hxm hpl hpx hk2 hy hlt hgn hk1
      gi_wp2
      exact HF.out
    · have hne := rftext_ne (fun e => hyx (textOf_inj (HVo.out y (List.mem_of_getElem? hy)) (HVo.out x hxm) e))
      have c3 := h4.cell 0
      have f3 := h4.frozen 0
      simp only [List.getElem?_toArray, List.getElem?_cons_zero, List.getElem?_cons_succ] at c3
      have HF : Hid (KeepsFrom w5.heap.size V (V.setCell ⟨Rb, 0, none⟩ (.bool false)) ∧ KpC [Nb, Rb] V (V.setCell ⟨Rb, 0, none⟩ (.bool false)) ∧ ¬ pre ++ [x] <+: vs) := by
        have ht : Turns V (V.setCell ⟨Rb, 0, none⟩ (.bool false)) [Rb] := (Turns.refl V [Rb]).setCell (by simp) _
        refine ⟨⟨ht.size, fun i o hk0 hi1 _ => (ht.block i (Array.getElem?_eq_some_iff.1 hi1).1 (by simp; omega)).trans hi1⟩, KpC.of_turns ht (fun z hz => by rw [List.mem_singleton.1 hz]; simp), fun hp => hyx ?_⟩
        have h6 := hk2 (hpx hp).1
        have h7 := (hpx hp).2
        rw [← h6, hy] at h7
        injection h7
      clear h1 h2 h3 h4 h5 hxm hpl hpx hk2 hy hlt hgn hk1
      gi_wp2
      exact HF.out
  case hstop =>
    rintro D c pre V _ ⟨k, _, hk⟩ h _
    exact absurd (hk ▸ List.take_prefix k vs) h
  case hdone =>
    rintro D1 ys V hD1 rfl ⟨⟨k, hk1, hk2, h1⟩, h2, h3, h4, h5⟩ hDf
    obtain rfl := hk2 (List.prefix_refl _)
    have c1 := h1.cell 0
    have c2 := h2.cell 0
    have c3 := h4.cell 0
    have f3 := h4.frozen 0
    simp only [List.getElem?_toArray, List.getElem?_cons_zero, List.getElem?_cons_succ] at c1 c2 c3
    rw [← HN.out] at c1
    have HF : Hid (Row (V.setCell ⟨Rb, 0, none⟩ (.bool true)) Rb 4 #[.bool true] ∧ Below w.heap.size w (V.setCell ⟨Rb, 0, none⟩ (.bool true))) :=
      ⟨by simpa using h4.put 0 (.bool true), h5.setCell (p := ⟨Rb, 0, none⟩) (by show w.heap.size ≤ Rb; have := HLt.out; omega) _⟩
    have HK : Hid (MarksIn w.heap.size (V.setCell ⟨Rb, 0, none⟩ (.bool true)) [{ target := .collected D1, args := #[] }]) :=
      (show MarksIn w.heap.size V [{ target := .collected D1, args := #[] }] from ⟨⟨D1, rfl, by have := HB05.out.size; omega, hDf, by simp⟩, trivial⟩).mono fun D _ _ h0 => (KeepsOthers.setCell _ _ _).same _ _ h0 rfl
    clear h1 h2 h3 h4 h5 hDf hk1 hk2
    go_wp2
    exact leaves_marks (B := w.heap.size) (Rb := fun V => Row V Rb 4 #[.bool true] ∧ Below w.heap.size w V) (fun V hV => ⟨_, looks_results _ V Rb (.bool true) rfl (hV.1.cell 0), rfl, hV.2⟩) (fun V D hD hV h0 => (rb_own w Rb (.bool true)).putObj (s := ()) _ hV hD h0 rfl) _ _ HK.out HF.out
end Go.Proofs.Ytomigaldomiefaa
