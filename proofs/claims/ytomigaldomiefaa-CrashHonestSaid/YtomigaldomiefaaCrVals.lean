/- crash: Values. -/
import Derived.Test.YtomigaldomiefaaCrValsA
import Derived.Test.YtomigaldomiefaaCrAt
import Derived.Test.YtomigaldomiefaaCrSet
namespace Go.Proofs.Ytomigaldomiefaa
open Go.RowKit Go.Shelf Go.MapKept Go.ChangeMaps
attribute [local go_sem] Oper.semAt_some
attribute [local simp, local go_sem] wide_fn
set_option linter.unusedVariables false
set_option linter.unusedSimpArgs false
/-- What a place may have at the levels before j. -/
def Cr.vals (S : Cr) (p j : Nat) : List (List Nat) := (List.range j).flatMap fun k => S.level k p
theorem vals_step (S : Cr) (p j : Nat) : S.vals p (j + 1) = S.vals p j ++ S.level j p := by
  unfold Cr.vals
  rw [List.range_succ, List.flatMap_append, List.flatMap_singleton]
theorem level_len (S : Cr) (k p a b : Nat) (hg : ∀ g ∈ S.groups, g.length ≤ a) (hf : S.fly.length ≤ b) : (S.level k p).length ≤ 2 + a + b := by
  have h2 : (S.groups.getD k []).length ≤ a := by
    rw [List.getD_eq_getElem?_getD]
    cases hk : S.groups[k]? with
    | none => simp
    | some g => exact hg g (List.mem_of_getElem? hk)
  unfold Cr.level
  have h3 := ofP_le S.fly p
  have h4 := ofP_le (S.groups.getD k []) p
  have h5 : (if S.loose p && (S.ahead k p).isEmpty then [zs S.sz] else []).length ≤ 1 := by split <;> simp
  simp only [List.length_cons, List.length_append]
  omega
theorem vals_len (S : Cr) (p a b : Nat) (hg : ∀ g ∈ S.groups, g.length ≤ a) (hf : S.fly.length ≤ b) : ∀ j, (S.vals p j).length ≤ j * (2 + a + b)
  | 0 => by simp [Cr.vals]
  | j + 1 => by
    have h1 := vals_len S p a b hg hf j
    have h2 := level_len S j p a b hg hf
    rw [vals_step, List.length_append, Nat.add_mul]
    omega
theorem CrIs.vals_ok {w : World} {B C H L : Nat} {v4 v5 : Value} {S : Cr} (h : CrIs w B C H L v4 v5 S) (p j : Nat) : ∀ d ∈ S.vals p j, OkT d := fun d hd => by
  unfold Cr.vals at hd
  obtain ⟨k, _, hd⟩ := List.mem_flatMap.1 hd
  have h1 := Cr.level_ok h k p d hd
  exact ⟨by rw [h1.1]; exact h.sz.2, h1.2⟩
/-- Texts, as slices.Values' closure finds them. -/
def ValsAt (W : World) (B Z : Nat) (vs : List (List Nat)) : Prop := vs.length ≤ 4611686018427387904 ∧ ∃ v, Row W Z 81 #[v] ∧ W.ownsRow B 9 1 v vs.length (vs.map fun d => .string (textOf d))
theorem valsAt_own (w : World) (B Z : Nat) (vs : List (List Nat)) (hB : w.heap.size ≤ B) : OwnFrom B (fun (_ : Unit) V => ValsAt V w.heap.size Z vs ∧ Below w.heap.size w V) := fun _ W W' row ⟨⟨h1, v, h2, h3⟩, h4⟩ hg hr =>
  ⟨⟨h1, v, Row.kept h2 hg (fun r e => (hr r e).2), h3.kept hg (by
    rcases h3.2 with ⟨e1, _⟩ | ⟨g, cap, cur, e1, _, h5, _⟩
    · rw [e1]; simp [Value.ownBlock]
    · right; rw [e1]
      intro e
      obtain ⟨_, o, ho, hn⟩ := hr g (by simpa [Value.ownBlock] using e.symm)
      rw [h5] at ho; injection ho with ho; subst ho; cases hn)⟩, h4.grown hg h4.size (fun r e => by have := (hr r e).1; omega)⟩
theorem vals_results (tmps : Array Value) (W : World) (u : Value) (h4 : tmps.getD 4 undef = u) : (results Try.f19 tmps).run Try.prog W = .ok u W := by
  simp at h4
  simp [results, Try.results19, go_sem, h4]
set_option maxRecDepth 100000 in
set_option maxHeartbeats 4000000 in
theorem Values_in (B C H L : Nat) (v4 v5 : Value) (S : Cr) (p : Nat) (hp : p < S.n) (hfew : (S.vals p (S.groups.length + 1)).length ≤ 8796093022208) (w : World) (h : CrIs w B C H L v4 v5 S) :
    Calls Try.prog 19 #[.pointer (some ⟨C, 0, none⟩), .int .i64 p] w fun e w' => ∃ (Z : Nat) (vs : List (List Nat)), e = .returned (.func (.func 59) #[] #[.pointer (some ⟨Z, 0, none⟩)]) ∧ w.heap.size ≤ Z ∧ ValsAt w' w.heap.size Z vs ∧
      vs.Nodup ∧ (∀ d, d ∈ vs ↔ d ∈ S.vals p (S.groups.length + 1)) ∧ Below w.heap.size w w' := by
  obtain ⟨Q, hQ⟩ : ∃ Q, Q = w.heap.size := ⟨_, rfl⟩
  obtain ⟨M, hM⟩ : ∃ M, M = Q + 1 := ⟨_, rfl⟩
  obtain ⟨w1, hw1⟩ : ∃ w1, w1 = (w.alloc (.map #[] 0)).alloc (.cells #[.map (some Q)] 78) := ⟨_, rfl⟩
  have HB1 : Hid (Below w.heap.size w w1) := by unfold Hid; rw [hw1]; (repeat (first | (with_reducible refine Below.drew ?_) | (with_reducible refine below_drewN0 ?_ _) | ((with_reducible refine Below.setCell ?_ ?_ _); rotate_left; focus (first | omega | (simp; done) | (simp; omega) | (simp at *; omega))) | ((with_reducible refine Below.alloc ?_ ?_ _); rotate_left; focus (first | omega | (simp; done) | (simp; omega) | (simp at *; omega))) | (with_reducible exact Below.refl _ _)))
  have HM1 : Hid (Row w1 M 78 #[.map (some Q)]) := by
    unfold Hid; rw [hw1, hM, hQ]
    have := Row.fresh (w.alloc (.map #[] 0)) 78 #[.map (some w.heap.size)]
    rw [World.size_alloc] at this; exact this
  have HQ1 : Hid (SeenS w1 Q []) := by
    unfold Hid; rw [hw1, hQ]
    exact (SeenS.fresh w).turns (Turns.of_below ((Below.refl _ _).alloc (Nat.le_refl _) _) []) (by simp)
  have HC0 := Lib.hid h
  have HW1 := Lib.hid hw1
  have HQe := Lib.hid hQ
  have HMe := Lib.hid hM
  have HTh := Lib.hid (there_any C S.n p w1 ((h.below HB1.out).row.cell 0))
  have HLe := Lib.hid (Levels_any (h.below HB1.out))
  have HP := Lib.hid hp
  have HVf := Lib.hid hfew
  obtain ⟨vs, hv1, hv2⟩ := h.grs
  have HV : Hid (w.ownsRow B 23 1 v4 S.groups.length vs ∧ ∀ (i : Nat) (g : List Wr), S.groups[i]? = some g → ∃ u, vs[i]? = some u ∧ WrsIs w B u g) := ⟨hv1, hv2⟩
  have hdec : decide (0 ≤ (p : Int) ∧ (p : Int) < (S.n : Int)) = true := decide_eq_true (by omega)
  rw [hdec] at HTh
  obtain ⟨G, hG⟩ : ∃ G, G = S.groups.length := ⟨_, rfl⟩
  rw [← hG] at HLe HVf ⊢
  have HG := Lib.hid hG
  have hg20 : G ≤ 1048576 := by rw [hG]; exact h.few.1
  clear h hw1 hQ hM hdec hG hp hv1 hv2 hfew
  refine (callsIn_wide (n := 9)).1 (callsIn_of_wp_marks Try.func19 rfl trivial ?_ rfl)
  simp only [Try.ntmps19, List.size_toArray, List.length_cons, List.length_nil, Nat.reduceAdd, Nat.reduceSub, Array.replicate_succ, Array.replicate_zero, List.push_toArray, List.append_toArray, List.nil_append, List.cons_append]
  refine wpIn_wide.2 ?_
  have hmm := @run_makeMap Try.prog
  go_wp2_with fail
  clear hmm
  rw [← HQe.out, ← HMe.out, ← HW1.out]
  refine HTh.out.mono ?_
  rintro e w2 ⟨rfl, rfl⟩
  go_wp2_with fail
  refine HLe.out.mono ?_
  rintro e w2 ⟨rfl, rfl⟩
  go_wp2_with fail
  have hC1 : ∀ V, KpC [Q] w1 V → CrIs V B C H L v4 v5 S := fun V hV => HC0.out.kpc ((KpC.of_below HB1.out).trans hV) (fun g hg => by rw [List.mem_singleton.1 hg, HQe.out]; exact Nat.le_refl _)
  have HC1 := Lib.hid hC1
  clear HTh HLe hC1
  refine wp_loop (fun a wr => ∃ (j : Nat) (v6 v15 v16 v17 v18 v19 v20 v24 : Value) (ds : List Deferred), a = { tmps := #[.pointer (some ⟨C, 0, none⟩), .int .i64 p, undef, undef, .nilFunc, .pointer (some ⟨M, 0, none⟩), v6, undef, .map (some Q), .pointer (some ⟨C, 0, none⟩), .int .i64 p, .bool true, .pointer (some ⟨C, 0, none⟩), .int .i64 ((G : Int) + 1), .int .i64 (j : Int), v15, v16, v17, v18, v19, v20, undef, undef, undef, v24, undef, undef, undef, undef], defers := ds } ∧ j ≤ G + 1 ∧ MarksIn w1.heap.size wr ds ∧ SeenS wr Q (S.vals p j) ∧ Row wr M 78 #[.map (some Q)] ∧ KpC [Q] w1 wr ∧ Below w.heap.size w wr) (fun a _ => G + 1 - (intOf (a.tmps.getD 14 undef)).toNat) ?start ?round
  case start => exact ⟨0, _, _, _, _, _, _, _, _, [], rfl, by omega, trivial, HQ1.out, HM1.out, KpC.of_below (Below.refl _ _), HB1.out⟩
  case round =>
    rintro a wr ⟨j, v6, v15, v16, v17, v18, v19, v20, v24, ds, rfl, hj, hMk, hSe, hRm, hKp, hB⟩
    have HMk := Lib.hid hMk
    have HSe := Lib.hid hSe
    have HRm := Lib.hid hRm
    have HKp := Lib.hid hKp
    have HB := Lib.hid hB
    clear hMk hSe hRm hKp hB
    by_cases hjk : j < G + 1
    · have HLv := Lib.hid (level_any C j p wr)
      go_wp2_with fail
      refine HLv.out.mono ?_
      rintro e w2 ⟨Z, rfl, hZ, z1, z2, z3, hb⟩
      have HB2 := Lib.hid hb
      have HZ1 := Lib.hid z1
      have HZ2 := Lib.hid z2
      have HZ3 := Lib.hid z3
      have HZ := Lib.hid hZ
      clear HLv hb z1 z2 z3 hZ
      go_wp2_with fail
      have HQw : Hid (Q < w1.heap.size ∧ M < w1.heap.size ∧ Q < M ∧ w1.heap.size ≤ wr.heap.size ∧ wr.heap.size ≤ w2.heap.size ∧ w.heap.size = Q) := ⟨HQ1.out.lt, HM1.out.lt, by have := HMe.out; omega, HKp.out.size, HB2.out.size, HQe.out.symm⟩
      have HKp2 : Hid (KpC [Q] w1 w2) := HKp.out.trans (KpC.of_below HB2.out)
      have HB02 : Hid (Below w.heap.size w w2) := HB.out.trans (HB2.out.mono HB.out.size)
      have HS2 : Hid (SeenS w2 Q (S.vals p j)) := HSe.out.turns (Turns.of_below HB2.out []) (by simp)
      have HRm2 := Lib.hid (HRm.out.below HB2.out HRm.out.lt)
      have HM2 : Hid (MarksIn w1.heap.size w2 ds) := HMk.out.mono fun D _ _ hD => (HB2.out.block D (Array.getElem?_eq_some_iff.1 hD).1).trans hD
      have HMl : Hid (∀ (d : Deferred), d ∈ ds → ∃ D, d = { target := .collected D, args := #[] } ∧ D < w2.heap.size) := marks_lt HM2.out
      have hLv : ∀ V, KpC [Q] w2 V → LvAt V B C H L Z (Z + 2) (Z + 1) v4 v5 vs S j p := fun V hV => by
        have hZ := HZ.out
        have hq := HQw.out
        have hn : ∀ i, Z + i ∉ [Q] := fun i hm => by have := List.mem_singleton.1 hm; omega
        exact lvAt_of HC0.out HV.out ((KpC.of_below HB1.out).trans (HKp2.out.trans hV)) (fun g hg => by rw [List.mem_singleton.1 hg]; omega) (hV.row HZ1.out (hn 0)) (hV.row HZ3.out (hn 2)) (hV.row HZ2.out (hn 1))
      have HSeq := Lib.hid (level1_own 8 (by omega) B C H L Z (Z + 2) (Z + 1) v4 v5 vs S j p (by rw [← HG.out]; omega) HP.out [Q] w2 (fun t ht => by have := HQw.out; rw [List.mem_singleton.1 ht]; omega) hLv)
      have HOkj : Hid (∀ x ∈ S.level j p, OkT x) := fun x hx => by
        have h1 := Cr.level_ok HC0.out j p x hx
        exact ⟨by rw [h1.1]; exact HC0.out.sz.2, h1.2⟩
      clear hLv HSe HRm HMk HKp HB
      refine (wpIn_wide (n := 9)).1 ?_
      apply wpIn_range_ownA rfl (by omega) (gf := 56) (lb := #[.pointer (some ⟨Z, 0, none⟩), .pointer (some ⟨Z + 2, 0, none⟩), .pointer (some ⟨Z + 1, 0, none⟩)]) rfl trivial (enters_of Try.func56 (by kernel_rfl) rfl)
        (hseq := HSeq.out)
        (hKr := fun V => KpC.of_below (Below.refl _ _)) (hKt := fun h h' => KpC.trans h h') (hKb := fun V l r o' _ hl => KpC.put hl) (hb0 := Below.refl _ _) (hps := fun _ => rfl)
        (I := fun pre V => (SeenS V Q (S.vals p j ++ pre) ∧ (∀ d ∈ pre, OkT d)) ∧ KpC [Q] w1 V ∧ Row V M 78 #[.map (some Q)] ∧ Below w.heap.size w V ∧ MarksIn w1.heap.size V ds) (Ix := fun _ _ _ => False)
      case hI =>
        rintro s V V' row ⟨⟨h1, h2⟩, h3, h4, h5, h6⟩ hg hr
        have hk : KpC [Q] w1 V' := ⟨Nat.le_trans h3.size hg.size, fun k o hn hk ho => by
          have h7 := h3.same k o hn hk ho
          exact (hg.block k (Array.getElem?_eq_some_iff.1 h7).1 (fun e => by have := (hr k e.symm).1; have := HQw.out; have := (Array.getElem?_eq_some_iff.1 hk).1; omega)).trans h7⟩
        refine ⟨⟨h1.block (hg.block Q h1.lt (fun e => by have := (hr Q e.symm).1; have := HQw.out; omega)), h2⟩, hk, Row.kept h4 hg (fun r e => (hr r e).2), h5.grown hg h5.size (fun r e => by have := (hr r e).1; have := HQw.out; omega), h6.mono fun D _ hm hD => ?_⟩
        obtain ⟨D', e, hlt⟩ := HMl.out _ hm
        obtain rfl : D = D' := by injection e with e _; injection e
        exact (hg.block D (Array.getElem?_eq_some_iff.1 hD).1 (fun e => by have := (hr D e.symm).1; omega)).trans hD
      case hIx => exact fun _ _ _ _ _ hs _ _ => hs
      case h0 => exact ⟨⟨by rw [List.append_nil]; exact HS2.out, by simp⟩, HKp2.out, HRm2.out, HB02.out, HM2.out⟩
      case hassign =>
        intro l pre x V hi _ _
        gi_wp2
        exact ⟨rfl, trivial⟩
      case hbody =>
        rintro l pre x V ⟨⟨h1, h2⟩, h3, h4, h5, h6⟩ hxm _
        have hokx : OkT x := HOkj.out x hxm
        obtain ⟨V', hup, hs', ht'⟩ := h1.set hokx
        have c1 := h4.cell 0
        simp only [List.getElem?_toArray, List.getElem?_cons_zero, List.getElem?_cons_succ] at c1
        have HF : Hid (KeepsFrom w2.heap.size V V' ∧ KpC [Q] V V' ∧ ((SeenS V' Q (S.vals p j ++ (pre ++ [x])) ∧ (∀ d ∈ pre ++ [x], OkT d)) ∧ KpC [Q] w1 V' ∧ Row V' M 78 #[.map (some Q)] ∧ Below w.heap.size w V' ∧ MarksIn w1.heap.size V' ds)) := by
          have hq := HQw.out
          have hk : KpC [Q] V V' := KpC.of_turns ht' (fun y hy => hy)
          refine ⟨⟨ht'.size, fun k o hk0 hk1 _ => (ht'.block k (Array.getElem?_eq_some_iff.1 hk1).1 (by simp; omega)).trans hk1⟩, hk, ⟨by rw [← List.append_assoc]; exact hs', fun d hd => ?_⟩, h3.trans hk, hk.row h4 (by simp; omega), ht'.below h5 h5.size (fun y hy => by rw [List.mem_singleton.1 hy]; omega), h6.mono fun D hD _ h0 => (ht'.block D (Array.getElem?_eq_some_iff.1 h0).1 (by simp; omega)).trans h0⟩
          rcases List.mem_append.1 hd with hd | hd
          · exact h2 d hd
          · rw [List.mem_singleton.1 hd]; exact hokx
        clear h1 h2 h3 h4 h5 h6 hs' ht' hokx hxm
        gi_wp2
        exact HF.out
      case hdone =>
        rintro D ys V hD rfl ⟨⟨h1, h2⟩, h3, h4, h5, h6⟩ hDf
        have HF : Hid (MarksIn w1.heap.size V ({ target := .collected D, args := #[] } :: ds) ∧ SeenS V Q (S.vals p (j + 1)) ∧ Row V M 78 #[.map (some Q)] ∧ KpC [Q] w1 V ∧ Below w.heap.size w V) :=
          ⟨h6.push (by have := HQw.out; omega) hDf (fun hm => by obtain ⟨D', e, hlt⟩ := HMl.out _ hm; injection e with e _; injection e with e; omega), by rw [vals_step]; exact h1, h4, h3, h5⟩
        clear h1 h2 h3 h4 h5 h6
        go_wp2
        exact ⟨⟨j + 1, _, _, _, _, _, _, _, _, _, rfl, by omega, HF.out⟩, by simp [intOf]; omega⟩
      case hstop =>
        rintro D c pre V _ _ h _
        exact h.elim
    · obtain rfl : j = G + 1 := by omega
      have c1 := HRm.out.cell 0
      simp only [List.getElem?_toArray, List.getElem?_cons_zero, List.getElem?_cons_succ] at c1
      have HKy := Lib.hid (keysS_any (some Q) wr)
      have HSo := Lib.hid (sortedS_any wr HSe.out (by have := HVf.out; omega))
      clear HC1 HC0 HV HP HQ1 HM1
      go_wp2_with fail
      refine HKy.out.mono ?_
      rintro e w3 ⟨rfl, rfl⟩
      clear HKy
      go_wp2_with fail
      refine HSo.out.mono ?_
      rintro e w3 ⟨v, us, rfl, ho, hnd, hmem, hle, hb3⟩
      clear HSo
      obtain ⟨A3, c3, rfl, _, _⟩ := own_shape ho
      have HSl := Lib.hid (slval_any A3 us.length c3 w3)
      have HO := Lib.hid ho
      have HU := Lib.hid (And.intro hnd (And.intro hmem hle))
      have HB3 : Hid (Below wr.heap.size wr w3) := ((Below.refl wr.heap.size wr).alloc (Nat.le_refl _) _).trans (hb3.mono (by omega))
      clear ho hnd hmem hle hb3
      go_wp2_with fail
      refine HSl.out.mono ?_
      rintro e w4 ⟨rfl, rfl⟩
      clear HSl
      go_wp2
      have hB4 : Below wr.heap.size wr (w3.alloc (.cells #[.slice A3 us.length c3] 81)) := HB3.out.alloc (by have := HB3.out.size; omega) _
      have hwr : w.heap.size ≤ wr.heap.size := HB.out.size
      refine leaves_marks (B := w1.heap.size) (Rb := fun V => ValsAt V w.heap.size w3.heap.size us ∧ Below w.heap.size w V) (fun V hV => ?_) (fun V D hD hV h0 => ?_) _ _ ?_ ?_
      · exact ⟨_, vals_results _ V _ rfl, w3.heap.size, us, rfl, by have := HB3.out.size; omega, hV.1, HU.out.1, HU.out.2.1, hV.2⟩
      · exact (valsAt_own w _ _ us (HB1.out.size)).putObj (s := ()) _ hV hD h0 rfl
      · exact HMk.out.mono fun D _ _ hD => (hB4.block D (Array.getElem?_eq_some_iff.1 hD).1).trans hD
      · exact ⟨⟨by have := HU.out.2.2; have := HVf.out; omega, _, Row.fresh _ _ _, own_mono (own_below HO.out ((Below.refl _ _).alloc (Nat.le_refl _) _)) (by omega)⟩, HB.out.trans (hB4.mono hwr)⟩
set_option maxRecDepth 100000 in
set_option maxHeartbeats 4000000 in
theorem Values_out (B C H L : Nat) (v4 v5 : Value) (S : Cr) (p : Int) (hp : ¬ (0 ≤ p ∧ p < S.n)) (w : World) (h : CrIs w B C H L v4 v5 S) :
    Calls Try.prog 19 #[.pointer (some ⟨C, 0, none⟩), .int .i64 p] w fun e w' => ∃ (Z : Nat), e = .returned (.func (.func 59) #[] #[.pointer (some ⟨Z, 0, none⟩)]) ∧ w.heap.size ≤ Z ∧ ValsAt w' w.heap.size Z [] ∧ Below w.heap.size w w' := by
  obtain ⟨Q, hQ⟩ : ∃ Q, Q = w.heap.size := ⟨_, rfl⟩
  obtain ⟨M, hM⟩ : ∃ M, M = Q + 1 := ⟨_, rfl⟩
  obtain ⟨w1, hw1⟩ : ∃ w1, w1 = (w.alloc (.map #[] 0)).alloc (.cells #[.map (some Q)] 78) := ⟨_, rfl⟩
  have HB1 : Hid (Below w.heap.size w w1) := by unfold Hid; rw [hw1]; (repeat (first | (with_reducible refine Below.drew ?_) | (with_reducible refine below_drewN0 ?_ _) | ((with_reducible refine Below.setCell ?_ ?_ _); rotate_left; focus (first | omega | (simp; done) | (simp; omega) | (simp at *; omega))) | ((with_reducible refine Below.alloc ?_ ?_ _); rotate_left; focus (first | omega | (simp; done) | (simp; omega) | (simp at *; omega))) | (with_reducible exact Below.refl _ _)))
  have HM1 : Hid (Row w1 M 78 #[.map (some Q)]) := by
    unfold Hid; rw [hw1, hM, hQ]
    have := Row.fresh (w.alloc (.map #[] 0)) 78 #[.map (some w.heap.size)]
    rw [World.size_alloc] at this; exact this
  have HQ1 : Hid (SeenS w1 Q []) := by
    unfold Hid; rw [hw1, hQ]
    exact (SeenS.fresh w).turns (Turns.of_below ((Below.refl _ _).alloc (Nat.le_refl _) _) []) (by simp)
  have HW1 := Lib.hid hw1
  have HQe := Lib.hid hQ
  have HMe := Lib.hid hM
  have HTh := Lib.hid (there_any C S.n p w1 ((h.below HB1.out).row.cell 0))
  rw [decide_eq_false hp] at HTh
  clear h hw1 hQ hM hp
  refine (callsIn_wide (n := 9)).1 (callsIn_of_wp_marks Try.func19 rfl trivial ?_ rfl)
  simp only [Try.ntmps19, List.size_toArray, List.length_cons, List.length_nil, Nat.reduceAdd, Nat.reduceSub, Array.replicate_succ, Array.replicate_zero, List.push_toArray, List.append_toArray, List.nil_append, List.cons_append]
  refine wpIn_wide.2 ?_
  have hmm := @run_makeMap Try.prog
  go_wp2_with fail
  clear hmm
  rw [← HQe.out, ← HMe.out, ← HW1.out]
  refine HTh.out.mono ?_
  rintro e w2 ⟨rfl, rfl⟩
  have c1 := HM1.out.cell 0
  simp only [List.getElem?_toArray, List.getElem?_cons_zero, List.getElem?_cons_succ] at c1
  have HKy := Lib.hid (keysS_any (some Q) w1)
  have HSo := Lib.hid (sortedS_any w1 HQ1.out (by simp))
  clear HTh HQ1 HM1
  go_wp2_with fail
  refine HKy.out.mono ?_
  rintro e w3 ⟨rfl, rfl⟩
  clear HKy
  go_wp2_with fail
  refine HSo.out.mono ?_
  rintro e w3 ⟨v, us, rfl, ho, hnd, hmem, hle, hb3⟩
  clear HSo
  obtain rfl : us = [] := List.eq_nil_of_length_eq_zero (by simpa using hle)
  obtain ⟨A3, c3, rfl, _, _⟩ := own_shape ho
  have HSl := Lib.hid (slval_any A3 0 c3 w3)
  have HO := Lib.hid ho
  have HB3 : Hid (Below w1.heap.size w1 w3) := ((Below.refl w1.heap.size w1).alloc (Nat.le_refl _) _).trans (hb3.mono (by omega))
  clear ho hnd hmem hle hb3
  dsimp only [List.length_nil] at HO ⊢
  go_wp2_with fail
  refine HSl.out.mono ?_
  rintro e w4 ⟨rfl, rfl⟩
  clear HSl
  go_wp2
  have hB4 : Below w1.heap.size w1 (w3.alloc (.cells #[.slice A3 0 c3] 81)) := HB3.out.alloc (by have := HB3.out.size; omega) _
  have hwr : w.heap.size ≤ w1.heap.size := HB1.out.size
  refine ⟨_, vals_results _ _ _ rfl, w3.heap.size, rfl, by have := HB3.out.size; omega, ⟨by simp, _, Row.fresh _ _ _, own_mono (own_below HO.out ((Below.refl _ _).alloc (Nat.le_refl _) _)) (by omega)⟩, HB1.out.trans (hB4.mono hwr)⟩
end Go.Proofs.Ytomigaldomiefaa
