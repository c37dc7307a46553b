/- crash: at: whether a place may have some bytes at a level. -/
import Derived.Test.YtomigaldomiefaaCrLevB
import Derived.Laws.Strings
namespace Go.Proofs.Ytomigaldomiefaa
open Go.RowKit Go.Shelf Go.MapKept Go.ChangeMaps
attribute [local go_sem] Oper.semAt_some
attribute [local simp, local go_sem] wide_fn
set_option linter.unusedVariables false
set_option linter.unusedSimpArgs false

theorem text_ne {a b : ByteArray} (h : ¬ a = b) : (a.toList == b.toList) = false := by
  rw [beq_eq_false_iff_ne]
  intro e
  rw [ByteArray.toList_eq, ByteArray.toList_eq] at e
  exact h (ByteArray.ext (Array.toList_inj.1 e))
section
variable {w V : World} {T : List Nat}
theorem own_kpcB {B : Nat} {e : TypeId} {sz : Nat} {v : Value} {n : Nat} {xs : List Value} (h : w.ownsRow B e sz v n xs) (hk : KpC T w V) (hT : ∀ g ∈ T, w.heap.size ≤ g) : V.ownsRow B e sz v n xs := own_kpc h hk (fun g hg cs hr => by have := hT g hg; have := Row.lt hr; omega)
theorem DatIs.kpc {B : Nat} {v : Value} {l : List Nat} (h : DatIs w B v l) (hk : KpC T w V) (hT : ∀ g ∈ T, w.heap.size ≤ g) : DatIs V B v l := ⟨h.small, h.short, own_kpcB h.own hk hT⟩
theorem WrsIs.kpcB {B : Nat} {v : Value} {l : List Wr} (h : WrsIs w B v l) (hk : KpC T w V) (hT : ∀ g ∈ T, w.heap.size ≤ g) : WrsIs V B v l := by
  obtain ⟨its, h1, h2, h3⟩ := h
  exact ⟨its, h1, own_kpcB h2 hk hT, fun x hx => ⟨(h3 x hx).1, (h3 x hx).2.1, (h3 x hx).2.2.kpc hk hT⟩⟩
theorem GrsIs.kpc {B : Nat} {v : Value} {l : List (List Wr)} (h : GrsIs w B v l) (hk : KpC T w V) (hT : ∀ g ∈ T, w.heap.size ≤ g) : GrsIs V B v l := by
  obtain ⟨vs, h1, h2⟩ := h
  exact ⟨vs, own_kpcB h1 hk hT, fun i g hg => by obtain ⟨u, h3, h4⟩ := h2 i g hg; exact ⟨u, h3, h4.kpcB hk hT⟩⟩
theorem mapIs_kpc {k : TypeId} {H m : Nat} {f : Value → Option Value} (h : MapIs Try.prog k w H m f) (hk : KpC T w V) (hT : ∀ g ∈ T, w.heap.size ≤ g) : MapIs Try.prog k V H m f := by
  obtain ⟨es, clock, h1, h2⟩ := h
  exact ⟨es, clock, hk.same H _ (fun hm => by have := hT H hm; have := (Array.getElem?_eq_some_iff.1 h1).1; omega) h1 rfl, h2⟩
theorem CrIs.kpc {B C H L : Nat} {v4 v5 : Value} {S : Cr} (h : CrIs w B C H L v4 v5 S) (hk : KpC T w V) (hT : ∀ g ∈ T, w.heap.size ≤ g) : CrIs V B C H L v4 v5 S := by
  refine ⟨hk.row h.row (fun hm => by have := hT C hm; have := h.row.lt; omega), ?_, ?_, h.grs.kpc hk hT, h.fly.kpcB hk hT, h.low, h.ne, h.n, h.sz, h.okG, h.okF, h.few⟩
  · obtain ⟨⟨m, f, h1, h2⟩, h3⟩ := h.has
    exact ⟨⟨m, f, mapIs_kpc h1 hk hT, h2⟩, h3⟩
  · obtain ⟨⟨m, f, h1, h2⟩, h3⟩ := h.loose
    exact ⟨⟨m, f, mapIs_kpc h1 hk hT, h2⟩, h3⟩
end
/-- What level hands on lies in its bounds. -/
theorem Cr.level_ok {w : World} {B C H L : Nat} {v4 v5 : Value} {S : Cr} (h : CrIs w B C H L v4 v5 S) (k p : Nat) : ∀ x ∈ S.level k p, x.length = S.sz ∧ ∀ u ∈ x, u < 256 := by
  have hz : (zs S.sz).length = S.sz ∧ ∀ u ∈ zs S.sz, u < 256 := ⟨by simp [zs], fun u hu => by simp [zs] at hu; omega⟩
  have ho : ∀ l : List Wr, OkL S.n S.sz l → ∀ x ∈ ofP l p, x.length = S.sz ∧ ∀ u ∈ x, u < 256 := fun l hl x hx => by
    have := hl _ (mem_ofP.1 hx); exact ⟨this.2.1, this.2.2⟩
  have ha : ∀ x ∈ S.ahead k p, x.length = S.sz ∧ ∀ u ∈ x, u < 256 := fun x hx => by
    unfold Cr.ahead at hx
    obtain ⟨g, hg, hx⟩ := List.mem_flatMap.1 hx
    exact ho g (h.okG g (List.mem_of_mem_take hg)) x hx
  intro x hx
  unfold Cr.level at hx
  rcases List.mem_cons.1 hx with rfl | hx
  · unfold Cr.base
    cases hl : (S.ahead k p).getLast? with
    | some y => exact ha y (List.mem_of_getLast? hl)
    | none =>
      unfold Cr.base0
      cases hh : S.has p with
      | none => exact hz
      | some d => exact (h.has.2 p d hh).2
  rcases List.mem_append.1 hx with hx | hx
  · split at hx
    · rw [List.mem_singleton.1 hx]; exact hz
    · cases hx
  rcases List.mem_append.1 hx with hx | hx
  · exact ho _ h.okF x hx
  · rw [List.getD_eq_getElem?_getD] at hx
    cases hg : S.groups[k]? with
    | none => rw [hg] at hx; cases hx
    | some g => rw [hg] at hx; exact ho g (h.okG g (List.mem_of_getElem? hg)) x hx
theorem lvAt_of {w V : World} {T : List Nat} {B C H L Zs Zp Zk : Nat} {v4 v5 : Value} {vs : List Value} {S : Cr} {k p : Nat} (h : CrIs w B C H L v4 v5 S) (hv : w.ownsRow B 23 1 v4 S.groups.length vs ∧ ∀ (i : Nat) (g : List Wr), S.groups[i]? = some g → ∃ u, vs[i]? = some u ∧ WrsIs w B u g)
    (hk : KpC T w V) (hT : ∀ g ∈ T, w.heap.size ≤ g) (h1 : Row V Zs 25 #[.pointer (some ⟨C, 0, none⟩)]) (h2 : Row V Zp 3 #[.int .i64 p]) (h3 : Row V Zk 3 #[.int .i64 k]) : LvAt V B C H L Zs Zp Zk v4 v5 vs S k p :=
  ⟨h1, h2, h3, h.kpc hk hT, own_kpcB hv.1 hk hT, fun i g hg => by obtain ⟨u, hu, hw⟩ := hv.2 i g hg; exact ⟨u, hu, hw.kpcB hk hT⟩⟩
theorem at_results (tmps : Array Value) (W : World) (R : Nat) (u : Value) (h8 : tmps.getD 8 undef = .pointer (some ⟨R, 0, none⟩)) (r0 : W.cell? ⟨R, 0, none⟩ = some u) :
    (results Try.f37 tmps).run Try.prog W = .ok u W := by
  simp at h8
  simp [results, Try.results37, go_sem, h8, r0]
set_option maxRecDepth 100000 in
set_option maxHeartbeats 4000000 in
theorem at_any (B C H L : Nat) (v4 v5 : Value) (S : Cr) (k p : Nat) (hk : k ≤ S.groups.length) (hp : p < S.n) (A : Option Addr) (c : Nat) (l : List Nat) (hl : ∀ u ∈ l, u < 256) (w : World) (h : CrIs w B C H L v4 v5 S) (hd : Cells8 w A l) :
    Calls Try.prog 37 #[.pointer (some ⟨C, 0, none⟩), .int .i64 k, .int .i64 p, .slice A l.length c] w fun e w' => e = .returned (.bool (S.at k p l)) ∧ Below w.heap.size w w' := by
  obtain ⟨R, hR⟩ : ∃ R, R = w.heap.size + 1 := ⟨_, rfl⟩
  obtain ⟨X, hX⟩ : ∃ X, X = w.heap.size := ⟨_, rfl⟩
  obtain ⟨w1, hw1⟩ : ∃ w1, w1 = (w.alloc (.cells #[.slice A l.length c] 22)).alloc (.cells #[.bool false] 4) := ⟨_, rfl⟩
  have HB1 : Hid (Below w.heap.size w w1) := by unfold Hid; rw [hw1]; (repeat (first | (with_reducible refine Below.drew ?_) | (with_reducible refine below_drewN0 ?_ _) | ((with_reducible refine Below.setCell ?_ ?_ _); rotate_left; focus (first | omega | (simp; done) | (simp; omega) | (simp at *; omega))) | ((with_reducible refine Below.alloc ?_ ?_ _); rotate_left; focus (first | omega | (simp; done) | (simp; omega) | (simp at *; omega))) | (with_reducible exact Below.refl _ _)))
  have HR1 : Hid (Row w1 R 4 #[.bool false]) := by
    unfold Hid; rw [hw1, hR]
    have := Row.fresh (w.alloc (.cells #[.slice A l.length c] 22)) 4 #[.bool false]
    rw [World.size_alloc] at this; exact this
  have HX1 : Hid (Row w1 X 22 #[.slice A l.length c]) := by unfold Hid; rw [hw1, hX]; exact (Row.fresh _ _ _).alloc _
  have HLev := Lib.hid (level_any C k p w1)
  have HC0 := Lib.hid h
  have HD := Lib.hid hd
  have HS : Hid (∀ a : List Nat, (∀ x ∈ a, x < 256) → textOf a = textOf l → a = l) := fun a ha e => textOf_inj ha hl e
  have HL := Lib.hid hl
  have HW1 := Lib.hid hw1
  have HXe := Lib.hid hX
  have HRe := Lib.hid hR
  obtain ⟨vs, hv1, hv2⟩ := h.grs
  have HV : Hid (w.ownsRow B 23 1 v4 S.groups.length vs ∧ ∀ (i : Nat) (g : List Wr), S.groups[i]? = some g → ∃ u, vs[i]? = some u ∧ WrsIs w B u g) := ⟨hv1, hv2⟩
  have HOk := Lib.hid (Cr.level_ok h k p)
  clear h hd hw1 hR hX hl hv1 hv2
  refine (callsIn_wide (n := 9)).1 (callsIn_of_wp_marks Try.func37 rfl trivial ?_ rfl)
  simp only [Try.ntmps37, List.size_toArray, List.length_cons, List.length_nil, Nat.reduceAdd, Nat.reduceSub, Array.replicate_succ, Array.replicate_zero, List.push_toArray, List.append_toArray, List.nil_append, List.cons_append]
  refine wpIn_wide.2 ?_
  go_wp2_with fail
  rw [← HW1.out, ← HRe.out, ← HXe.out]
  refine HLev.out.mono ?_
  rintro e w2 ⟨Z, rfl, hZ, z1, z2, z3, hb⟩
  have HB2 := Lib.hid hb
  have HZ1 := Lib.hid z1
  have HZ2 := Lib.hid z2
  have HZ3 := Lib.hid z3
  have HZ := Lib.hid hZ
  clear HLev hb z1 z2 z3 hZ
  go_wp2_with fail
  have HBw2 : Hid (Below w.heap.size w w2) := HB1.out.trans (HB2.out.mono HB1.out.size)
  have hXR : w.heap.size ≤ X ∧ X < R ∧ R < w1.heap.size ∧ w1.heap.size ≤ w2.heap.size := by have := HXe.out; have := HRe.out; have := HR1.out.lt; have := HB2.out.size; omega
  have HXR := Lib.hid hXR
  have HR2 := Lib.hid (HR1.out.below HB2.out HR1.out.lt)
  have HX2 := Lib.hid (HX1.out.below HB2.out HX1.out.lt)
  have HTw : Hid (∀ g ∈ [R], w.heap.size ≤ g) := fun g hg => by rw [List.mem_singleton.1 hg]; omega
  have hLv : ∀ V, KpC [R] w2 V → LvAt V B C H L Z (Z + 2) (Z + 1) v4 v5 vs S k p := fun V hV => by
    have hZ := HZ.out
    have hn : ∀ i, Z + i ∉ [R] := fun i hm => by have := List.mem_singleton.1 hm; omega
    exact lvAt_of HC0.out HV.out ((KpC.of_below HBw2.out).trans hV) HTw.out (hV.row HZ1.out (hn 0)) (hV.row HZ3.out (hn 2)) (hV.row HZ2.out (hn 1))
  have HLv := Lib.hid hLv
  have HSeq := Lib.hid (level1_own 8 (by omega) B C H L Z (Z + 2) (Z + 1) v4 v5 vs S k p hk hp [R] w2 (fun t ht => by rw [List.mem_singleton.1 ht]; omega) hLv)
  clear hXR hLv
  refine (wpIn_wide (n := 9)).1 ?_
  apply wpIn_range_ownA rfl (by omega) (gf := 56) (lb := #[.pointer (some ⟨Z, 0, none⟩), .pointer (some ⟨Z + 2, 0, none⟩), .pointer (some ⟨Z + 1, 0, none⟩)]) rfl trivial (enters_of Try.func56 (by kernel_rfl) rfl)
    (hseq := HSeq.out)
    (hKr := fun V => KpC.of_below (Below.refl _ _)) (hKt := fun h h' => KpC.trans h h') (hKb := fun V l r o' _ hl => KpC.put hl) (hb0 := Below.refl _ _) (hps := fun _ => rfl)
    (I := fun pre V => ((∀ y ∈ pre, textOf y ≠ textOf l) ∧ Row V R 4 #[.bool false] ∧ Row V X 22 #[.slice A l.length c]) ∧ Below w.heap.size w V) (Ix := fun c pre V => c = .ret ∧ ((∃ y ∈ pre, textOf y = textOf l) ∧ Row V R 4 #[.bool true]) ∧ Below w.heap.size w V)
  case hI =>
    rintro s V V' row ⟨⟨h0, h1, h2⟩, h3⟩ hg hr
    exact ⟨⟨h0, Row.kept h1 hg (fun r e => (hr r e).2), Row.kept h2 hg (fun r e => (hr r e).2)⟩, h3.grown hg h3.size (fun r e => by have := (hr r e).1; have := HBw2.out.size; omega)⟩
  case hIx =>
    rintro c s V V' row ⟨hc, ⟨h0, h1⟩, h3⟩ hg hr
    exact ⟨hc, ⟨h0, Row.kept h1 hg (fun r e => (hr r e).2)⟩, h3.grown hg h3.size (fun r e => by have := (hr r e).1; have := HBw2.out.size; omega)⟩
  case h0 => exact ⟨⟨by simp, HR2.out, HX2.out⟩, HBw2.out⟩
  case hassign =>
    intro i pre x V hi _ _
    gi_wp2
    exact ⟨rfl, trivial⟩
  case hbody =>
    rintro i pre x V ⟨⟨h0, h1, h2⟩, hB⟩ _ _
    have hcx := h2.cell 0
    have hfr := h1.frozen 0
    have hc1 := h1.cell 0
    simp only [List.getElem?_toArray, List.getElem?_cons_zero, List.getElem?_cons_succ] at hcx hc1
    have kc : (convert 22 9 (.slice A l.length c)).run Try.prog V = .ok (.string (textOf l)) V := conv_text (HD.out.keep (keep_below hB))
    have HH := Lib.hid (And.intro h0 (And.intro h1 (And.intro h2 hB)))
    clear h0 h1 h2 hB
    generalize l.length = ln at *
    by_cases he : textOf x = textOf l
    · have HE := Lib.hid he
      have HT : Hid (Turns V (V.setCell ⟨R, 0, none⟩ (.bool true)) [R]) := (Turns.refl V [R]).setCell (by simp) _
      have HF : Hid (Row (V.setCell ⟨R, 0, none⟩ (.bool true)) R 4 #[.bool true]) := by unfold Hid; simpa using HH.out.2.1.put 0 (.bool true)
      have HBf : Hid (Below w.heap.size w (V.setCell ⟨R, 0, none⟩ (.bool true))) := HH.out.2.2.2.setCell (p := ⟨R, 0, none⟩) (by have := HXR.out; show w.heap.size ≤ R; omega) _
      rw [← he] at kc
      clear he
      gi_wp2
      exact ⟨(KeepsOthers.setCell _ _ _).from _, KpC.of_turns HT.out (fun y hy => hy), rfl, ⟨⟨x, by simp, HE.out⟩, HF.out⟩, HBf.out⟩
    · have he2 := text_ne he
      gi_wp2
      exact ⟨KeepsFrom.refl _ _, KpC.of_below (Below.refl _ _), ⟨fun y hy => by
        rcases List.mem_append.1 hy with hy | hy
        · exact HH.out.1 y hy
        · rw [List.mem_singleton.1 hy]; exact he, HH.out.2.1, HH.out.2.2.1⟩, HH.out.2.2.2⟩
  case hdone =>
    rintro D ys V hD rfl ⟨⟨h0, h1, h2⟩, hB⟩ hDf
    have hcx := h2.cell 0
    have hfr := h1.frozen 0
    have hc1 := h1.cell 0
    simp only [List.getElem?_toArray, List.getElem?_cons_zero, List.getElem?_cons_succ] at hcx hc1
    have HH := Lib.hid (And.intro h1 (And.intro hB hDf))
    have HA : Hid (S.at k p l = (((l.length : Nat) : Int) == 0)) := by
      unfold Hid Cr.at
      have h3 : (S.level k p).contains l = false := by
        rw [← Bool.not_eq_true, List.contains_iff_mem]
        exact fun hm => h0 l hm rfl
      rw [h3]
      cases l with
      | nil => rfl
      | cons a l => simp; omega
    clear h0 h1 h2 hB hDf
    generalize l.length = ln at *
    have HF : Hid (Row (V.setCell ⟨R, 0, none⟩ (.bool ((ln : Int) == 0))) R 4 #[.bool ((ln : Int) == 0)]) := by unfold Hid; simpa using HH.out.1.put 0 (.bool ((ln : Int) == 0))
    have HBf : Hid (Below w.heap.size w (V.setCell ⟨R, 0, none⟩ (.bool ((ln : Int) == 0)))) := HH.out.2.1.setCell (p := ⟨R, 0, none⟩) (by have := HXR.out; show w.heap.size ≤ R; omega) _
    have HK : Hid ((V.setCell ⟨R, 0, none⟩ (.bool ((ln : Int) == 0))).heap[D]? = some (.deferred (some []))) := (KeepsOthers.setCell _ _ _).same _ _ HH.out.2.2 rfl
    obtain ⟨b, hb⟩ : ∃ b, b = ((ln : Int) == 0) := ⟨_, rfl⟩
    have HBe := Lib.hid hb
    rw [← hb] at HF HBf HK HA
    clear hb
    go_wp2
    rw [← HBe.out]
    refine ⟨by simp, .inl ⟨_, _, rfl, run_takeDeferred HK.out, ?_⟩⟩
    refine ⟨_, at_results _ _ R (.bool b) rfl ?_, by rw [HA.out], HBf.out.trans (belowK_b (w := w) (Nat.le_refl _) _ D _ _ (by have := HBw2.out.size; omega) HK.out rfl rfl)⟩
    exact Row.cell (show Row _ R 4 #[.bool b] from (World.putObj_heap_other (by have := HXR.out; omega)).trans HF.out) 0
  case hstop =>
    rintro D cd pre V hD ⟨j, hj, rfl⟩ ⟨rfl, ⟨⟨y, hy, he⟩, h1⟩, hB⟩ hDf
    have hyl := List.mem_of_mem_take hy
    have hya := HS.out y (HOk.out y hyl).2 he
    have HA : Hid (S.at k p l = true) := by
      unfold Hid Cr.at
      rw [← hya]
      simp [List.contains_iff_mem, hyl]
    refine wpIn_wide.2 ?_
    go_wp2
    refine ⟨by simp, .inl ⟨_, _, rfl, run_takeDeferred hDf, ?_⟩⟩
    refine ⟨_, at_results _ _ R (.bool true) rfl ?_, by rw [HA.out], hB.trans (belowK_b (w := w) (Nat.le_refl _) V D _ _ (by have := HBw2.out.size; omega) hDf rfl rfl)⟩
    exact Row.cell (show Row _ R 4 #[.bool true] from (World.putObj_heap_other (by have := HXR.out; omega)).trans h1) 0
end Go.Proofs.Ytomigaldomiefaa
