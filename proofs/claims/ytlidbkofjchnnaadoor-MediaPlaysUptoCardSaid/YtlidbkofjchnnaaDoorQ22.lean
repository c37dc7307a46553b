/- What follows is laid together from several texts of mine, in their order. -/
import Derived.Test.YtlidbkofjchnnaaDoorQ21

namespace Go.Proofs.YtlidbkofjchnnaaDoor
open Go.RowKit
set_option linter.unusedVariables false
set_option linter.unusedSimpArgs false

section
variable {w0 w : World} {W M Q F L n : Nat} {P g : Nat → Nat} {v : Nat → Value} {S : Fl} {bad : Nat → Bool} {md : Int} {m : Pm}
theorem PSt.roomD (h : PSt w0 w W M Q F L P g v S n bad md m) {k r : Nat} (hk : k < S.nb) (hr : S.room bad k = r) : Calls Tryd.prog 19 #[.pointer (some ⟨M, 0, none⟩), .int .i64 k] w fun e w' => e = .returned (.int .i64 r) ∧ ∃ c, w' = w.drewN c := by subst hr; exact Room_in h.med k hk
theorem PSt.bytes512 (h : PSt w0 w W M Q F L P g v S n bad md m) : 1 ≤ n ∧ n ≤ 512 := ⟨h.med.bytes.1, by have := h.med.bytes.2; have := h.med.fl.ok.chunks; omega⟩
set_option maxRecDepth 100000 in
set_option maxHeartbeats 1000000 in
theorem write_out (h : PSt w0 w W M Q F L P g v S n bad md m) (ha : Agr S bad n m) (x : Ac) (hxW : AcW w0 x) (hx : x.bl < 0 ∨ S.nb ≤ x.bl) : Calls Tryd.prog 42 #[.pointer (some ⟨W, 0, none⟩), x.val] w fun e w' => e = .returned (.bool true) ∧ PW w0 W M Q F L P g n S.nb S.pages S.chunks w' := by
  have hn1 := h.bytes512
  have HDa : Hid (∀ w1, PSt w0 w1 W M Q F L P g v S n bad md m → Calls Tryd.prog 58 #[.pointer (some ⟨W, 0, none⟩), x.val] w1 fun e w' => ∃ a c, e = .returned (.slice (some a) (x.data n).length c) ∧ DatV w0 w' a (x.data n) ∧ PSt w0 w' W M Q F L P g v S n bad md m ∧ Below w1.heap.size w1 w') := fun w1 h1 => data_any h1 hn1 x hxW
  have HA := Lib.hid ha
  clear hxW hn1
  generalize x.data n = d at *
  obtain ⟨op, bl, pg, fill, A, c, l, one, nn⟩ := x
  simp only [Ac.val, Ac.cells] at hx HDa ⊢
  generalize l.length = ln at *
  have HX : Hid (PSt w0 (w.alloc (.cells #[.int .i64 op, .int .i64 bl, .int .i64 pg, .int .u8 fill, .slice A ln c, .bool one, .int .i64 nn] 68)) W M Q F L P g v S n bad md m) := h.alloc _
  have HR := Lib.hid (Row.fresh w 68 #[.int .i64 op, .int .i64 bl, .int .i64 pg, .int .u8 fill, .slice A ln c, .bool one, .int .i64 nn])
  have HRm : Hid (∀ w1, PSt w0 w1 W M Q F L P g v S n bad md m → Calls Tryd.prog 19 #[.pointer (some ⟨M, 0, none⟩), .int .i64 bl] w1 fun e w' => e = .returned (.int .i64 0) ∧ ∃ c, w' = w1.drewN c) := fun w1 h1 => Room_out h1.med bl hx
  have HWr : Hid (∀ w1 (a : Addr) (cc : Nat), PSt w0 w1 W M Q F L P g v S n bad md m → DatV w0 w1 a d → Calls Tryd.prog 10 #[.pointer (some ⟨M, 0, none⟩), .int .i64 bl, .slice (some a) d.length cc] w1 fun e w' => e = .returned (.tuple #[.int .i64 0, .int .i64 1]) ∧ PSt w0 w' W M Q F L P g v S n bad md m) := fun w1 a cc h1 _ => h1.write_out hx _ _ _
  have HO : Hid (∀ w1, PSt w0 w1 W M Q F L P g v S n bad md m → Calls Tryd.prog 45 #[.pointer (some ⟨W, 0, none⟩), .int .i64 bl] w1 fun e w' => e = .returned (.bool false) ∧ w1 = w') := fun w1 h1 => h1.is_out hx 0
  clear h ha hx
  go_enter Tryd.func42, Tryd.ntmps42
  go_wp2_with fail
  refine (HDa.out _ HX.out).mono ?_
  rintro e w1 ⟨a, cc, rfl, hdv, hp1, hb1⟩
  have HDv := Lib.hid hdv
  have HP1 := Lib.hid hp1
  have cb : w1.cell? ⟨w.heap.size, 1, none⟩ = some (.int .i64 bl) := keep_below hb1 _ _ (HR.out.cell 1)
  have c1 := hp1.mem.cells.2.1
  have HRo := Lib.hid (HRm.out w1 hp1)
  generalize w.heap.size = X at *
  clear HDa HX HR hdv hp1 hb1 HRm
  go_wp2_with fail
  refine HRo.out.mono ?_
  rintro e w2 ⟨rfl, cN, hw2⟩
  have HP2 : Hid (PSt w0 w2 W M Q F L P g v S n bad md m) := by unfold Hid; rw [hw2]; exact HP1.out.drewN cN
  have HDv2 : Hid (DatV w0 w2 a d) := by unfold Hid; rw [hw2]; exact HDv.out.turns ((Turns.refl w1 []).drewN cN) (by simp)
  have c12 := HP2.out.mem.cells.2.1
  have HW2 := Lib.hid (HWr.out w2 a cc HP2.out HDv2.out)
  clear HRo HP1 HDv hw2 c1 cb HWr
  go_wp2_with fail
  refine HW2.out.mono ?_
  rintro e w3 ⟨rfl, hp3⟩
  have HP3 := Lib.hid hp3
  have HIs := Lib.hid (HO.out w3 hp3)
  clear HW2 hp3 HO
  go_wp2_with fail
  refine HIs.out.mono ?_
  rintro e w4 ⟨rfl, rfl⟩
  go_wp2_with fail
  refine HIs.out.mono ?_
  rintro e w4 ⟨rfl, rfl⟩
  clear HIs
  go_wp2
  go_ret
  exact ⟨rfl, ⟨_, _, _, _, _, HP3.out, HA.out, rfl, rfl, rfl⟩⟩
set_option maxRecDepth 100000 in
set_option maxHeartbeats 1000000 in
theorem write_len (h : PSt w0 w W M Q F L P g v S n bad md m) (ha : Agr S bad n m) (x : Ac) (hxW : AcW w0 x) (k : Nat) (hk : k < S.nb) (hx : x.bl = k) (hl : (x.data n).length ≠ n) : Calls Tryd.prog 42 #[.pointer (some ⟨W, 0, none⟩), x.val] w fun e w' => e = .returned (.bool true) ∧ PW w0 W M Q F L P g n S.nb S.pages S.chunks w' := by
  have hn1 := h.bytes512
  have HDa : Hid (∀ w1, PSt w0 w1 W M Q F L P g v S n bad md m → Calls Tryd.prog 58 #[.pointer (some ⟨W, 0, none⟩), x.val] w1 fun e w' => ∃ a c, e = .returned (.slice (some a) (x.data n).length c) ∧ DatV w0 w' a (x.data n) ∧ PSt w0 w' W M Q F L P g v S n bad md m ∧ Below w1.heap.size w1 w') := fun w1 h1 => data_any h1 hn1 x hxW
  have HA := Lib.hid ha
  clear hxW hn1
  generalize x.data n = d at *
  obtain ⟨op, bl, pg, fill, A, c, l, one, nn⟩ := x
  simp only [Ac.val, Ac.cells] at hx HDa ⊢
  generalize l.length = ln at *
  have HX : Hid (PSt w0 (w.alloc (.cells #[.int .i64 op, .int .i64 bl, .int .i64 pg, .int .u8 fill, .slice A ln c, .bool one, .int .i64 nn] 68)) W M Q F L P g v S n bad md m) := h.alloc _
  have HR := Lib.hid (Row.fresh w 68 #[.int .i64 op, .int .i64 bl, .int .i64 pg, .int .u8 fill, .slice A ln c, .bool one, .int .i64 nn])
  subst hx
  have HO : Hid (∀ w1, PSt w0 w1 W M Q F L P g v S n bad md m → Calls Tryd.prog 45 #[.pointer (some ⟨W, 0, none⟩), .int .i64 k] w1 fun e w' => e = .returned (.bool true) ∧ w1 = w') := fun w1 h1 => h1.is_in hk 0
  have HK := Lib.hid hk
  have hki : (k : Int) < S.nb := by omega
  have HRm : Hid (∀ w1, PSt w0 w1 W M Q F L P g v S n bad md m → Calls Tryd.prog 19 #[.pointer (some ⟨M, 0, none⟩), .int .i64 k] w1 fun e w' => e = .returned (.int .i64 (S.room bad k : Nat)) ∧ ∃ c, w' = w1.drewN c) := fun w1 h1 => h1.roomD hk rfl
  have HWr : Hid (∀ w1 (a : Addr) (cc : Nat), PSt w0 w1 W M Q F L P g v S n bad md m → DatV w0 w1 a d → Calls Tryd.prog 10 #[.pointer (some ⟨M, 0, none⟩), .int .i64 k, .slice (some a) d.length cc] w1 fun e w' => e = .returned (.tuple #[.int .i64 0, .int .i64 1]) ∧ PSt w0 w' W M Q F L P g v S n bad md m) := fun w1 a cc h1 _ => h1.write_len hk _ _ _ hl
  have hne : ¬ (d.length : Int) = n := by omega
  generalize S.room bad k = rm at *
  clear h ha hk hl
  go_enter Tryd.func42, Tryd.ntmps42
  go_wp2_with fail
  refine (HDa.out _ HX.out).mono ?_
  rintro e w1 ⟨a, cc, rfl, hdv, hp1, hb1⟩
  have HDv := Lib.hid hdv
  have HP1 := Lib.hid hp1
  have cb : w1.cell? ⟨w.heap.size, 1, none⟩ = some (.int .i64 k) := keep_below hb1 _ _ (HR.out.cell 1)
  have c1 := hp1.mem.cells.2.1
  have HRo := Lib.hid (HRm.out w1 hp1)
  generalize w.heap.size = X at *
  clear HDa HX HR hdv hp1 hb1 HRm
  go_wp2_with fail
  refine HRo.out.mono ?_
  rintro e w2 ⟨rfl, cN, hw2⟩
  have HP2 : Hid (PSt w0 w2 W M Q F L P g v S n bad md m) := by unfold Hid; rw [hw2]; exact HP1.out.drewN cN
  have HDv2 : Hid (DatV w0 w2 a d) := by unfold Hid; rw [hw2]; exact HDv.out.turns ((Turns.refl w1 []).drewN cN) (by simp)
  have c12 := HP2.out.mem.cells.2.1
  have HW2 := Lib.hid (HWr.out w2 a cc HP2.out HDv2.out)
  clear HRo HP1 HDv hw2 c1 cb HWr
  go_wp2_with fail
  refine HW2.out.mono ?_
  rintro e w3 ⟨rfl, hp3⟩
  have HP3 := Lib.hid hp3
  have HIs := Lib.hid (HO.out w3 hp3)
  have c2 := hp3.mem.cells.2.2.1
  clear HW2 hp3 HO HDv2
  generalize d.length = dl at *
  go_wp2_with fail
  refine HIs.out.mono ?_
  rintro e w4 ⟨rfl, rfl⟩
  go_wp2_with fail
  refine HIs.out.mono ?_
  rintro e w4 ⟨rfl, rfl⟩
  clear HIs
  go_wp2
  go_ret
  exact ⟨rfl, ⟨_, _, _, _, _, HP3.out, HA.out, rfl, rfl, rfl⟩⟩
set_option maxRecDepth 100000 in
set_option maxHeartbeats 1000000 in
theorem write_bad (h : PSt w0 w W M Q F L P g v S n bad md m) (ha : Agr S bad n m) (x : Ac) (hxW : AcW w0 x) (k : Nat) (hk : k < S.nb) (hx : x.bl = k) (hl : (x.data n).length = n) (hb : bad k = true) (hr : S.room bad k = 0) : Calls Tryd.prog 42 #[.pointer (some ⟨W, 0, none⟩), x.val] w fun e w' => e = .returned (.bool true) ∧ PW w0 W M Q F L P g n S.nb S.pages S.chunks w' := by
  have hn1 := h.bytes512
  have HDa : Hid (∀ w1, PSt w0 w1 W M Q F L P g v S n bad md m → Calls Tryd.prog 58 #[.pointer (some ⟨W, 0, none⟩), x.val] w1 fun e w' => ∃ a c, e = .returned (.slice (some a) (x.data n).length c) ∧ DatV w0 w' a (x.data n) ∧ PSt w0 w' W M Q F L P g v S n bad md m ∧ Below w1.heap.size w1 w') := fun w1 h1 => data_any h1 hn1 x hxW
  have HA := Lib.hid ha
  clear hxW hn1
  generalize x.data n = d at *
  obtain ⟨op, bl, pg, fill, A, c, l, one, nn⟩ := x
  simp only [Ac.val, Ac.cells] at hx HDa ⊢
  generalize l.length = ln at *
  have HX : Hid (PSt w0 (w.alloc (.cells #[.int .i64 op, .int .i64 bl, .int .i64 pg, .int .u8 fill, .slice A ln c, .bool one, .int .i64 nn] 68)) W M Q F L P g v S n bad md m) := h.alloc _
  have HR := Lib.hid (Row.fresh w 68 #[.int .i64 op, .int .i64 bl, .int .i64 pg, .int .u8 fill, .slice A ln c, .bool one, .int .i64 nn])
  subst hx
  have HO : Hid (∀ w1, PSt w0 w1 W M Q F L P g v S n bad md m → Calls Tryd.prog 45 #[.pointer (some ⟨W, 0, none⟩), .int .i64 k] w1 fun e w' => e = .returned (.bool true) ∧ w1 = w') := fun w1 h1 => h1.is_in hk 0
  have HK := Lib.hid hk
  have hki : (k : Int) < S.nb := by omega
  have HRm : Hid (∀ w1, PSt w0 w1 W M Q F L P g v S n bad md m → Calls Tryd.prog 19 #[.pointer (some ⟨M, 0, none⟩), .int .i64 k] w1 fun e w' => e = .returned (.int .i64 (0 : Nat)) ∧ ∃ c, w' = w1.drewN c) := fun w1 h1 => h1.roomD hk hr
  have HWr : Hid (∀ w1 (a : Addr) (cc : Nat), PSt w0 w1 W M Q F L P g v S n bad md m → DatV w0 w1 a d → Calls Tryd.prog 10 #[.pointer (some ⟨M, 0, none⟩), .int .i64 k, .slice (some a) d.length cc] w1 fun e w' => e = .returned (.tuple #[.int .i64 0, .int .i64 7]) ∧ PSt w0 w' W M Q F L P g v S n bad md m) := fun w1 a cc h1 _ => by rw [hl]; exact h1.write_bad hk _ _ hb
  have hmb : m.bad k = true := by rw [(ha k hk).eBad]; exact hb
  have hle : (d.length : Int) = n := by omega
  clear h ha hk hl hb hr
  go_enter Tryd.func42, Tryd.ntmps42
  go_wp2_with fail
  refine (HDa.out _ HX.out).mono ?_
  rintro e w1 ⟨a, cc, rfl, hdv, hp1, hb1⟩
  have HDv := Lib.hid hdv
  have HP1 := Lib.hid hp1
  have cb : w1.cell? ⟨w.heap.size, 1, none⟩ = some (.int .i64 k) := keep_below hb1 _ _ (HR.out.cell 1)
  have c1 := hp1.mem.cells.2.1
  have HRo := Lib.hid (HRm.out w1 hp1)
  generalize w.heap.size = X at *
  clear HDa HX HR hdv hp1 hb1 HRm
  go_wp2_with fail
  refine HRo.out.mono ?_
  rintro e w2 ⟨rfl, cN, hw2⟩
  have HP2 : Hid (PSt w0 w2 W M Q F L P g v S n bad md m) := by unfold Hid; rw [hw2]; exact HP1.out.drewN cN
  have HDv2 : Hid (DatV w0 w2 a d) := by unfold Hid; rw [hw2]; exact HDv.out.turns ((Turns.refl w1 []).drewN cN) (by simp)
  have c12 := HP2.out.mem.cells.2.1
  have HW2 := Lib.hid (HWr.out w2 a cc HP2.out HDv2.out)
  clear HRo HP1 HDv hw2 c1 cb HWr
  go_wp2_with fail
  refine HW2.out.mono ?_
  rintro e w3 ⟨rfl, hp3⟩
  have HP3 := Lib.hid hp3
  have HIs := Lib.hid (HO.out w3 hp3)
  have c2 := hp3.mem.cells.2.2.1
  have c8 := hp3.mem.cells.2.2.2.2.2.2.2.1
  have k8 := (hp3.mem.at_k HK.out).2.2.2.1
  rw [hmb] at k8
  clear HW2 hp3 HO HDv2 hmb
  generalize d.length = dl at *
  generalize S.nb = nb at c8 hki
  go_wp2_with fail
  refine HIs.out.mono ?_
  rintro e w4 ⟨rfl, rfl⟩
  clear HIs
  go_wp2
  go_ret
  exact ⟨rfl, ⟨_, _, _, _, _, HP3.out, HA.out, rfl, rfl, rfl⟩⟩
end
end Go.Proofs.YtlidbkofjchnnaaDoor

namespace Go.Proofs.YtlidbkofjchnnaaDoor
open Go.RowKit
set_option linter.unusedVariables false
set_option linter.unusedSimpArgs false

theorem bs1_info : (Tryd.prog.info? 46).map (fun i => (i.zero, i.size, i.bytes)) = some (some (.slice none 0 0), 1, 24) := by kernel_rfl
theorem src_new {w : World} {t : TypeId} {cs : List Value} {sz : Nat} (h : cs.length = 1 * sz) : Src (w.alloc (.cells cs.toArray t)) sz (some ⟨w.heap.size, 0, none⟩) 1 cs :=
  Src.of_at h (fun j u hu => by
    rw [addr_add, Nat.zero_add, (Row.fresh w t cs.toArray).cell]
    simpa using hu)
theorem grown_twice2 {a b c : World} {r : Option Nat} (h : a.grownBy b r) (h' : b.grownBy c r) : a.grownBy c r :=
  ⟨h'.os.trans h.os, h'.tape.trans h.tape, h'.output.trans h.output, Nat.le_trans h.size h'.size, fun i hi hne => (h'.block i (Nat.lt_of_lt_of_le hi h.size) hne).trans (h.block i hi hne)⟩
section
variable {w0 w : World} {W M Q F L n : Nat} {P g : Nat → Nat} {v : Nat → Value} {S : Fl} {bad : Nat → Bool} {md : Int} {m : Pm}
/-- A block's pages and one more. -/
theorem PSt.append (h : PSt w0 w W M Q F L P g v S n bad md m) {k : Nat} (hk : k < S.nb) {vs : List Value} (hvs : w.ownsRow w0.heap.size 46 1 (v k) (m.b k).length vs) (hv2 : ∀ (p : Nat) (x : Option (List Nat)), (m.b k)[p]? = some x → ∃ u, vs[p]? = some u ∧ PgV w0 w u x) {w1 w6 : World} (hb : Below w.heap.size w w1) (hg : w1.grownBy w6 (v k).ownBlock) {u val : Value}
    (hown : w6.ownsRow w0.heap.size 46 1 u ((m.b k).length + 1) (vs ++ [val])) (hat : u.ownBlock = (v k).ownBlock ∨ u.ownBlock = some w1.heap.size) {x : Option (List Nat)} (hval : PgV w0 w6 val x) :
    PSt w0 (w6.setCell ⟨g 5, k, none⟩ u) W M Q F L P g (updB v k u) S n bad md { m with b := updB m.b k (m.b k ++ [x]) } := by
  have hg6 : w.grownBy w6 (v k).ownBlock := grown_twice2 (grown_below hb _) hg
  have ht : Turns w w6 (v k).ownBlock.toList := ⟨hg6.os, hg6.tape, hg6.output, hg6.size, fun i hi hn => hg6.block i hi (fun e => hn (by rw [← e]; simp))⟩
  have hr := fun x hx => (h.mem.pgs k hk).row (x := x) hx
  refine h.push hk hg6 (fun x hx => ?_) ⟨vs ++ [val], by rw [List.length_append]; exact hown, fun p y hy => ?_⟩
  · rcases hat with e | e
    · exact .inl (e ▸ hx)
    · right
      rw [hx] at e
      injection e with e
      have := hb.size; omega
  · have hl : vs.length = (m.b k).length := by have := hvs.1; omega
    rcases Nat.lt_or_ge p (m.b k).length with hlt | hge
    · rw [List.getElem?_append_left hlt] at hy
      obtain ⟨u', hu', hp⟩ := hv2 p y hy
      refine ⟨u', by rw [List.getElem?_append_left (by omega)]; exact hu', hp.turns ht (fun t ht => (hr t (by simpa using ht)).1) (fun t cs hrow hm => ?_)⟩
      obtain ⟨_, _, cs', hrow'⟩ := hr t (by simpa using hm)
      exact Row.ne_type hrow hrow' (by decide) rfl
    · rw [List.getElem?_append_right hge] at hy
      have hpe : p = (m.b k).length := by
        have := (List.getElem?_eq_some_iff.1 hy).1
        simp at this; omega
      subst hpe
      simp at hy
      subst hy
      exact ⟨val, by rw [List.getElem?_append_right (by omega), hl, Nat.sub_self]; rfl, hval⟩
/-- The cells that the walk reads behind the Write. -/
theorem PSt.rd (h : PSt w0 w W M Q F L P g v S n bad md m) {k : Nat} (hk : k < S.nb) : w.cell? ⟨W, 2, none⟩ = some (.int .i64 n) ∧ w.cell? ⟨W, 4, none⟩ = some (.slice (some ⟨g 5, 0, none⟩) S.nb S.nb) ∧ w.cell? ⟨W, 6, none⟩ = some (.slice (some ⟨g 9, 0, none⟩) S.nb S.nb) ∧ w.cell? ⟨W, 8, none⟩ = some (.slice (some ⟨g 13, 0, none⟩) S.nb S.nb) ∧ w.cell? ⟨W, 9, none⟩ = some (.slice (some ⟨g 15, 0, none⟩) S.nb S.nb) ∧
    w.cell? ⟨g 5, k, none⟩ = some (v k) ∧ w.cell? ⟨g 9, k, none⟩ = some (.bool (m.half k)) ∧ w.cell? ⟨g 13, k, none⟩ = some (.bool (m.bad k)) ∧ w.cell? ⟨g 15, k, none⟩ = some (.bool (m.fail k)) ∧ ∃ A c, v k = .slice A (m.b k).length c := by
  obtain ⟨_, _, c2, _, c4, c6, _, c8, c9, _⟩ := h.mem.cells
  obtain ⟨k5, k9, _, k13, k15⟩ := h.mem.at_k hk
  exact ⟨c2, c4, c6, c8, c9, k5, k9, k13, k15, (h.mem.pgs k hk).shape⟩
set_option maxRecDepth 100000 in
set_option maxHeartbeats 1000000 in
theorem write_full (h : PSt w0 w W M Q F L P g v S n bad md m) (ha : Agr S bad n m) (x : Ac) (hxW : AcW w0 x) (k : Nat) (hk : k < S.nb) (hx : x.bl = k) (hl : (x.data n).length = n) (hb : bad k = false) (hr : S.room bad k = 0) (hf : m.half k = true ∨ (m.half k = false ∧ (m.b k).length = S.has k)) : Calls Tryd.prog 42 #[.pointer (some ⟨W, 0, none⟩), x.val] w fun e w' => e = .returned (.bool true) ∧ PW w0 W M Q F L P g n S.nb S.pages S.chunks w' := by
  have hn1 := h.bytes512
  have HDa : Hid (∀ w1, PSt w0 w1 W M Q F L P g v S n bad md m → Calls Tryd.prog 58 #[.pointer (some ⟨W, 0, none⟩), x.val] w1 fun e w' => ∃ a c, e = .returned (.slice (some a) (x.data n).length c) ∧ DatV w0 w' a (x.data n) ∧ PSt w0 w' W M Q F L P g v S n bad md m ∧ Below w1.heap.size w1 w') := fun w1 h1 => data_any h1 hn1 x hxW
  have HA := Lib.hid ha
  clear hxW hn1
  generalize x.data n = d at *
  obtain ⟨op, bl, pg, fill, A, c, l, one, nn⟩ := x
  simp only [Ac.val, Ac.cells] at hx HDa ⊢
  generalize l.length = ln at *
  have HX : Hid (PSt w0 (w.alloc (.cells #[.int .i64 op, .int .i64 bl, .int .i64 pg, .int .u8 fill, .slice A ln c, .bool one, .int .i64 nn] 68)) W M Q F L P g v S n bad md m) := h.alloc _
  have HR := Lib.hid (Row.fresh w 68 #[.int .i64 op, .int .i64 bl, .int .i64 pg, .int .u8 fill, .slice A ln c, .bool one, .int .i64 nn])
  subst hx
  have HO : Hid (∀ w1 S' bad' md', S'.nb = S.nb → PSt w0 w1 W M Q F L P g v S' n bad' md' m → Calls Tryd.prog 45 #[.pointer (some ⟨W, 0, none⟩), .int .i64 k] w1 fun e w' => e = .returned (.bool true) ∧ w1 = w') := fun w1 S' bad' md' e h1 => h1.is_in (by rw [e]; exact hk) 0
  have HK := Lib.hid hk
  have hki : (k : Int) < S.nb := by omega
  have hle : (d.length : Int) = n := by omega
  have HRm : Hid (∀ w1, PSt w0 w1 W M Q F L P g v S n bad md m → Calls Tryd.prog 19 #[.pointer (some ⟨M, 0, none⟩), .int .i64 k] w1 fun e w' => e = .returned (.int .i64 (0 : Nat)) ∧ ∃ c, w' = w1.drewN c) := fun w1 h1 => h1.roomD hk hr
  have HWr : Hid (∀ w1 (a : Addr) (cc : Nat), PSt w0 w1 W M Q F L P g v S n bad md m → DatV w0 w1 a d → Calls Tryd.prog 10 #[.pointer (some ⟨M, 0, none⟩), .int .i64 k, .slice (some a) d.length cc] w1 fun e w' => e = .returned (.tuple #[.int .i64 0, .int .i64 3]) ∧ PSt w0 w' W M Q F L P g v S n bad md m) := fun w1 a cc h1 _ => by rw [hl]; exact h1.write_full hk _ _ hb hr
  have hmb : m.bad k = false := by rw [(ha k hk).eBad]; exact hb
  have HF := Lib.hid hf
  clear h ha hk hl hb hr hf
  go_enter Tryd.func42, Tryd.ntmps42
  go_wp2_with fail
  refine (HDa.out _ HX.out).mono ?_
  rintro e w1 ⟨a, cc, rfl, hdv, hp1, hb1⟩
  have HDv := Lib.hid hdv
  have HP1 := Lib.hid hp1
  have cb : w1.cell? ⟨w.heap.size, 1, none⟩ = some (.int .i64 k) := keep_below hb1 _ _ (HR.out.cell 1)
  have c1 := hp1.mem.cells.2.1
  have HRo := Lib.hid (HRm.out w1 hp1)
  generalize w.heap.size = X at *
  clear HDa HX HR hdv hp1 hb1 HRm
  go_wp2_with fail
  refine HRo.out.mono ?_
  rintro e w2 ⟨rfl, cN, hw2⟩
  have HP2 : Hid (PSt w0 w2 W M Q F L P g v S n bad md m) := by unfold Hid; rw [hw2]; exact HP1.out.drewN cN
  have HDv2 : Hid (DatV w0 w2 a d) := by unfold Hid; rw [hw2]; exact HDv.out.turns ((Turns.refl w1 []).drewN cN) (by simp)
  have c12 := HP2.out.mem.cells.2.1
  have HW2 := Lib.hid (HWr.out w2 a cc HP2.out HDv2.out)
  clear HRo HP1 HDv hw2 c1 cb HWr
  go_wp2_with fail
  refine HW2.out.mono ?_
  rintro e w3 ⟨rfl, hp3⟩
  have HP3 := Lib.hid hp3
  have HIs := Lib.hid (HO.out w3 S bad md rfl hp3)
  have HHs : Hid (∀ c, Calls Tryd.prog 24 #[.pointer (some ⟨W, 0, none⟩), .int .i64 k] (w3.drewN c) fun e w' => e = .returned (.int .i64 (S.has k : Nat)) ∧ w3.drewN c = w') := fun c => hp3.has_in HA.out HK.out c
  obtain ⟨c2, c4, c6, c8, c9, k5, k9, k13, k15, A5, cp5, e5⟩ := hp3.rd HK.out
  rw [hmb] at k13
  rw [e5] at k5
  clear HW2 hp3 HO HDv2 hmb e5 c9 k15
  generalize d.length = dl at *
  generalize hnb : S.nb = nb at c4 c6 c8 hki
  clear hnb
  rcases HF.out with hf | ⟨hf, hlh⟩
  · rw [hf] at k9
    clear HF HHs hf
    generalize (m.b k).length = ln at *
    go_wp2_with fail
    refine HIs.out.mono ?_
    rintro e w4 ⟨rfl, rfl⟩
    clear HIs
    go_wp2
    go_quiet (fail)
    have HP4 := Lib.hid (HP3.out.drewN nq)
    go_wp2
    go_ret
    exact ⟨rfl, ⟨_, _, _, _, _, HP4.out, HA.out, rfl, rfl, rfl⟩⟩
  · rw [hf] at k9
    rw [hlh] at k5
    clear HF hf hlh
    generalize S.has k = hs at *
    go_wp2_with fail
    refine HIs.out.mono ?_
    rintro e w4 ⟨rfl, rfl⟩
    clear HIs
    go_wp2
    go_quiet ((go_at_call 24; refine Calls.quiet_of_same ((HHs.out _).mono fun e w' h => ⟨h.1, h.2.symm⟩)))
    have HP4 := Lib.hid (HP3.out.drewN nq)
    go_wp2
    go_ret
    exact ⟨rfl, ⟨_, _, _, _, _, HP4.out, HA.out, rfl, rfl, rfl⟩⟩
end
end Go.Proofs.YtlidbkofjchnnaaDoor

namespace Go.Proofs.YtlidbkofjchnnaaDoor
open Go.RowKit
set_option linter.unusedVariables false
set_option linter.unusedSimpArgs false

section
variable {w0 w : World} {W M Q F L n : Nat} {P g : Nat → Nat} {v : Nat → Value} {S : Fl} {bad : Nat → Bool} {md : Int} {m : Pm}
theorem PSt.has_at (h : PSt w0 w W M Q F L P g v S n bad md m) {k hs : Nat} (hk : k < S.nb) (he : hasM S.pages (m.one k) = hs) (c : Nat) : Calls Tryd.prog 24 #[.pointer (some ⟨W, 0, none⟩), .int .i64 k] (w.drewN c) fun e w' => e = .returned (.int .i64 hs) ∧ w.drewN c = w' := by
  have hp := h.med.fl.ok.pages
  subst he
  exact Go.Proofs.YtlidbkofjchnnaaDoor.has_in W S.pages S.nb (g 11) k (m.one k) hk (by omega) (w.drewN c) (h.drewN c).mem.cells.2.2.2.1 (h.drewN c).mem.cells.2.2.2.2.2.2.1 ((h.drewN c).mem.at_k hk).2.2.1
set_option maxRecDepth 100000 in
set_option maxHeartbeats 1000000 in
theorem write_failed (h : PSt w0 w W M Q F L P g v S n bad md m) (ha : Agr S bad n m) (x : Ac) (hxW : AcW w0 x) (k : Nat) (hk : k < S.nb) (hx : x.bl = k) (hl : (x.data n).length = n) (hb : bad k = false) (hr : S.room bad k ≠ 0) (hh : m.half k = false) (hlt : (m.b k).length < S.has k) (ho : S.off = false) (hf : (S.b k).failed = true) : Calls Tryd.prog 42 #[.pointer (some ⟨W, 0, none⟩), x.val] w fun e w' => e = .returned (.bool true) ∧ PW w0 W M Q F L P g n S.nb S.pages S.chunks w' := by
  have hn1 := h.bytes512
  have HDa : Hid (∀ w1, PSt w0 w1 W M Q F L P g v S n bad md m → Calls Tryd.prog 58 #[.pointer (some ⟨W, 0, none⟩), x.val] w1 fun e w' => ∃ a c, e = .returned (.slice (some a) (x.data n).length c) ∧ DatV w0 w' a (x.data n) ∧ PSt w0 w' W M Q F L P g v S n bad md m ∧ Below w1.heap.size w1 w') := fun w1 h1 => data_any h1 hn1 x hxW
  have HA := Lib.hid ha
  clear hxW hn1
  generalize x.data n = d at *
  obtain ⟨op, bl, pg, fill, A, c, l, one, nn⟩ := x
  simp only [Ac.val, Ac.cells] at hx HDa ⊢
  generalize l.length = ln at *
  have HX : Hid (PSt w0 (w.alloc (.cells #[.int .i64 op, .int .i64 bl, .int .i64 pg, .int .u8 fill, .slice A ln c, .bool one, .int .i64 nn] 68)) W M Q F L P g v S n bad md m) := h.alloc _
  have HR := Lib.hid (Row.fresh w 68 #[.int .i64 op, .int .i64 bl, .int .i64 pg, .int .u8 fill, .slice A ln c, .bool one, .int .i64 nn])
  subst hx
  have HO : Hid (∀ w1 S' bad' md', S'.nb = S.nb → PSt w0 w1 W M Q F L P g v S' n bad' md' m → Calls Tryd.prog 45 #[.pointer (some ⟨W, 0, none⟩), .int .i64 k] w1 fun e w' => e = .returned (.bool true) ∧ w1 = w') := fun w1 S' bad' md' e h1 => h1.is_in (by rw [e]; exact hk) 0
  have HK := Lib.hid hk
  have hki : (k : Int) < S.nb := by omega
  have hle : (d.length : Int) = n := by omega
  have HRm : Hid (∀ w1, PSt w0 w1 W M Q F L P g v S n bad md m → Calls Tryd.prog 19 #[.pointer (some ⟨M, 0, none⟩), .int .i64 k] w1 fun e w' => e = .returned (.int .i64 (S.room bad k : Nat)) ∧ ∃ c, w' = w1.drewN c) := fun w1 h1 => h1.roomD hk rfl
  have HWr : Hid (∀ w1 (a : Addr) (cc : Nat), PSt w0 w1 W M Q F L P g v S n bad md m → DatV w0 w1 a d → Calls Tryd.prog 10 #[.pointer (some ⟨M, 0, none⟩), .int .i64 k, .slice (some a) d.length cc] w1 fun e w' => e = .returned (.tuple #[.int .i64 0, .int .i64 7]) ∧ PSt w0 w' W M Q F L P g v S n (setBad bad k) md m) := fun w1 a cc h1 hd => by
    have := h1.write_failed hk hd hl cc hr ho hf
    rw [hl]; exact this
  have HMb : Hid (m.bad k = false) := by unfold Hid; rw [(ha k hk).eBad]; exact hb
  have HMf : Hid (m.fail k = true) := by unfold Hid; rw [(ha k hk).eFail]; exact hf
  have HMh := Lib.hid hh
  have HMo : Hid (hasM S.pages (m.one k) = S.has k) := by unfold Hid; rw [(ha k hk).eOne]; rfl
  have hne : ¬ ((m.b k).length : Int) = S.has k := by omega
  generalize S.room bad k = rm at *
  clear h ha hk hl hb hr hh hlt ho hf
  go_enter Tryd.func42, Tryd.ntmps42
  go_wp2_with fail
  refine (HDa.out _ HX.out).mono ?_
  rintro e w1 ⟨a, cc, rfl, hdv, hp1, hb1⟩
  have HDv := Lib.hid hdv
  have HP1 := Lib.hid hp1
  have cb : w1.cell? ⟨w.heap.size, 1, none⟩ = some (.int .i64 k) := keep_below hb1 _ _ (HR.out.cell 1)
  have c1 := hp1.mem.cells.2.1
  have HRo := Lib.hid (HRm.out w1 hp1)
  generalize w.heap.size = X at *
  clear HDa HX HR hdv hp1 hb1 HRm
  go_wp2_with fail
  refine HRo.out.mono ?_
  rintro e w2 ⟨rfl, cN, hw2⟩
  have HP2 : Hid (PSt w0 w2 W M Q F L P g v S n bad md m) := by unfold Hid; rw [hw2]; exact HP1.out.drewN cN
  have HDv2 : Hid (DatV w0 w2 a d) := by unfold Hid; rw [hw2]; exact HDv.out.turns ((Turns.refl w1 []).drewN cN) (by simp)
  have c12 := HP2.out.mem.cells.2.1
  have HW2 := Lib.hid (HWr.out w2 a cc HP2.out HDv2.out)
  clear HRo HP1 HDv hw2 c1 cb HWr
  go_wp2_with fail
  refine HW2.out.mono ?_
  rintro e w3 ⟨rfl, hp3⟩
  have HP3 := Lib.hid hp3
  have HIs := Lib.hid (HO.out w3 S _ md rfl hp3)
  have HHs : Hid (∀ c, Calls Tryd.prog 24 #[.pointer (some ⟨W, 0, none⟩), .int .i64 k] (w3.drewN c) fun e w' => e = .returned (.int .i64 (S.has k : Nat)) ∧ w3.drewN c = w') := fun c => hp3.has_at HK.out HMo.out c
  obtain ⟨c2, c4, c6, c8, c9, k5, k9, k13, k15, A5, cp5, e5⟩ := hp3.rd HK.out
  rw [HMb.out] at k13
  rw [HMf.out] at k15
  rw [HMh.out] at k9
  rw [e5] at k5
  clear HW2 hp3 HO HDv2 e5 HMb HMf HMh HMo
  generalize d.length = dl at *
  generalize hnb : S.nb = nb at c4 c6 c8 c9 hki
  clear hnb
  generalize (m.b k).length = ln at *
  generalize S.has k = hs at *
  go_wp2_with fail
  refine HIs.out.mono ?_
  rintro e w4 ⟨rfl, rfl⟩
  clear HIs
  go_wp2
  go_quiet ((go_at_call 24; refine Calls.quiet_of_same ((HHs.out _).mono fun e w' h => ⟨h.1, h.2.symm⟩)))
  have HP4 := Lib.hid (HP3.out.drewN nq)
  have HP5 := Lib.hid (HP4.out.put_bad HK.out true)
  have fz := (HP4.out.mem.thaw k).2.2.2.1
  clear HP3 HP4 HHs
  go_wp2
  go_ret
  exact ⟨rfl, ⟨_, _, _, _, _, HP5.out, HA.out.badE k, rfl, rfl, rfl⟩⟩
end
end Go.Proofs.YtlidbkofjchnnaaDoor
