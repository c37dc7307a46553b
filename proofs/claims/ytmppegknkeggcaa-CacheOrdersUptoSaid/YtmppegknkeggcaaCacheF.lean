/- vcache: slices.DeleteFunc at items. -/
import Derived.Test.YtmppegknkeggcaaCacheE
namespace Go.Proofs.Ytmppegknkeggcaa
open Go.RowKit
set_option linter.unusedVariables false
set_option linter.unusedSimpArgs false

/-- How the row lies when j items are looked at and i of them stay. -/
structure Part (p : It → Bool) (items cs : List It) (i j : Nat) : Prop where
  len : cs.length = items.length
  lt : i < j
  le : j ≤ items.length
  head : cs.take i = (items.take j).filter fun x => !p x
  tail : ∀ t, j ≤ t → cs[t]? = items[t]?
theorem take_next (items : List It) (j : Nat) (x : It) (hx : items[j]? = some x) : items.take (j + 1) = items.take j ++ [x] := by
  have hj := (List.getElem?_eq_some_iff.1 hx).1
  rw [List.take_succ_eq_append_getElem hj, (List.getElem?_eq_some_iff.1 hx).2]
section
variable {p : It → Bool} {items cs : List It} {i j : Nat}
theorem Part.gone (h : Part p items cs i j) (x : It) (hx : items[j]? = some x) (hp : p x = true) : Part p items cs i (j + 1) :=
  ⟨h.len, by have := h.lt; omega, (List.getElem?_eq_some_iff.1 hx).1, by rw [take_next items j x hx, List.filter_append, h.head]; simp [hp], fun t ht => h.tail t (by omega)⟩
theorem Part.stay (h : Part p items cs i j) (x : It) (hx : items[j]? = some x) (hp : p x = false) : Part p items (cs.set i x) (i + 1) (j + 1) := by
  have hj := (List.getElem?_eq_some_iff.1 hx).1
  have hi : i < cs.length := by have := h.lt; have := h.len; omega
  refine ⟨by rw [List.length_set]; exact h.len, by have := h.lt; omega, hj, ?_, fun t ht => ?_⟩
  · rw [take_next items j x hx, List.filter_append, ← h.head, List.take_succ_eq_append_getElem (by rw [List.length_set]; exact hi), List.take_set_of_le (Nat.le_refl _), List.getElem_set_self]
    simp [hp]
  · rw [List.getElem?_set_ne (by have := h.lt; omega)]
    exact h.tail t (by omega)
theorem Part.all (h : Part p items cs i items.length) : cs.take i = items.filter fun x => !p x := by
  rw [h.head, List.take_length]
theorem Part.start (k : Nat) (x : It) (hx : items[k]? = some x) (hp : p x = true) (hb : ∀ j y, j < k → items[j]? = some y → p y = false) : Part p items items k (k + 1) := by
  refine ⟨rfl, by omega, (List.getElem?_eq_some_iff.1 hx).1, ?_, fun _ _ => rfl⟩
  rw [take_next items k x hx, List.filter_append]
  have : (items.take k).filter (fun x => !p x) = items.take k := by
    rw [List.filter_eq_self]
    intro y hy
    obtain ⟨t, ht⟩ := List.mem_iff_getElem?.1 hy
    rw [List.getElem?_take] at ht
    split at ht
    · rename_i hlt
      rw [hb t y hlt ht]; rfl
    · cases ht
  rw [this]; simp [hp]
end
theorem own_thaw4 {w : World} {B L n c : Nat} {t : TypeId} {xs : List Value} {sz : Nat} (h : w.ownsRow B t sz (.slice (some ⟨L, 0, none⟩) n c) n xs) (i : Nat) : w.frozen? ⟨L, i, none⟩ = false := by
  obtain ⟨_, cur, hr, _⟩ := own_row h
  exact hr.frozen i
theorem ixI_cases (p : It → Bool) (items : List It) : (ixI p items = -1 ∧ ∀ x ∈ items, p x = false) ∨ ∃ k x, ixI p items = (k : Nat) ∧ items[k]? = some x ∧ p x = true ∧ ∀ j y, j < k → items[j]? = some y → p y = false := by
  by_cases h : items.findIdx p < items.length
  · refine .inr ⟨items.findIdx p, items[items.findIdx p], by unfold ixI; rw [if_pos h], List.getElem?_eq_getElem h, List.findIdx_getElem, fun j y hj hy => ?_⟩
    have := List.not_of_lt_findIdx hj
    rw [(List.getElem?_eq_some_iff.1 hy).2] at this
    simpa using this
  · refine .inl ⟨by unfold ixI; rw [if_neg h], fun x hx => ?_⟩
    cases hp : p x with
    | false => rfl
    | true => exact absurd (List.findIdx_lt_length.2 ⟨x, hx, hp⟩) h

set_option maxHeartbeats 2000000 in
theorem DeleteFuncI_any (F : FuncId) (caps : List Value) (p : It → Bool) (S : List Nat) (L n c B : Nat) (items : List It) (hn : n ≤ 1000) (w : World) (h : OwnI w B (.slice (some ⟨L, 0, none⟩) n c) n items) (hg : Gone w S F caps p) (hS : L ∈ S) :
    Calls Try.prog 30 #[.slice (some ⟨L, 0, none⟩) n c, .func (.func F) #[] caps.toArray] w fun e w' => e = .returned (.slice (some ⟨L, 0, none⟩) (items.filter fun x => !p x).length c) ∧
      OwnI w' B (.slice (some ⟨L, 0, none⟩) (items.filter fun x => !p x).length c) (items.filter fun x => !p x).length (items.filter fun x => !p x) ∧ Turns w w' [L] := by
  have H := Lib.hid h
  have HG := Lib.hid hg
  have HL := Lib.hid h.len
  have HI := Lib.hid (IndexFuncI_any F caps p S _ n c B items hn w h hg)
  have hnc : n ≤ c ∧ c ≤ maxLen := by obtain ⟨_, _, _, _, h1, h2, _⟩ := own_row h; exact ⟨h1, h2⟩
  obtain ⟨hnc1, hnc2⟩ := hnc
  unfold maxLen at hnc2
  clear h hg
  rcases ixI_cases p items with ⟨hi, hall⟩ | ⟨k, x, hi, hx, hpx, hbad⟩
  · rw [hi] at HI
    have hf : (items.filter fun x => !p x) = items := List.filter_eq_self.2 (fun x hx => by rw [hall x hx]; rfl)
    rw [hf, HL.out]
    clear hi hall hf HG
    go_enter Try.func30, Try.ntmps30
    go_wp2_with fail
    refine HI.out.mono ?_
    rintro e w1 ⟨rfl, hb⟩
    have HB := Lib.hid hb
    clear HI hb
    go_wp2
    go_ret
    exact ⟨rfl, own_below H.out HB.out, Turns.of_below HB.out _⟩
  · rw [hi] at HI
    have HP := Lib.hid (Part.start k x hx hpx hbad)
    have hkn : k < n := by rw [← HL.out]; exact (List.getElem?_eq_some_iff.1 hx).1
    clear hi hx hpx hbad
    go_enter Try.func30, Try.ntmps30
    go_wp2_with fail
    refine HI.out.mono ?_
    rintro e w1 ⟨rfl, hb⟩
    have HO1 := Lib.hid (own_below H.out hb)
    have HT1 : Hid (Turns w w1 [L]) := Turns.of_below hb _
    clear HI hb H
    go_wp2
    go_loopw [5, 6] (fun u v wr => ∃ i j cs, u = .int .i64 (i : Nat) ∧ v = .int .i64 (j : Nat) ∧ Part p items cs i j ∧ OwnI wr B (.slice (some ⟨L, 0, none⟩) n c) n cs ∧ Turns w wr [L]) (fun _ v _ => n - (intOf v).toNat)
    case atStart => exact ⟨k, k + 1, items, rfl, by go_num, HP.out, HO1.out, HT1.out⟩
    case round =>
      clear HP HO1 HT1
      obtain ⟨i, j, cs, rfl, rfl, hp, ho, ht⟩ := hrel
      have HP := Lib.hid hp
      have HO := Lib.hid ho
      have HT := Lib.hid ht
      have hij := hp.lt
      have hjl : j ≤ n := by rw [← HL.out]; exact hp.le
      clear hp ht
      by_cases hjn : j < n
      · obtain ⟨x, hx⟩ : ∃ x, items[j]? = some x := ⟨_, List.getElem?_eq_getElem (by rw [HL.out]; exact hjn)⟩
        have HX := Lib.hid hx
        have hcx : cs[j]? = some x := (HP.out.tail j (Nat.le_refl _)).trans hx
        obtain ⟨L', e, c0, c1, c2, c3⟩ := OwnI.at4 ho j x hcx
        injection e with e
        injection e with e
        subst e
        obtain ⟨wA, hwA⟩ : ∃ wA, wA = wr.alloc (.cells #[.int .i64 x.a, .int .i64 x.s, .slice x.A x.l.length x.c, .int .i64 x.g] 61) := ⟨_, rfl⟩
        have hTA : Turns w wA [L] := by rw [hwA]; exact HT.out.alloc _
        have HTA := Lib.hid hTA
        have HOA : Hid (OwnI wA B (.slice (some ⟨L, 0, none⟩) n c) n cs) := by unfold Hid; rw [hwA]; exact own_below ho ((Below.refl _ _).alloc (Nat.le_refl _) _)
        have HRA : Hid (Row wA wr.heap.size 61 #[.int .i64 x.a, .int .i64 x.s, .slice x.A x.l.length x.c, .int .i64 x.g]) := by unfold Hid; rw [hwA]; exact Row.fresh _ _ _
        have HC := Lib.hid (HG.out.call wA (hTA.mono (by simp; exact hS)) x)
        have hent := HG.out.ent
        have hLne : L ≠ wr.heap.size := by
          obtain ⟨_, cur, hr, _⟩ := own_row ho
          have := hr.lt; omega
        clear hTA ho hx hcx HO HT
        cases hpx : p x with
        | true =>
          rw [hpx] at HC
          have HP2 := Lib.hid (HP.out.gone x HX.out hpx)
          clear hpx HX HP HG
          go_wp2_with fail
          rw [← hwA]
          clear hwA
          refine HC.out.mono ?_
          rintro e w2 ⟨rfl, hb2⟩
          have HO2 := Lib.hid (own_below HOA.out hb2)
          have HT2 : Hid (Turns w w2 [L]) := HTA.out.then_below hb2
          clear hent hb2 c0 c1 c2 c3 HC HTA HOA HRA
          go_wp2
          go_roundw
          case rel => (repeat apply Exists.intro); exact ⟨⟨i, j + 1, cs, rfl, by go_num, HP2.out, HO2.out, HT2.out⟩, rfl⟩
          case measure => simp [intOf]; omega
        | false =>
          rw [hpx] at HC
          have HP2 := Lib.hid (HP.out.stay x HX.out hpx)
          have hil : i < cs.length := by have := HP.out.len; have := HL.out; omega
          clear hpx HX HG
          go_wp2_with fail
          rw [← hwA]
          clear hwA
          refine HC.out.mono ?_
          rintro e w2 ⟨rfl, hb2⟩
          have ho2 := own_below HOA.out hb2
          have hr2 := HRA.out.below hb2 HRA.out.lt
          have b0 := hr2.cell 0
          have b1 := hr2.cell 1
          have b2 := hr2.cell 2
          have b3 := hr2.cell 3
          simp at b0 b1 b2 b3
          obtain ⟨y, hy⟩ : ∃ y, cs[i]? = some y := ⟨_, List.getElem?_eq_getElem hil⟩
          obtain ⟨L', e, d0, d1, d2, d3⟩ := OwnI.at4 ho2 i y hy
          injection e with e
          injection e with e
          subst e
          have f0 := own_thaw4 ho2 (i * 4)
          have f1 := own_thaw4 ho2 (i * 4 + 1)
          have f2 := own_thaw4 ho2 (i * 4 + 2)
          have f3 := own_thaw4 ho2 (i * 4 + 3)
          have HO3 := Lib.hid (OwnI.put4 ho2 i hil x)
          have HT3 := Lib.hid (((((HTA.out.then_below hb2).setCell (p := ⟨L, i * 4, none⟩) (by simp) (.int .i64 x.a)).setCell (p := ⟨L, i * 4 + 1, none⟩) (by simp) (.int .i64 x.s)).setCell (p := ⟨L, i * 4 + 2, none⟩) (by simp) (.slice x.A x.l.length x.c)).setCell (p := ⟨L, i * 4 + 3, none⟩) (by simp) (.int .i64 x.g))
          clear hent hb2 c0 c1 c2 c3 HC HTA HOA HRA ho2 hr2 hy
          go_wp2
          go_roundw
          case rel => (repeat apply Exists.intro); exact ⟨⟨i + 1, j + 1, cs.set i x, by go_num, by go_num, HP2.out, HO3.out, HT3.out⟩, rfl⟩
          case measure => simp [intOf]; omega
      · obtain rfl : j = n := by omega
        have hf : cs.take i = items.filter fun x => !p x := (HL.out ▸ HP.out).all
        have hlen : (items.filter fun x => !p x).length = i := by rw [← hf, List.length_take, HP.out.len, HL.out]; omega
        obtain ⟨w3, hclr, ho3, hg3⟩ := OwnI.clearTail HO.out i hij (c - i) 0
        rw [hf] at ho3
        have HO3 : Hid (OwnI w3 B (.slice (some ⟨L, 0, none⟩) (items.filter fun x => !p x).length c) (items.filter fun x => !p x).length (items.filter fun x => !p x)) := by unfold Hid; rw [hlen]; exact ho3
        have HLe := Lib.hid hlen
        have HT3 : Hid (Turns w w3 [L]) := HT.out.trans (Turns.of_grown hg3) (by simp)
        clear ho3 hg3 hf hlen HO HT HP ho HG
        go_wp2
        go_ret
        exact ⟨by rw [HLe.out]; rfl, HO3.out, HT3.out⟩
end Go.Proofs.Ytmppegknkeggcaa
