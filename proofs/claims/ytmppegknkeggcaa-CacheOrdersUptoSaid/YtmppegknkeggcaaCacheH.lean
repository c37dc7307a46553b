/- vcache: remove. -/
import Derived.Test.YtmppegknkeggcaaCacheG
namespace Go.Proofs.Ytmppegknkeggcaa
open Go.RowKit
set_option linter.unusedVariables false
set_option linter.unusedSimpArgs false

theorem IndexFuncI_nil (fv : Value) (w : World) : Calls Try.prog 32 #[.slice none 0 0, fv] w fun e w' => e = .returned (.int .i64 (-1)) ∧ w = w' := by
  go_enter Try.func32, Try.ntmps32
  go_wp2
  go_loop [8] (fun i => i = .int .i64 0) (fun _ => 0)
  case atStart => rfl
  case round =>
    subst hrel
    go_wp2
    go_ret
    exact ⟨rfl, rfl⟩
theorem DeleteFuncI_nil (fv : Value) (w : World) : Calls Try.prog 30 #[.slice none 0 0, fv] w fun e w' => e = .returned (.slice none 0 0) ∧ w = w' := by
  have HI := Lib.hid (IndexFuncI_nil fv w)
  go_enter Try.func30, Try.ntmps30
  go_wp2_with fail
  refine HI.out.mono ?_
  rintro e w1 ⟨rfl, rfl⟩
  go_wp2
  go_ret
  exact ⟨rfl, rfl⟩
/-- DeleteFunc at any row of a cache. -/
theorem DeleteFuncI_all (F : FuncId) (caps : List Value) (p : It → Bool) (S : List Nat) (A : Option Addr) (n c B : Nat) (items : List It) (hn : n ≤ 1000) (w : World) (h : OwnI w B (.slice A n c) n items) (hg : Gone w S F caps p) (hS : ∀ k ∈ blk A, k ∈ S) :
    Calls Try.prog 30 #[.slice A n c, .func (.func F) #[] caps.toArray] w fun e w' => e = .returned (.slice A (items.filter fun x => !p x).length c) ∧
      OwnI w' B (.slice A (items.filter fun x => !p x).length c) (items.filter fun x => !p x).length (items.filter fun x => !p x) ∧ Turns w w' (blk A) := by
  rcases h.head with ⟨rfl, rfl, rfl, rfl⟩ | ⟨L, rfl⟩
  · exact (DeleteFuncI_nil _ w).mono fun e w' ⟨he, hw⟩ => ⟨he, by rw [← hw]; exact World.ownsRow_nil _ _ _ _, by rw [← hw]; exact Turns.refl _ _⟩
  · exact DeleteFuncI_any F caps p S L n c B items hn w h hg (hS L (by simp [blk]))

/-- What the map counts when j items are looked at. -/
def remC (p : It → Bool) (items : List It) (j : Nat) : Int → Int → Int := fun a s => cntI items a s - cntI ((items.take j).filter p) a s
theorem remC_zero (p : It → Bool) (items : List It) : remC p items 0 = cntI items := by
  funext a s; show cntI items a s - 0 = _; omega
theorem remC_all (p : It → Bool) (items : List It) : remC p items items.length = cntI (items.filter fun x => !p x) := by
  funext a s; unfold remC; rw [List.take_length, cntI_part p items a s]; omega
theorem remC_gone (p : It → Bool) (items : List It) (j : Nat) (x : It) (hx : items[j]? = some x) (hp : p x = true) : updC (remC p items j) x.a x.s (remC p items j x.a x.s + -1) = remC p items (j + 1) := by
  funext a s
  unfold updC remC
  rw [take_next items j x hx, List.filter_append, cntI_append, List.filter_cons_of_pos hp, List.filter_nil, cntI_one]
  by_cases h : a = x.a ∧ s = x.s
  · rw [if_pos h, if_pos h, h.1, h.2]; omega
  · rw [if_neg h, if_neg h]; omega
theorem remC_stay (p : It → Bool) (items : List It) (j : Nat) (x : It) (hx : items[j]? = some x) (hp : p x = false) : remC p items (j + 1) = remC p items j := by
  funext a s
  unfold remC
  rw [take_next items j x hx, List.filter_append, List.filter_cons_of_neg (by simp [hp]), List.filter_nil, List.append_nil]
theorem remC_bd (p : It → Bool) (items : List It) (hf : items.length ≤ 1000) (j : Nat) (a s : Int) : 0 ≤ remC p items j a s ∧ remC p items j a s ≤ 1000 := by
  have h1 : cntI items a s = cntI (items.take j) a s + cntI (items.drop j) a s := by rw [← cntI_append, List.take_append_drop]
  have h2 := cntI_part p (items.take j) a s
  have h3 := cntI_nonneg ((items.take j).filter fun x => !p x) a s
  have h4 := cntI_nonneg (items.drop j) a s
  have h5 := cntI_le items a s
  have h6 := cntI_nonneg ((items.take j).filter p) a s
  unfold remC
  omega
set_option maxHeartbeats 2000000 in
theorem remove_any (F : FuncId) (caps : List Value) (p : It → Bool) (B C mb most c : Nat) (A : Option Addr) (items : List It) (g : Int) (w : World) (h : CHeld w B C mb most A c items g) (hg : Gone w (mb :: blk A) F caps p) :
    Calls Try.prog 20 #[.pointer (some ⟨C, 0, none⟩), .func (.func F) #[] caps.toArray] w fun e w' => (∃ v, e = .returned v) ∧ CHeld w' B C mb most A c (items.filter fun x => !p x) g ∧ Turns w w' (C :: mb :: blk A) := by
  have H := Lib.hid h
  have HG := Lib.hid hg
  obtain ⟨k0, k1, k2, k3⟩ := h.cells
  have hap := h.apart
  have HC0 := Lib.hid h.row
  have hfew := h.few
  obtain ⟨n, hn⟩ : ∃ n, n = items.length := ⟨_, rfl⟩
  have HN := Lib.hid hn
  rw [← hn] at k1 hfew
  clear h hg hn k0 k2 k3
  go_enter Try.func20, Try.ntmps20
  go_wp2
  go_loopw [11] (fun i wr => ∃ j : Nat, j ≤ n ∧ i = .int .i64 j ∧ CntIs wr mb (remC p items j) ∧ Turns w wr [mb]) (fun i _ => n - (intOf i).toNat)
  case atStart => exact ⟨0, by omega, rfl, by rw [remC_zero]; exact H.out.cnt, Turns.refl _ _⟩
  case round =>
    obtain ⟨j, hj, rfl, hc, ht⟩ := hrel
    have HT := Lib.hid ht
    have HCn := Lib.hid hc
    have HO := Lib.hid (ht.own H.out.own (fun k hk hm => by
      simp at hm; subst hm
      rcases H.out.own.head with ⟨e, _⟩ | ⟨L, e⟩
      · rw [e] at hk; cases hk
      · rw [e] at hk; injection hk with hk; subst hk; exact hap.2.2 (by simp [blk, e])))
    have HRC := Lib.hid (ht.row HC0.out (by simpa using hap.1))
    clear hc ht
    by_cases hjn : j < n
    · obtain ⟨x, hx⟩ : ∃ x, items[j]? = some x := ⟨_, List.getElem?_eq_getElem (by rw [← HN.out]; exact hjn)⟩
      have HX := Lib.hid hx
      have ho := HO.out
      rw [← HN.out] at ho
      obtain ⟨L, e, c0, c1, c2, c3⟩ := OwnI.at4 ho j x hx
      subst e
      obtain ⟨wA, hwA⟩ : ∃ wA, wA = wr.alloc (.cells #[.int .i64 x.a, .int .i64 x.s, .slice x.A x.l.length x.c, .int .i64 x.g] 61) := ⟨_, rfl⟩
      have hTA : Turns w wA [mb] := by rw [hwA]; exact HT.out.alloc _
      have HTA := Lib.hid hTA
      have HRA : Hid (Row wA wr.heap.size 61 #[.int .i64 x.a, .int .i64 x.s, .slice x.A x.l.length x.c, .int .i64 x.g]) := by unfold Hid; rw [hwA]; exact Row.fresh _ _ _
      have HCA : Hid (CntIs wA mb (remC p items j)) := by unfold Hid; rw [hwA]; exact HCn.out.turns (S := []) ((Turns.refl _ _).alloc _) (by simp)
      have HCl := Lib.hid (HG.out.call wA (hTA.mono (by simp)) x)
      have hent := HG.out.ent
      clear hTA ho hx HO HCn
      cases hpx : p x with
      | true =>
        rw [hpx] at HCl
        have HRm := Lib.hid (remC_gone p items j x HX.out hpx)
        have hbd := remC_bd p items (by rw [← HN.out]; exact hfew) j x.a x.s
        have hwf := H.out.wf x (List.mem_of_getElem? HX.out)
        have HWa := Lib.hid hwf.1
        have HWs := Lib.hid hwf.2
        clear hpx hwf
        go_wp2_with fail
        rw [← hwA]
        clear hwA
        refine HCl.out.mono ?_
        rintro e w2 ⟨rfl, hb2⟩
        have hr2 := HRA.out.below hb2 HRA.out.lt
        have b0 := hr2.cell 0
        have b1 := hr2.cell 1
        have b2 := hr2.cell 2
        simp at b0 b1 b2
        have HT2 : Hid (Turns w w2 [mb]) := HTA.out.then_below hb2
        have HC2 : Hid (CntIs w2 mb (remC p items j)) := HCA.out.turns (Turns.of_below hb2 []) (by simp)
        clear hent hb2 c0 c1 c2 c3 HCl HTA HCA HRA hr2
        go_wp2_with fail
        refine (of_any _ _ _ _).mono ?_
        rintro e w3 ⟨rfl, hb3⟩
        have HT3 : Hid (Turns w w3 [mb]) := HT2.out.then_below hb3
        have HC3 : Hid (CntIs w3 mb (remC p items j)) := HC2.out.turns (Turns.of_below hb3 []) (by simp)
        have HK := Lib.hid (count_any C mb _ _ _ (remC p items j) x.a x.s (-1) HWa.out HWs.out (by omega) hbd hap.1 w3 (HT3.out.row HC0.out (by simpa using hap.1)) HC3.out)
        rw [HRm.out] at HK
        clear hb3 HT2 HC2 b0 b1 b2
        go_wp2_with fail
        refine HK.out.mono ?_
        rintro e w4 ⟨⟨v, rfl⟩, hc4, ht4⟩
        have HC4 := Lib.hid hc4
        have HT4 : Hid (Turns w w4 [mb]) := HT3.out.trans ht4 (by simp)
        clear hc4 ht4 HK HT3 HC3
        go_wp2
        go_roundw
        case rel => exact ⟨j + 1, by omega, by go_num, HC4.out, HT4.out⟩
        case measure => simp [intOf]; omega
      | false =>
        rw [hpx] at HCl
        have HRm := Lib.hid (remC_stay p items j x HX.out hpx)
        clear hpx
        go_wp2_with fail
        rw [← hwA]
        clear hwA
        refine HCl.out.mono ?_
        rintro e w2 ⟨rfl, hb2⟩
        have HT2 : Hid (Turns w w2 [mb]) := HTA.out.then_below hb2
        have HC2 : Hid (CntIs w2 mb (remC p items (j + 1))) := by unfold Hid; rw [HRm.out]; exact HCA.out.turns (Turns.of_below hb2 []) (by simp)
        clear hent hb2 c0 c1 c2 c3 HCl HTA HCA HRA
        go_wp2
        go_roundw
        case rel => exact ⟨j + 1, by omega, by go_num, HC2.out, HT2.out⟩
        case measure => simp [intOf]; omega
    · obtain rfl : j = n := by omega
      have HCf : Hid (CntIs wr mb (cntI (items.filter fun x => !p x))) := by unfold Hid; rw [← remC_all, ← HN.out]; exact HCn.out
      have hc1 := HRC.out.cell 1
      simp at hc1
      have hf1 := HRC.out.frozen 1
      have ho := HO.out
      rw [← HN.out] at hc1 ho
      have HD := Lib.hid (DeleteFuncI_all F caps p (mb :: blk A) A j c B items hfew wr ho (HG.out.turns (HT.out.mono (by simp))) (fun k hk => List.mem_cons_of_mem _ hk))
      clear hc1 ho k1
      have hc1 : wr.cell? ⟨C, 1, none⟩ = some (.slice A j c) := by rw [HRC.out.cell, HN.out]; rfl
      go_wp2_with fail
      refine HD.out.mono ?_
      rintro e w2 ⟨rfl, ho2, ht2⟩
      have hr2 := ht2.row HRC.out hap.2.1
      have HCf2 : Hid (CntIs w2 mb (cntI (items.filter fun x => !p x))) := HCf.out.turns ht2 hap.2.2
      have HO2 := Lib.hid ho2
      have e1 := hr2.cell 1
      simp at e1
      have g1 := hr2.frozen 1
      obtain ⟨m, hm⟩ : ∃ m, m = (items.filter fun x => !p x).length := ⟨_, rfl⟩
      have HM := Lib.hid hm
      have HTw : Hid (Turns w (w2.setCell ⟨C, 1, none⟩ (.slice A m c)) (C :: mb :: blk A)) :=
        ((HT.out.mono (by simp)).trans ht2 (fun k hk => .inl (List.mem_cons_of_mem _ (List.mem_cons_of_mem _ hk)))).setCell (.inl (by simp)) _
      have HF : Hid (CHeld (w2.setCell ⟨C, 1, none⟩ (.slice A m c)) B C mb most A c (items.filter fun x => !p x) g) := by
        have t1 : Turns w2 (w2.setCell ⟨C, 1, none⟩ (.slice A m c)) [C] := (Turns.refl _ _).setCell (by simp) _
        refine ⟨H.out.hC, ?_, t1.own ho2 (fun k hk hmm => ?_), fun x hx => (H.out.dat x ((List.mem_filter.1 hx).1)).turns HTw.out H.out.no_bytes, fun x hx => H.out.wf x ((List.mem_filter.1 hx).1), H.out.hm, HCf2.out.turns t1 (by simpa using Ne.symm hap.1), Nat.le_trans (List.length_filter_le _ _) H.out.few⟩
        · have := hr2.put 1 (.slice A m c)
          rw [hm] at this ⊢
          simpa using this
        · simp at hmm; subst hmm
          rcases ho2.head with ⟨e, _⟩ | ⟨L, e⟩
          · rw [e] at hk; cases hk
          · rw [e] at hk; injection hk with hk; exact hap.2.1 (by simp [blk, e, ← hk])
      rw [← hm]
      clear hm HO2 HCf2 hr2 ho2 ht2 HCf HD hc1 HG HT HCn HO HRC
      go_wp2
      go_end0
      exact ⟨⟨_, rfl⟩, HF.out, HTw.out⟩
end Go.Proofs.Ytmppegknkeggcaa
