/- CacheDrops: what is dropped is gone, in all groups, and all else stays, in order, whatever acts and whatever sector, where what is read is of bulk at most 1048576: the law returns true, and its arguments read as before. -/
import Derived.Test.YtmppegknkeggcaaCacheV
import Derived.Test.YtmppegknkeggcaaDropsPlain
namespace Go.Proofs.Ytmppegknkeggcaa
open Go.RowKit
set_option linter.unusedVariables false
set_option linter.unusedSimpArgs false

set_option maxRecDepth 100000 in
set_option maxHeartbeats 1000000 in
theorem drops_out (ad : Option Addr) (cap : Nat) (its : List It) (a s : Int) (hn : its.length ≤ 1048576) (hs : sumL its ≤ 1048576) (hf : fewB its = false) (w : World) (hW : ActsW w ad its) :
    Calls Try.prog 6 #[.slice ad its.length cap, .int .i64 a, .int .i64 s] w fun e w' => e = .returned (.bool true) ∧ Below w.heap.size w w' := by
  have HFew := fun W (hb : Below w.heap.size w W) => few_any ad cap its hn hs W (hW.keep (keep_below hb))
  rw [hf] at HFew
  have HFew := Lib.hid HFew
  clear hW hn hs hf
  generalize its.length = n at *
  go_enter Try.func6, Try.ntmps6
  go_wp2_with fail
  refine (known_any _).mono ?_
  rintro e w1 ⟨rfl, hb1⟩
  have HB := Lib.hid hb1
  have HF := Lib.hid (HFew.out w1 hb1)
  clear hb1 HFew
  go_wp2_with fail
  refine HF.out.mono ?_
  rintro e w2 ⟨rfl, rfl⟩
  go_wp2
  go_ret
  exact ⟨rfl, HB.out⟩

theorem barG_le (l : List It) (g : Int) : g ≤ barG l g ∧ barG l g ≤ g + 1 := by
  rcases barG_or l g with e | ⟨e, _⟩ <;> rw [e] <;> omega
set_option maxRecDepth 100000 in
set_option maxHeartbeats 4000000 in
theorem drops_walk (ad : Option Addr) (cap : Nat) (its : List It) (a s : Int) (hn : its.length ≤ 1048576) (hs : sumL its ≤ 1048576) (hf : fewB its = true) (ha : W64 a) (hs2 : W64 s) (w : World) (hW : ActsW w ad its) :
    Calls Try.prog 6 #[.slice ad its.length cap, .int .i64 a, .int .i64 s] w fun e w' => e = .returned (.bool true) ∧ Below w.heap.size w w' := by
  have HFew := fun W (hb : Below w.heap.size w W) => few_any ad cap its hn hs W (hW.keep (keep_below hb))
  rw [hf] at HFew
  have HFew := Lib.hid HFew
  have h300 : its.length ≤ 300 := by simp [fewB] at hf; exact hf.1
  have HLn : Hid (∀ x ∈ its, x.l.length ≤ reachBytes) := fun x hx => by have := sumL_mem hx; simp [reachBytes]; omega
  have HW := Lib.hid hW
  have HWa := Lib.hid ha
  have HWs := Lib.hid hs2
  obtain ⟨n, hnn⟩ : ∃ n, n = its.length := ⟨_, rfl⟩
  have HN := Lib.hid hnn
  rw [← hnn] at h300 HFew ⊢
  clear hW hn hs hf ha hs2 hnn
  go_enter Try.func6, Try.ntmps6
  go_wp2_with fail
  refine (known_any _).mono ?_
  rintro e w1 ⟨rfl, hb1⟩
  have HF := Lib.hid (HFew.out w1 hb1)
  have HNew := Lib.hid (CSt.new 64 (by omega) w w1 hb1)
  clear hb1 HFew
  go_wp2_with fail
  refine HF.out.mono ?_
  rintro e w2 ⟨rfl, rfl⟩
  clear HF
  go_wp2_with fail
  refine HNew.out.mono ?_
  rintro e w3 ⟨Ca, ma, rfl, h3, _⟩
  have H3 := Lib.hid h3
  have HNew2 := Lib.hid (New_yes 64 (by omega) w3)
  clear h3 HNew
  go_wp2_with fail
  refine HNew2.out.mono ?_
  rintro e w4 ⟨Cb, mb, rfl, h4, hb4⟩
  have HT := Lib.hid (Two.new H3.out h4 hb4)
  clear h4 hb4 HNew2 H3
  go_wp2
  go_loopw [11, 12] (fun hv i wr => ∃ (k : Nat) (hd : Bool) (ia : List It) (ga : Int) (ib : List It) (gb : Int), k ≤ n ∧ i = .int .i64 k ∧ hv = .bool hd ∧ Two w wr Ca ma ia ga Cb mb ib gb ∧ DInv a s ia ga ib gb hd ∧ ia.length ≤ 64 ∧ (0 ≤ ga ∧ ga ≤ k) ∧ (0 ≤ gb ∧ gb ≤ k)) (fun _ i _ => n - (intOf i).toNat)
  case atStart => exact ⟨0, false, [], 0, [], 0, by omega, rfl, rfl, HT.out, DInv.nil a s, by simp, by omega, by omega⟩
  case round =>
    obtain ⟨k, hd, ia, ga, ib, gb, hk, rfl, rfl, ht, hi, hl, hga, hgb⟩ := hrel
    have HTr := Lib.hid ht
    have HI := Lib.hid hi
    have Hga := Lib.hid hga
    have Hgb := Lib.hid hgb
    clear HT ht hi hga hgb
    by_cases hlt : k < n
    · obtain ⟨x, hx⟩ : ∃ x, its[k]? = some x := ⟨_, List.getElem?_eq_getElem (by rw [← HN.out]; exact hlt)⟩
      obtain ⟨⟨b, off, e1, hc⟩, hA⟩ := HW.out.at0 k x hx
      have HA := Lib.hid hA
      have HC := Lib.hid hc
      have HX := Lib.hid (HLn.out x (List.mem_of_getElem? hx))
      subst e1
      clear hc hA hx
      have c0 := keep_below HTr.out.bel _ _ (HC.out 0 _ rfl)
      have c1 := keep_below HTr.out.bel _ _ (HC.out 1 _ rfl)
      have c2 := keep_below HTr.out.bel _ _ (HC.out 2 _ rfl)
      have c3 := keep_below HTr.out.bel _ _ (HC.out 3 _ rfl)
      rw [Nat.add_zero] at c0
      rw [← Nat.add_assoc] at c1 c2 c3
      by_cases g1 : x.g = 1
      · rw [g1] at c0
        clear g1
        obtain ⟨m, hm⟩ : ∃ m, m = ia.length := ⟨_, rfl⟩
        have HLen := Lib.hid (HTr.out.len m hm.symm)
        have HM := Lib.hid hm
        rw [← hm] at hl
        clear hm
        go_wp2_with fail
        refine HLen.out.mono ?_
        rintro e w5 ⟨rfl, rfl⟩
        clear HLen
        by_cases h64 : 64 ≤ m
        · have h64' : (64 : Int) ≤ m := by omega
          go_wp2
          go_roundw
          case rel => exact ⟨k + 1, hd, ia, ga, ib, gb, by omega, by go_num, rfl, HTr.out, HI.out, by rw [← HM.out]; exact hl, by have := Hga.out; omega, by have := Hgb.out; omega⟩
          case measure => simp [intOf]; omega
        · have h64' : ¬ (64 : Int) ≤ m := by omega
          have hl64 : ia.length < 64 := by rw [← HM.out]; omega
          have HPa := Lib.hid (HTr.out.put hl64 x HA.out HX.out)
          go_wp2_with fail
          refine HPa.out.mono ?_
          rintro e w6 ⟨⟨v, rfl⟩, y, hy1, hy2, ht6⟩
          have HT6 := Lib.hid ht6
          have HY1 := Lib.hid hy1
          have HY2 := Lib.hid hy2
          clear HPa hy1 hy2 ht6 c0 c1 c2 c3
          have c0 := keep_below HT6.out.bel _ _ (HC.out 0 _ rfl)
          have c1 := keep_below HT6.out.bel _ _ (HC.out 1 _ rfl)
          have c2 := keep_below HT6.out.bel _ _ (HC.out 2 _ rfl)
          have c3 := keep_below HT6.out.bel _ _ (HC.out 3 _ rfl)
          rw [Nat.add_zero] at c0
          rw [← Nat.add_assoc] at c1 c2 c3
          have hlr : ((ia.filter fun z => !goneP x.a x.s ga z) ++ [y]).length ≤ 64 := by
            rw [List.length_append, List.length_singleton]
            have := List.length_filter_le (fun z => !goneP x.a x.s ga z) ia
            omega
          by_cases hK : x.a = a ∧ x.s = s
          · have HI2 := Lib.hid (HI.out.put_it x y (by simp [dropP, hK.1, hK.2]) HY1.out HY2.out)
            have b1 : (x.a == a) = true := by simp [hK.1]
            have b2 : (x.s == s) = true := by simp [hK.2]
            clear hK h64'
            go_wp2
            go_roundw
            case rel => exact ⟨k + 1, true, _, ga, ib, gb, by omega, by go_num, rfl, HT6.out, HI2.out, hlr, by have := Hga.out; omega, by have := Hgb.out; omega⟩
            case measure => simp [intOf]; omega
          · have hib : ib.length < 64 := Nat.lt_of_le_of_lt HI.out.less hl64
            have HPb := Lib.hid (HT6.out.symm.put hib x HA.out HX.out)
            have hdx : dropP a s x = false := by simp [dropP]; intro e; exact fun e2 => hK ⟨e, e2⟩
            have HDx := Lib.hid hdx
            clear h64' hdx
            by_cases hxa : x.a = a
            · have b1 : (x.a == a) = true := by simp [hxa]
              have b2 : (x.s == s) = false := by simp; exact fun e => hK ⟨hxa, e⟩
              clear hxa hK
              go_wp2_with fail
              refine HPb.out.mono ?_
              rintro e w7 ⟨⟨v2, rfl⟩, z, hz1, hz2, ht7⟩
              have HT7 := Lib.hid ht7.symm
              have HI2 := Lib.hid (HI.out.put_other x y z HDx.out HY1.out HY2.out hz1 hz2)
              clear HPb hz1 hz2 ht7 c0 c1 c2 c3
              go_wp2
              go_roundw
              case rel => exact ⟨k + 1, hd, _, ga, _, gb, by omega, by go_num, rfl, HT7.out, HI2.out, hlr, by have := Hga.out; omega, by have := Hgb.out; omega⟩
              case measure => simp [intOf]; omega
            · have b1 : (x.a == a) = false := by simp [hxa]
              clear hxa hK
              go_wp2_with fail
              refine HPb.out.mono ?_
              rintro e w7 ⟨⟨v2, rfl⟩, z, hz1, hz2, ht7⟩
              have HT7 := Lib.hid ht7.symm
              have HI2 := Lib.hid (HI.out.put_other x y z HDx.out HY1.out HY2.out hz1 hz2)
              clear HPb hz1 hz2 ht7 c0 c1 c2 c3
              go_wp2
              go_roundw
              case rel => exact ⟨k + 1, hd, _, ga, _, gb, by omega, by go_num, rfl, HT7.out, HI2.out, hlr, by have := Hga.out; omega, by have := Hgb.out; omega⟩
              case measure => simp [intOf]; omega
      · by_cases g2 : x.g = 2
        · rw [g2] at c0
          clear g1 g2
          have HBa := Lib.hid (HTr.out.barrier (by have := Hga.out; omega))
          go_wp2_with fail
          refine HBa.out.mono ?_
          rintro e w5 ⟨⟨v, rfl⟩, h5⟩
          have HBb := Lib.hid (h5.symm.barrier (by have := Hgb.out; omega))
          clear h5 HBa c0 c1 c2 c3
          go_wp2_with fail
          refine HBb.out.mono ?_
          rintro e w6 ⟨⟨v2, rfl⟩, h6⟩
          have H6 := Lib.hid h6.symm
          have hba := barG_le ia ga
          have hbb := barG_le ib gb
          have HBal := Lib.hid hba
          have HBbl := Lib.hid hbb
          clear h6 HBb hba hbb
          go_wp2
          go_roundw
          case rel => exact ⟨k + 1, hd, ia, _, ib, _, by omega, by go_num, rfl, H6.out, HI.out.bar, hl, by have := Hga.out; have := HBal.out; omega, by have := Hgb.out; have := HBbl.out; omega⟩
          case measure => simp [intOf]; omega
        · have b1 : (x.g == 1) = false := by simp [g1]
          have b2 : (x.g == 2) = false := by simp [g2]
          clear g1 g2
          go_wp2
          go_roundw
          case rel => exact ⟨k + 1, hd, ia, ga, ib, gb, by omega, by go_num, rfl, HTr.out, HI.out, hl, by have := Hga.out; omega, by have := Hgb.out; omega⟩
          case measure => simp [intOf]; omega
    · obtain rfl : k = n := by omega
      have HDr := Lib.hid (HTr.out.drop HWa.out HWs.out)
      rw [HI.out.count] at HDr
      go_wp2_with fail
      refine HDr.out.mono ?_
      rintro e w5 ⟨rfl, h5⟩
      have H5 := Lib.hid h5
      have HG := Lib.hid (h5.get HWa.out HWs.out)
      have hfn : (ia.filter fun x => !dropP a s x).reverse.find? (dropP a s) = none := by
        rw [List.find?_eq_none]
        intro y hy
        rw [List.mem_reverse, List.mem_filter] at hy
        simpa using hy.2
      have HFn := Lib.hid hfn
      clear h5 HDr hfn
      go_wp2_with fail
      refine HG.out.mono ?_
      rintro e w6 ⟨⟨hp, hb6⟩, h6⟩
      rw [HFn.out] at hp
      obtain rfl := hp
      have HFa := Lib.hid h6.flush
      clear HG hb6 h6 H5
      go_wp2_with fail
      refine HFa.out.mono ?_
      rintro e w7 ⟨Ao, co, rfl, h7, ho7, _⟩
      have HO7 := Lib.hid ho7
      have HFb := Lib.hid h7.symm.flush
      clear HFa h7 ho7
      go_wp2_with fail
      refine HFb.out.mono ?_
      rintro e w8 ⟨Bo, do_, rfl, h8, ho8, hkeep⟩
      have HOa := Lib.hid (hkeep _ _ _ _ _ HO7.out)
      have HOb := Lib.hid ho8
      have H8 := Lib.hid h8
      obtain ⟨m, hm⟩ : ∃ m, m = ib.length := ⟨_, rfl⟩
      have HM := Lib.hid hm
      have hml : m ≤ 64 := by rw [hm]; exact Nat.le_trans HI.out.less hl
      obtain ⟨i1, ji, jz0, jz1, jz2⟩ := info_parts write_info
      have HS8 : Hid (Src w8 3 Bo m (wrsV ib)) := by unfold Hid; rw [hm]; exact Src.of_own ho8.row
      rw [← hm]
      clear h8 ho8 hkeep HFb hm
      have HN8 := Lib.hid (World.ownsRow_nil w8 w8.heap.size 32 3)
      have g1 : Hid (0 + m ≤ maxLen) := by unfold Hid maxLen; omega
      have g2 : Hid ((0 + m) * 40 ≤ 140737488355328) := by unfold Hid; omega
      go_wp2_with (at_builtin; go_must (refine wpList_append_src _ rfl _ _ 36 rfl w8.heap.size 32 i1 _ 3 40 Try.underlying36 ji jz0 jz1 jz2 rfl (by decide) _ 0 [] rfl HN8.out Bo m do_ (wrsV ib) rfl HS8.out (wrsV_one ib) g1.out g2.out (Nat.le_refl _) ?_); intro v9 w9 hown hgrow hv)
      rw [Nat.zero_add, List.nil_append] at hown
      obtain ⟨A9, c9, rfl, _, _⟩ := own_shape hown
      have hb9 : Below w8.heap.size w8 w9 := by
        refine (Below.refl _ _).grown hgrow (Nat.le_refl _) ?_
        intro q hq
        have hq2 : (none : Option Nat) = some q := hq
        cases hq2
      have hs1 := (HOa.out.below hb9).sees
      have hs2 : Sees w9 A9 ib := Sees.of_own hown (fun y hy => (HOb.out.below hb9).dat y hy)
      have hlx : (ia.filter fun x => !dropP a s x).length ≤ 100000 := by
        have := List.length_filter_le (fun x => !dropP a s x) ia
        omega
      have HSm := Lib.hid (same_any Ao A9 (ia.filter fun x => !dropP a s x) ib co c9 _ m rfl HM.out hlx w9 hs1 hs2 HI.out.sees)
      have H9 := Lib.hid (H8.out.below hb9)
      clear hown hgrow hv hb9 hs1 hs2 hlx HS8 HN8 g1 g2
      go_wp2_with fail
      refine HSm.out.mono ?_
      rintro e w10 ⟨rfl, q, rfl⟩
      go_wp2
      go_ret
      exact ⟨rfl, below_drewN0 H9.out.bel q⟩
end Go.Proofs.Ytmppegknkeggcaa
namespace Go.Proofs.Ytmppegknkeggcaa.cacheDrops
open Go.ChangeShapes Go.WideShapes Go.ChangeAt Go.RowKit Go.Joins
set_option linter.unusedVariables false
set_option linter.unusedSimpArgs false

theorem opened {H : Type} {enc : TypeId × Value → H} (W : World) {base : Nat} {v0 v1 v2 : Value} {d0 d1 d2 : DataW H} {gs : List (DataW H)} {p0 p1 p2 : List MemPlace}
    (o0 : Value.okWide Try.prog W .any base 22 v0) (o1 : Value.okWide Try.prog W .any base 3 v1) (o2 : Value.okWide Try.prog W .any base 3 v2)
    (h0 : DataW.Trod enc Try.prog W 0 (fun _ => true) true 22 v0 d0 p0) (h1 : DataW.Trod enc Try.prog W 0 (fun _ => true) true 3 v1 d1 p1) (h2 : DataW.Trod enc Try.prog W 0 (fun _ => true) true 3 v2 d2 p2)
    (hk : Rows.uptoSmall H ([d0, d1, d2] ++ gs) = true) :
    Calls Try.prog 6 #[v0, v1, v2] W fun e W' => e = .returned (.bool true) ∧ Below W.heap.size W W' := by
  obtain ⟨a, rfl, rfl, rfl, wa⟩ := open_int Try.underlying3 o1 h1
  obtain ⟨s, rfl, rfl, rfl, ws⟩ := open_int Try.underlying3 o2 h2
  obtain ⟨ad, cap, its, rfl, _, hW, hb⟩ := acts_w_view o0 h0
  have hle := bulk_part (d := d0) (l := [d0, .lit (.int .i64 a), .lit (.int .i64 s)] ++ gs) (by simp)
  have hbd := bulk_bound hk
  cases hf : fewB its with
  | true => exact drops_walk ad cap its a s (by omega) (by omega) hf wa ws W hW
  | false => exact drops_out ad cap its a s (by omega) (by omega) hf W hW

/-! THE STATEMENT's FRAME, written by my own program over the guide's way (howto/shells, how-to-prove-an-upto-statement). -/
theorem own : ownKnob Try.prog.godebug = none := by kernel_rfl
theorem laidOut : laidOutB Try.prog = true := by kernel_rfl

theorem contract (H : Type) (enc : TypeId × Value → H) (W : World) (base : Nat) (args : Array Value) (ds gs : List (DataW H)) (before : List MemPlace)
    (hval : ∀ (j : Nat) t v, Try.f6.params[j]? = some t → args[j]? = some v → Value.okWide Try.prog W .any base t v)
    (hW : DataW.Whole enc Try.prog Try.f6.params.toList Rows.cacheDropsSpec.vars false W args.toList ds gs before) (hk : Rows.uptoSmall H (ds ++ gs) = true) :
    Calls Try.prog 6 args W fun e W' => ∃ v, e = .returned v ∧ Rows.cacheDropsSpec.post enc Try.prog Try.f6 false true false false W args v W' := by
  have hW' := hW
  obtain ⟨p, q, hA0, hV, rfl, hfz, hnd⟩ := hW
  have hA : DataW.TrodAll enc Try.prog W 0 (fun _ => true) true Try.f6.params.toList args.toList ds p := hA0
  rw [Try.params6] at hA hval
  obtain ⟨v0, vs0, d0, ds0, p0, q0, hargs, rfl, rfl, h0, r0⟩ := trodAll_cons hA
  obtain ⟨v1, vs1, d1, ds1, p1, q1, rfl, rfl, rfl, h1, r1⟩ := trodAll_cons r0
  obtain ⟨v2, vs2, d2, ds2, p2, q2, rfl, rfl, rfl, h2, r2⟩ := trodAll_cons r1
  obtain ⟨rfl, rfl, rfl⟩ := trodAll_nil r2
  obtain rfl : args = #[v0, v1, v2] := by cases args; simp_all
  obtain ⟨rfl, rfl⟩ := trodVars_none hV
  have k0 := h0
  have lt0 : ∀ x ∈ p0, x.block < W.heap.size := by obtain ⟨m, hm⟩ := k0; exact DataW.trod_lt m _ _ _ hm
  have k1 := h1
  have lt1 : ∀ x ∈ p1, x.block < W.heap.size := by obtain ⟨m, hm⟩ := k1; exact DataW.trod_lt m _ _ _ hm
  have k2 := h2
  have lt2 : ∀ x ∈ p2, x.block < W.heap.size := by obtain ⟨m, hm⟩ := k2; exact DataW.trod_lt m _ _ _ hm
  clear hA0
  refine (opened W (hval 0 22 v0 rfl rfl) (hval 1 3 v1 rfl rfl) (hval 2 3 v2 rfl rfl) h0 h1 h2 hk).mono fun e W' ⟨he, bel⟩ => ?_
  subst he
  exact ⟨_, rfl, _, _, _, [], _, [], hW', trodAll_mk1 (shut_bool Try.underlying4 _), (trodAll_cons_mk (Below.trod laidOut (by kernel_rfl) (of_decide_eq_true (by kernel_rfl)) k0 bel lt0) (trodAll_cons_mk (Below.trod laidOut (by kernel_rfl) (of_decide_eq_true (by kernel_rfl)) k1 bel lt1) (trodAll_cons_mk (Below.trod laidOut (by kernel_rfl) (of_decide_eq_true (by kernel_rfl)) k2 bel lt2) trodAll_mk0))), rfl, bel.frame _, fun h => by cases h⟩

set_option maxRecDepth 100000 in
theorem lifted (os : Os) (started : os.Started) (H : Type) (enc : TypeId × Value → H) (F : Stop.Interp) :
    ReturnsInHanded {} Try.checked os 6 .any ((Rows.OpenSpec.upto Rows.cacheDropsSpec).pre6 enc Try.prog Try.f6 Rows.cacheDropsUptoRow.domain false) (((Rows.OpenSpec.upto Rows.cacheDropsSpec).at F).post enc Try.prog Try.f6 false true false false) := by
  refine returnsInHanded_of_cond (C := Try.checked) (s := Rows.OpenSpec.upto Rows.cacheDropsSpec) (k := Rows.uptoSmall) rfl own started (by kernel_rfl) Try.func6
    (OpenSpec.witness (enc := enc) (C := Try.checked) (s := Rows.OpenSpec.upto Rows.cacheDropsSpec) (k := Rows.uptoSmall) rfl false ⟨#[], #[.slice none 0 0, .int .i64 0, .int .i64 0], []⟩ 8 (by kernel_rfl) (by kernel_rfl) (by kernel_rfl)
      (x := ([.nil, .lit (.int .i64 0), .lit (.int .i64 0)], [], [])) (by kernel_rfl) rfl (by kernel_rfl)) ?_
  intro W base args ds gs before hval hW _ hk _
  exact contract H enc W base args ds gs before hval hW hk

theorem proved : Rows.CacheDropsUptoSaid :=
  OpenClaim.holds_of_cond 6 Try.f6 rfl rfl rfl rfl rfl rfl rfl ⟨rfl, rfl, rfl, rfl, rfl⟩ rfl rfl rfl rfl rfl (by kernel_rfl) Try.func6 (by kernel_rfl)
    (of_decide_eq_true (by kernel_rfl)) (by unfold Func.isWrapper; first | (rw [if_pos (by decide +kernel)]; kernel_rfl) | (rw [if_neg (by decide +kernel)]; exact ⟨rfl, rfl⟩))
    (fun os started H enc _ F => lifted os started H enc F)
#print axioms proved
end Go.Proofs.Ytmppegknkeggcaa.cacheDrops
