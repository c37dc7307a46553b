/- What follows is laid together from several texts of mine, in their order. -/
import Derived.Test.YtfipmpajdkgffaaQ6
import Derived.Test.YtfipmpajdkgffaaQ7

namespace Go.Proofs.Ytfipmpajdkgffaa
open Go.RowKit Go.MapKept Go.ChangeMaps
attribute [local go_sem] Oper.semAt_some
attribute [local simp, local go_sem] wide_fn
set_option linter.unusedVariables false
set_option linter.unusedSimpArgs false
set_option maxRecDepth 100000 in
set_option maxHeartbeats 4000000 in
theorem bad_in (a : Nat) (bad : Int) (ha : 1 ≤ a ∧ a ≤ 500) (hbd : -9223372036854775808 ≤ bad ∧ bad ≤ 9223372036854775807) (A : Option Addr) (n cap : Nat) (f : Nat → Nat → Int) (W : World) (hA : Acts W A n 4 f) (hn : n ≤ 200) (hcap : n ≤ cap)
    (Ao : Option Addr) (d : List Nat) (co : Nat) (hAo : Cells8 W Ao d) (hdo : ∀ u ∈ d, u < 256) (hdl : d.length ≤ 100) (hco : d.length ≤ co) :
    Calls Try.prog 7 #[.int .i64 a, .slice A n cap, .int .i64 bad, .slice Ao d.length co] W fun e w' => e = .returned (.bool true) ∧ Below W.heap.size W w' := by
  have HK := Lib.hid (known_any W)
  have HBe : Hid (∀ u, Calls Try.prog 9 #[.int .i64 a, .int .i64 16, .int .i64 1] u fun e w' => ∃ Wb Mb Sb Hb T, e = .returned (.pointer (some ⟨Wb, 0, none⟩)) ∧ WdIs w' u.heap.size Wb Mb Sb Hb T [] (Sm.new a 16 1) sh0 (fun _ => 0) ∧ Below u.heap.size u w') := fun u => begun_any u a 16 1 ⟨ha.1, by omega⟩ (by decide) (by decide)
  have HAc := Lib.hid hA
  have HC8 := Lib.hid hAo
  have HDo := Lib.hid hdo
  have HDl : Hid (d.length ≤ 65536) := Nat.le_trans hdl (by decide)
  have HAlt : Hid (∀ x, Ao = some x → 0 < d.length → x.block < W.heap.size) := fun x e h0 => by
    obtain ⟨b, off, e2, hc⟩ := hAo 0 h0
    rw [e2] at e; injection e with e; subst e
    exact World.block_lt_of_cell? W _ hc
  have heq := run_neq_place
  obtain ⟨dl, hdle⟩ : ∃ dl, dl = d.length := ⟨_, rfl⟩
  have HDle := Lib.hid hdle
  rw [← hdle] at hdl hco ⊢
  clear hA hAo hdo hdle
  obtain ⟨ha1, ha2⟩ := ha
  go_enter Try.func7, Try.ntmps7
  go_wp2_with fail
  refine HK.out.mono ?_
  rintro e w1 ⟨rfl, hb1'⟩
  have HB1 := Lib.hid hb1'
  clear hb1' HK
  go_wp2_with fail
  refine (HBe.out w1).mono ?_
  rintro e w2 ⟨Wb, Mb, Sb, Hb, T, rfl, hi, hb2'⟩
  have HW2 : Hid (Wst w1.heap.size w2 Wb Sb Hb a 16 1 0 0) := ⟨Mb, T, [], Sm.new a 16 1, sh0, fun _ => 0, hi, ⟨rfl, rfl, rfl⟩, rfl, by simp [sh0], by simp [Sm.new]⟩
  have HB3 : Hid (Below W.heap.size W w2) := HB1.out.trans (hb2'.mono HB1.out.size)
  have HBz := Lib.hid HB1.out.size
  clear hi hb2' HBe
  go_wp2
  go_loopw [10] (fun v wr => ∃ k : Nat, v = .int .i64 k ∧ k ≤ n ∧ Wst w1.heap.size wr Wb Sb Hb a 16 1 (k * k + k) (2 * k) ∧ Below W.heap.size W wr) (fun v _ => n - (intOf v).toNat)
  case atStart => exact ⟨0, rfl, by omega, HW2.out, HB3.out⟩
  case round =>
    obtain ⟨k, rfl, hk, hw, hb⟩ := hrel
    have HW := Lib.hid hw
    have HB := Lib.hid hb
    clear hw hb HW2 HB3
    by_cases hkn : k < n
    · have hkk : k * k ≤ 39601 := Nat.mul_le_mul (show k ≤ 199 by omega) (show k ≤ 199 by omega)
      obtain ⟨bb, off, rfl⟩ := HAc.out.addr (show 0 < n by omega)
      have y0 := keep_below HB.out _ _ (HAc.out.cells k 0 hkn (by omega))
      have y1 := keep_below HB.out _ _ (HAc.out.cells k 1 hkn (by omega))
      have y2 := keep_below HB.out _ _ (HAc.out.cells k 2 hkn (by omega))
      have y3 := keep_below HB.out _ _ (HAc.out.cells k 3 hkn (by omega))
      rw [Nat.add_zero] at y0
      rw [← Nat.add_assoc] at y1 y2 y3
      have HSt := Lib.hid (step_any wr w1.heap.size Wb Sb Hb a 16 1 (k * k + k) (2 * k) HW.out (by omega) (by omega) ⟨f k 0, f k 1, f k 2, f k 3⟩)
      generalize f k 0 = f0 at *
      generalize f k 1 = f1 at *
      generalize f k 2 = f2 at *
      generalize f k 3 = f3 at *
      have HWn : Hid (Wst w1.heap.size wr Wb Sb Hb a 16 1 ((k + 1) * (k + 1) + (k + 1)) (2 * (k + 1))) := HW.out.mono (by rw [Nat.add_mul, Nat.mul_add]; omega) (by omega)
      clear hkk
      by_cases h1 : f0 = 1
      · subst h1
        go_wp2_with fail
        refine HSt.out.mono ?_
        rintro e w4 ⟨rfl, hw4, hb4⟩
        have HW4 : Hid (Wst w1.heap.size w4 Wb Sb Hb a 16 1 ((k + 1) * (k + 1) + (k + 1)) (2 * (k + 1))) := hw4.mono (by rw [Nat.add_mul, Nat.mul_add]; omega) (by omega)
        have HB4 : Hid (Below W.heap.size W w4) := HB.out.trans (hb4.mono HBz.out)
        clear hw4 hb4 y0 y1 y2 y3 HSt
        go_wp2
        go_roundw
        case rel => exact ⟨k + 1, by go_num, by omega, HW4.out, HB4.out⟩
        case measure => simp [intOf]; omega
      · have h1' : ¬ f0 = 1 := h1
        go_wp2
        go_roundw
        case rel => exact ⟨k + 1, by go_num, by omega, HWn.out, HB.out⟩
        case measure => simp [intOf]; omega
    · obtain rfl : k = n := by omega
      obtain ⟨Mb, T, F, S, sh, hs, hi, hss, hf, hlp, hcp⟩ := HW.out
      have hkk : k * k ≤ 40000 := Nat.mul_le_mul hn hn
      have HD := Lib.hid hi
      have HSS := Lib.hid hss
      have HPc : Hid (sh.L.length + S.cnt ≤ 40600) := by unfold Hid; omega
      have k4 : wr.cell? ⟨Wb, 4, none⟩ = some (.pointer (some ⟨Mb, 0, none⟩)) := hi.row.cell 4
      have HFl := Lib.hid (flush_world hi hf (by omega))
      have HFf := Lib.hid hf
      clear hi hss hf hlp hcp hkk HW
      go_wp2_with fail
      refine HFl.out.mono ?_
      rintro e w3 ⟨rfl, T2, F2, S2, sh2, hfl2⟩
      have HF2 := Lib.hid hfl2
      have HB3 : Hid (Below W.heap.size W w3) := hfl2.turns.below HB.out HB.out.size (fun q hq => Nat.le_trans HBz.out (HD.out.low.2.2 q hq))
      have hsec2 : S2.sectors = a ∧ S2.page = 16 ∧ S2.held = 1 := ⟨hfl2.same.1.trans HSS.out.1, hfl2.same.2.1.trans HSS.out.2.1, hfl2.same.2.2.trans HSS.out.2.2⟩
      have HS2 := Lib.hid hsec2
      clear k4 HFl hfl2
      obtain ⟨np, hnpe⟩ : ∃ np, np = S2.np := ⟨_, rfl⟩
      have HNp := Lib.hid hnpe
      have HDir : Hid (∀ u, Below w3.heap.size w3 u → Calls Try.prog 21 #[.pointer (some ⟨Mb, 0, none⟩)] u fun e w' => ∃ w4 g, e = .returned (.slice (some ⟨g, 0, none⟩) (8 + 4 * np) (8 + 4 * np)) ∧ w' = w4 ∧ Below w3.heap.size w3 w4 ∧
          (Calls Try.prog 14 #[.int .i64 a, .int .i64 16, .int .i64 1, .iface 33 (.pointer (some ⟨Sb, 0, none⟩)), .slice (some ⟨g, 0, none⟩) (8 + 4 * np) (8 + 4 * np)] w4 fun e w' => ∃ Mb' T3 S3, e = .returned (.tuple #[.pointer (some ⟨Mb', 0, none⟩), .int .i64 0]) ∧ Below w3.heap.size w3 w' ∧ SmIs w' Mb' Sb T3 F2 S3 sh2 ∧ Pw S3 sh2 hs ∧ (∀ q ∈ T3, q ∈ T2 ∨ w3.heap.size ≤ q) ∧ S3.sectors = a ∧ S3.page = 16 ∧ S3.cnt = 0 ∧ ∀ m, S3.parts m = none)) := fun u hu => by
        have hfu := HF2.out.below hu
        refine (Directory_any u Mb Sb T2 F2 S2 sh2 hfu.is.sm).mono fun e w4 ⟨he, hb, d', hdir, hrow⟩ => ⟨w4, u.heap.size, by rw [HNp.out]; exact he, rfl, hu.trans (hb.mono hu.size), ?_⟩
        have hld := load_raw (hfu.below hb) (by have := HS2.out.1; omega) (by have := hfu.puts; have := HPc.out; omega) hdir hrow (fun hm => by
          obtain ⟨_, _, _, _, h1⟩ := hfu.is.sm
          have := h1.lt _ (.inl hm); omega)
        rw [HS2.out.1, HS2.out.2.1, HS2.out.2.2, ← HNp.out] at hld
        exact hld.mono fun e w' ⟨Mb', T3, h1, h2, h3, h4, h5⟩ => ⟨Mb', T3, _, h1, (hu.trans (hb.mono hu.size)).trans (h2.mono (Nat.le_trans hu.size hb.size)), h3, h4, fun q hq => (h5 q hq).imp (fun h => h) (fun h => Nat.le_trans (Nat.le_trans hu.size hb.size) h), rfl, rfl, rfl, fun _ => rfl⟩
      have k3 : ∀ t : Kept w3 [], t.u.cell? ⟨Wb, 3, none⟩ = some (.pointer (some ⟨Sb, 0, none⟩)) := fun t => (t.h.row HF2.out.is.row (by simp)).cell 3
      have k4 : ∀ t : Kept w3 [], t.u.cell? ⟨Wb, 4, none⟩ = some (.pointer (some ⟨Mb, 0, none⟩)) := fun t => (t.h.row HF2.out.is.row (by simp)).cell 4
      have hS : ∃ t : Kept w3 [], w3.drew = t.u := ⟨⟨_, (Turns.refl _ _).drew⟩, rfl⟩
      have hmx : Try.prog.follows .mixedOrders = true := by kernel_rfl
      clear hnpe
      go_wp2
      refine wp_region_noPanic ?_
      refine region_treeW (fun u => ∃ t : Kept w3 [], u = t.u) (Tn.takes [0,1,2,3,4,6,7,8,9] (.two 5 10 (.one 10 (.one 11 (Tn.takes [12,13,14,15,16] .nil))) (.one 5 (.one 11 (Tn.takes [12,13,14,15,16] .nil))))) hmx (by kernel_rfl) (fun _ _ _ _ _ h => h) hS ?_
      simp only [Tn.takes]
      (repeat ((with_reducible refine wpTree_take (by with_unfolding_all exact rfl) ?_); (with_reducible (show wpQuiet _ _ _ _ (_ :: _) _)); go_big_quiet_step (fail); (with_reducible refine wpQuiet_nil ?_)))
      (with_reducible refine wpTree_two (by with_unfolding_all exact rfl) (by with_unfolding_all exact rfl) ?_ ?_)
      · gi_wp2_with fail
        (with_reducible refine outQ_normal ?_ ?_); exact hS
        (with_reducible refine wpTree_one (by with_unfolding_all exact rfl) ?_)
        gi_wp2_with fail
        refine ((callsIn_wide (n := 8)).2 (HDir.out _ ((Below.refl _ _).drew))).mono ?_
        rintro e w4 ⟨_, g, rfl, rfl, hb4, hld⟩
        have HB4 := Lib.hid hb4
        have HLd := Lib.hid hld
        clear hb4 hld HDir
        gi_wp2_with fail
        (with_reducible refine outQ_normal ?_ ?_); exact ⟨⟨w4, Turns.of_below HB4.out _⟩, rfl⟩
        (with_reducible refine wpTree_one (by with_unfolding_all exact rfl) ?_)
        gi_wp2_with fail
        refine ((callsIn_wide (n := 8)).2 HLd.out).mono ?_
        rintro e w5 ⟨Mc, T3, S3, rfl, hb5, hsm5, hpw5, hT3, hs3, hp3, hc3, hpn3⟩
        have HB5 := Lib.hid hb5
        gi_wp2_with fail
        (with_reducible refine outQ_normal ?_ ?_); exact ⟨⟨w5, Turns.of_below HB5.out _⟩, rfl⟩
        (repeat ((with_reducible refine wpTree_take (by with_unfolding_all exact rfl) ?_); (with_reducible (show wpQuiet _ _ _ _ (_ :: _) _)); go_big_quiet_step (fail); (with_reducible refine wpQuiet_nil ?_)))
        with_reducible refine wpTree_nil ?_
        refine NoPanic.normal ?_
        clear k3 k4 hS
        have HBW5 : Hid (Below W.heap.size W w5) := HB3.out.trans (HB5.out.mono HB3.out.size)
        have HRow5 := Lib.hid (HF2.out.is.row.below HB5.out HF2.out.is.row.lt)
        have HHas5 := Lib.hid (HF2.out.is.has.turns (Turns.of_below HB5.out []) (by simp))
        have k3 : w5.cell? ⟨Wb, 3, none⟩ = some (.pointer (some ⟨Sb, 0, none⟩)) := HRow5.out.cell 3
        have HPw5 := Lib.hid hpw5
        have HSm5 := Lib.hid hsm5
        have HT3 := Lib.hid hT3
        have HS3 : Hid (S3.sectors = a ∧ S3.each = 4 ∧ S3.cnt = 0) := ⟨hs3, by unfold Sm.each; rw [hp3], hc3⟩
        have HPn3 := Lib.hid hpn3
        have HHf : Hid (∀ i, hs i ≤ 262144) := hpw5.few
        have hsepW : Wb ∉ T3 ∧ Wb ∉ F2 := ⟨fun hm => (hT3 _ hm).elim HF2.out.is.sepW.1 (fun h => by have := HF2.out.is.row.lt; omega), HF2.out.is.sepW.2⟩
        have hsepH : Hb ∉ T3 ∧ Hb ∉ F2 := ⟨fun hm => (hT3 _ hm).elim HF2.out.is.sepH.1 (fun h => by have := HF2.out.is.has.lt; omega), HF2.out.is.sepH.2⟩
        have hlow : w1.heap.size ≤ Wb ∧ w1.heap.size ≤ Hb ∧ ∀ q ∈ T3, w1.heap.size ≤ q := ⟨HF2.out.is.low.1, HF2.out.is.low.2.1, fun q hq => (hT3 q hq).elim (HF2.out.is.low.2.2 q) (fun h => Nat.le_trans HF2.out.is.B_le h)⟩
        have HSp := Lib.hid (And.intro hsepW (And.intro hsepH hlow))
        have HFs : Hid (sh2.full = -1) := HF2.out.full.trans HFf.out
        have HPs : Hid (sh2.L.length ≤ 40600) := by have := HF2.out.puts; have := HPc.out; unfold Hid; omega
        clear hb5 hsm5 hpw5 hT3 hs3 hp3 hc3 hpn3 hsepW hsepH hlow HLd
        obtain ⟨ll, hll⟩ : ∃ ll, ll = sh2.L.length := ⟨_, rfl⟩
        have HLl := Lib.hid hll
        by_cases hz : ll = 0
        · obtain ⟨A1, c1, v2, hrow0⟩ := HSm5.out.shelf.row0
          have r0 := hrow0.cell 0
          simp only [List.getElem?_toArray, List.getElem?_cons_zero] at r0
          rw [← hll, hz] at r0
          clear hrow0 hll hz
          go_wp2
          go_ret
          exact ⟨rfl, HBW5.out⟩
        · obtain ⟨g1, c1, g2, c2, e0, e1, hcaps, hBg, hall⟩ := bad_lay HSm5.out HPw5.out HFs.out HPn3.out HRow5.out rfl HHas5.out HSp.out.1 HSp.out.2.1 HSp.out.2.2 Ao d co (HC8.out.keep (keep_below HBW5.out)) HDo.out HDl.out (fun x e h0 => Nat.lt_of_lt_of_le (HAlt.out x e h0) HBz.out) (by omega)
          rw [← hll] at e0 e1 hcaps
          rw [← HDle.out] at hall
          have HAll := Lib.hid hall
          have HBg := Lib.hid hBg
          have hll6 : ll ≤ 40600 := by have := HPs.out; omega
          obtain ⟨hcp1, hcp2⟩ := hcaps
          have hlpos : 0 < ll := by omega
          clear hall hBg hll hz
          have hlz : (((ll : Nat) : Int) == 0) = false := by simp; omega
          obtain ⟨r, hr⟩ : ∃ r, bad.tmod (ll : Int) = r := ⟨_, rfl⟩
          have hr1 : r < ll ∧ -(ll : Int) < r := by
            rw [← hr]
            have h1 := Int.tmod_lt_of_pos bad (show (0 : Int) < ll by omega)
            have h2 := Int.tmod_lt_of_pos (-bad) (show (0 : Int) < ll by omega)
            rw [Int.neg_tmod] at h2
            exact ⟨h1, by omega⟩
          obtain ⟨hr1, hr2⟩ := hr1
          by_cases hr0 : r < 0
          · obtain ⟨k, hk⟩ : ∃ k : Nat, r + (ll : Int) = k := ⟨(r + ll).toNat, by omega⟩
            have hkl : k < ll := by omega
            obtain ⟨nn, hnn⟩ : ∃ nn, sh2.N[k]? = some nn := ⟨_, List.getElem?_eq_getElem (by rw [HPw5.out.wl.same, ← HLl.out]; exact hkl)⟩
            obtain ⟨⟨v0, q0⟩, f0, hset, F4, hwd⟩ := HAll.out k nn hnn
            obtain ⟨e1', q2', hWc⟩ := hset (.slice Ao dl co)
            rw [← HLl.out] at e1'
            have k3' := (hWc 3).trans k3
            have HWd := Lib.hid hwd
            clear hset hWc hwd hnn
            go_wp2
            clear e0 e1 q0 f0 e1' q2' k3 k3'
            have HW6 : Hid (Wsb w1.heap.size (w5.setCell ⟨g1, k, none⟩ (.slice Ao dl co)) Wb Mc Hb a hs nn 40600 0) := ⟨Sb, T3, F4, S3, _, HWd.out, HS3.out.1, HS3.out.2.1, by show (sh2.L.set k d).length ≤ _; rw [List.length_set]; exact HPs.out, by rw [HS3.out.2.2]; exact Nat.le_refl _⟩
            have HB6 : Hid (Below W.heap.size W (w5.setCell ⟨g1, k, none⟩ (.slice Ao dl co))) := HBW5.out.setCell (Nat.le_trans HBz.out HBg.out) _
            go_loopw [14] (fun v wr => ∃ i : Nat, v = .int .i64 i ∧ i ≤ a ∧ Wsb w1.heap.size wr Wb Mc Hb a hs nn (40600 + i) (0 + i) ∧ Below W.heap.size W wr) (fun v _ => a - (intOf v).toNat)
            case atStart => exact ⟨0, rfl, by omega, HW6.out, HB6.out⟩
            case round =>
              obtain ⟨i, rfl, hi, hw, hb⟩ := hrel
              have HWx := Lib.hid hw
              have HBx := Lib.hid hb
              clear hw hb
              by_cases hia : i < a
              · have HG := Lib.hid (HWx.out.get (by omega) i hia)
                have HVf := Lib.hid (HHf.out i)
                go_wp2_with fail
                refine HG.out.mono ?_
                rintro e w7 ⟨⟨v, z, rfl, hv, hz, hne⟩, hw7, hb7⟩
                obtain ⟨b, p, hnv, hb6, hp6, hv0⟩ := numV_right hv
                rw [hnv]
                have HNv := Lib.hid hnv
                have HB7 : Hid (Below W.heap.size W w7) := HBx.out.trans (hb7.mono HBz.out)
                have HBa : Hid (Below w7.heap.size w7 (w7.alloc (.cells #[.int .i64 b, .int .i64 p] 28))) := by unfold Hid; (repeat (first | (with_reducible refine Below.drew ?_) | (with_reducible refine below_drewN0 ?_ _) | ((with_reducible refine Below.setCell ?_ ?_ _); rotate_left; focus (first | omega | (simp; done) | (simp; omega) | (simp at *; omega))) | ((with_reducible refine Below.alloc ?_ ?_ _); rotate_left; focus (first | omega | (simp; done) | (simp; omega) | (simp at *; omega))) | (with_reducible exact Below.refl _ _)))
                have HB7a : Hid (Below W.heap.size W (w7.alloc (.cells #[.int .i64 b, .int .i64 p] 28))) := HB7.out.trans (HBa.out.mono HB7.out.size)
                have HW7a := Lib.hid (hw7.below HBa.out)
                obtain ⟨k5, hhas, hBw⟩ := HW7a.out.facts
                have hlk := hhas.look i (by omega)
                obtain ⟨b2, p2, hnv2, _, _, _⟩ := numV_right HVf.out
                rw [hnv2] at hlk
                have HBc : Hid (Below (w7.alloc (.cells #[.int .i64 b, .int .i64 p] 28)).heap.size (w7.alloc (.cells #[.int .i64 b, .int .i64 p] 28)) ((w7.alloc (.cells #[.int .i64 b, .int .i64 p] 28)).alloc (.cells #[.int .i64 b2, .int .i64 p2] 28))) := by unfold Hid; (repeat (first | (with_reducible refine Below.drew ?_) | (with_reducible refine below_drewN0 ?_ _) | ((with_reducible refine Below.setCell ?_ ?_ _); rotate_left; focus (first | omega | (simp; done) | (simp; omega) | (simp at *; omega))) | ((with_reducible refine Below.alloc ?_ ?_ _); rotate_left; focus (first | omega | (simp; done) | (simp; omega) | (simp at *; omega))) | (with_reducible exact Below.refl _ _)))
                have HB8 : Hid (Below W.heap.size W ((w7.alloc (.cells #[.int .i64 b, .int .i64 p] 28)).alloc (.cells #[.int .i64 b2, .int .i64 p2] 28))) := HB7a.out.trans (HBc.out.mono HB7a.out.size)
                have HW8 := Lib.hid (HW7a.out.below HBc.out)
                have hi4 : (i : Int) / 4 = ((i / 4 : Nat) : Int) := by omega
                obtain ⟨i4, hi4e⟩ : ∃ i4, i4 = i / 4 := ⟨_, rfl⟩
                rw [← hi4e] at hi4 hne
                have HNe := Lib.hid hne
                have HZ := Lib.hid hz
                have HRi : Hid (∀ u, Calls Try.prog 10 #[.agg #[.int .i64 b, .int .i64 p]] u fun e w' => e = .returned (.bool true) ∧ Below u.heap.size u w') := fun u => by
                  have := lright_any b p u
                  rw [show rightB b p = true from decide_eq_true (by omega)] at this
                  exact this
                clear hne hz hnv hw7 hb7 hhas hBw HG hi4e HWx HBx hv0
                by_cases hn : (i4 : Int) = nn
                · have hn1 := hn
                  rcases HZ.out with rfl | ⟨rfl, rfl⟩
                  · by_cases h0 : v = 0
                    · subst h0
                      go_wp2
                      go_roundw
                      case rel => exact ⟨i + 1, by go_num, by omega, HW8.out, HB8.out⟩
                      case measure => simp [intOf]; omega
                    · have z0 : ((w7.alloc (.cells #[.int .i64 b, .int .i64 p] 28)).alloc (.cells #[.int .i64 b2, .int .i64 p2] 28)).cell? ⟨w7.heap.size, 0, none⟩ = some (.int .i64 b) := ((Row.fresh w7 28 #[.int .i64 b, .int .i64 p]).alloc _).cell 0
                      have z1 : ((w7.alloc (.cells #[.int .i64 b, .int .i64 p] 28)).alloc (.cells #[.int .i64 b2, .int .i64 p2] 28)).cell? ⟨w7.heap.size, 1, none⟩ = some (.int .i64 p) := ((Row.fresh w7 28 #[.int .i64 b, .int .i64 p]).alloc _).cell 1
                      go_wp2_with fail
                      refine (HRi.out _).mono ?_
                      rintro e w9 ⟨rfl, hb9⟩
                      have HW9 := Lib.hid (HW8.out.below hb9)
                      have HB9 : Hid (Below W.heap.size W w9) := HB8.out.trans (hb9.mono HB8.out.size)
                      clear hb9
                      go_wp2
                      go_roundw
                      case rel => exact ⟨i + 1, by go_num, by omega, HW9.out, HB9.out⟩
                      case measure => simp [intOf]; omega
                  · go_wp2
                    go_roundw
                    case rel => exact ⟨i + 1, by go_num, by omega, HW8.out, HB8.out⟩
                    case measure => simp [intOf]; omega
                · obtain ⟨rfl, hvh⟩ := HNe.out hn
                  have hbb : b2 = b ∧ p2 = p := by
                    rw [← hvh, HNv.out] at hnv2
                    simp only [Value.agg.injEq, Array.mk.injEq, List.cons.injEq, Value.int.injEq, true_and, and_true] at hnv2
                    omega
                  obtain ⟨rfl, rfl⟩ := hbb
                  rw [← hvh] at hlk
                  have z0 : ((w7.alloc (.cells #[.int .i64 b2, .int .i64 p2] 28)).alloc (.cells #[.int .i64 b2, .int .i64 p2] 28)).cell? ⟨w7.heap.size, 0, none⟩ = some (.int .i64 b2) := ((Row.fresh w7 28 #[.int .i64 b2, .int .i64 p2]).alloc _).cell 0
                  have z1 : ((w7.alloc (.cells #[.int .i64 b2, .int .i64 p2] 28)).alloc (.cells #[.int .i64 b2, .int .i64 p2] 28)).cell? ⟨w7.heap.size, 1, none⟩ = some (.int .i64 p2) := ((Row.fresh w7 28 #[.int .i64 b2, .int .i64 p2]).alloc _).cell 1
                  clear hvh hnv2
                  have hn1 : ¬ (i4 : Int) = nn := hn
                  go_wp2
                  go_roundw
                  case rel => exact ⟨i + 1, by go_num, by omega, HW8.out, HB8.out⟩
                  case measure => simp [intOf]; omega
              · go_wp2
                go_ret
                exact ⟨rfl, HBx.out⟩
          · obtain ⟨k, hk⟩ : ∃ k : Nat, r = k := ⟨r.toNat, by omega⟩
            have hkl : k < ll := by omega
            subst hk
            obtain ⟨nn, hnn⟩ : ∃ nn, sh2.N[k]? = some nn := ⟨_, List.getElem?_eq_getElem (by rw [HPw5.out.wl.same, ← HLl.out]; exact hkl)⟩
            obtain ⟨⟨v0, q0⟩, f0, hset, F4, hwd⟩ := HAll.out k nn hnn
            obtain ⟨e1', q2', hWc⟩ := hset (.slice Ao dl co)
            rw [← HLl.out] at e1'
            have k3' := (hWc 3).trans k3
            have HWd := Lib.hid hwd
            clear hset hWc hwd hnn
            go_wp2
            clear e0 e1 q0 f0 e1' q2' k3 k3'
            have HW6 : Hid (Wsb w1.heap.size (w5.setCell ⟨g1, k, none⟩ (.slice Ao dl co)) Wb Mc Hb a hs nn 40600 0) := ⟨Sb, T3, F4, S3, _, HWd.out, HS3.out.1, HS3.out.2.1, by show (sh2.L.set k d).length ≤ _; rw [List.length_set]; exact HPs.out, by rw [HS3.out.2.2]; exact Nat.le_refl _⟩
            have HB6 : Hid (Below W.heap.size W (w5.setCell ⟨g1, k, none⟩ (.slice Ao dl co))) := HBW5.out.setCell (Nat.le_trans HBz.out HBg.out) _
            go_loopw [14] (fun v wr => ∃ i : Nat, v = .int .i64 i ∧ i ≤ a ∧ Wsb w1.heap.size wr Wb Mc Hb a hs nn (40600 + i) (0 + i) ∧ Below W.heap.size W wr) (fun v _ => a - (intOf v).toNat)
            case atStart => exact ⟨0, rfl, by omega, HW6.out, HB6.out⟩
            case round =>
              obtain ⟨i, rfl, hi, hw, hb⟩ := hrel
              have HWx := Lib.hid hw
              have HBx := Lib.hid hb
              clear hw hb
              by_cases hia : i < a
              · have HG := Lib.hid (HWx.out.get (by omega) i hia)
                have HVf := Lib.hid (HHf.out i)
                go_wp2_with fail
                refine HG.out.mono ?_
                rintro e w7 ⟨⟨v, z, rfl, hv, hz, hne⟩, hw7, hb7⟩
                obtain ⟨b, p, hnv, hb6, hp6, hv0⟩ := numV_right hv
                rw [hnv]
                have HNv := Lib.hid hnv
                have HB7 : Hid (Below W.heap.size W w7) := HBx.out.trans (hb7.mono HBz.out)
                have HBa : Hid (Below w7.heap.size w7 (w7.alloc (.cells #[.int .i64 b, .int .i64 p] 28))) := by unfold Hid; (repeat (first | (with_reducible refine Below.drew ?_) | (with_reducible refine below_drewN0 ?_ _) | ((with_reducible refine Below.setCell ?_ ?_ _); rotate_left; focus (first | omega | (simp; done) | (simp; omega) | (simp at *; omega))) | ((with_reducible refine Below.alloc ?_ ?_ _); rotate_left; focus (first | omega | (simp; done) | (simp; omega) | (simp at *; omega))) | (with_reducible exact Below.refl _ _)))
                have HB7a : Hid (Below W.heap.size W (w7.alloc (.cells #[.int .i64 b, .int .i64 p] 28))) := HB7.out.trans (HBa.out.mono HB7.out.size)
                have HW7a := Lib.hid (hw7.below HBa.out)
                obtain ⟨k5, hhas, hBw⟩ := HW7a.out.facts
                have hlk := hhas.look i (by omega)
                obtain ⟨b2, p2, hnv2, _, _, _⟩ := numV_right HVf.out
                rw [hnv2] at hlk
                have HBc : Hid (Below (w7.alloc (.cells #[.int .i64 b, .int .i64 p] 28)).heap.size (w7.alloc (.cells #[.int .i64 b, .int .i64 p] 28)) ((w7.alloc (.cells #[.int .i64 b, .int .i64 p] 28)).alloc (.cells #[.int .i64 b2, .int .i64 p2] 28))) := by unfold Hid; (repeat (first | (with_reducible refine Below.drew ?_) | (with_reducible refine below_drewN0 ?_ _) | ((with_reducible refine Below.setCell ?_ ?_ _); rotate_left; focus (first | omega | (simp; done) | (simp; omega) | (simp at *; omega))) | ((with_reducible refine Below.alloc ?_ ?_ _); rotate_left; focus (first | omega | (simp; done) | (simp; omega) | (simp at *; omega))) | (with_reducible exact Below.refl _ _)))
                have HB8 : Hid (Below W.heap.size W ((w7.alloc (.cells #[.int .i64 b, .int .i64 p] 28)).alloc (.cells #[.int .i64 b2, .int .i64 p2] 28))) := HB7a.out.trans (HBc.out.mono HB7a.out.size)
                have HW8 := Lib.hid (HW7a.out.below HBc.out)
                have hi4 : (i : Int) / 4 = ((i / 4 : Nat) : Int) := by omega
                obtain ⟨i4, hi4e⟩ : ∃ i4, i4 = i / 4 := ⟨_, rfl⟩
                rw [← hi4e] at hi4 hne
                have HNe := Lib.hid hne
                have HZ := Lib.hid hz
                have HRi : Hid (∀ u, Calls Try.prog 10 #[.agg #[.int .i64 b, .int .i64 p]] u fun e w' => e = .returned (.bool true) ∧ Below u.heap.size u w') := fun u => by
                  have := lright_any b p u
                  rw [show rightB b p = true from decide_eq_true (by omega)] at this
                  exact this
                clear hne hz hnv hw7 hb7 hhas hBw HG hi4e HWx HBx hv0
                by_cases hn : (i4 : Int) = nn
                · have hn1 := hn
                  rcases HZ.out with rfl | ⟨rfl, rfl⟩
                  · by_cases h0 : v = 0
                    · subst h0
                      go_wp2
                      go_roundw
                      case rel => exact ⟨i + 1, by go_num, by omega, HW8.out, HB8.out⟩
                      case measure => simp [intOf]; omega
                    · have z0 : ((w7.alloc (.cells #[.int .i64 b, .int .i64 p] 28)).alloc (.cells #[.int .i64 b2, .int .i64 p2] 28)).cell? ⟨w7.heap.size, 0, none⟩ = some (.int .i64 b) := ((Row.fresh w7 28 #[.int .i64 b, .int .i64 p]).alloc _).cell 0
                      have z1 : ((w7.alloc (.cells #[.int .i64 b, .int .i64 p] 28)).alloc (.cells #[.int .i64 b2, .int .i64 p2] 28)).cell? ⟨w7.heap.size, 1, none⟩ = some (.int .i64 p) := ((Row.fresh w7 28 #[.int .i64 b, .int .i64 p]).alloc _).cell 1
                      go_wp2_with fail
                      refine (HRi.out _).mono ?_
                      rintro e w9 ⟨rfl, hb9⟩
                      have HW9 := Lib.hid (HW8.out.below hb9)
                      have HB9 : Hid (Below W.heap.size W w9) := HB8.out.trans (hb9.mono HB8.out.size)
                      clear hb9
                      go_wp2
                      go_roundw
                      case rel => exact ⟨i + 1, by go_num, by omega, HW9.out, HB9.out⟩
                      case measure => simp [intOf]; omega
                  · go_wp2
                    go_roundw
                    case rel => exact ⟨i + 1, by go_num, by omega, HW8.out, HB8.out⟩
                    case measure => simp [intOf]; omega
                · obtain ⟨rfl, hvh⟩ := HNe.out hn
                  have hbb : b2 = b ∧ p2 = p := by
                    rw [← hvh, HNv.out] at hnv2
                    simp only [Value.agg.injEq, Array.mk.injEq, List.cons.injEq, Value.int.injEq, true_and, and_true] at hnv2
                    omega
                  obtain ⟨rfl, rfl⟩ := hbb
                  rw [← hvh] at hlk
                  have z0 : ((w7.alloc (.cells #[.int .i64 b2, .int .i64 p2] 28)).alloc (.cells #[.int .i64 b2, .int .i64 p2] 28)).cell? ⟨w7.heap.size, 0, none⟩ = some (.int .i64 b2) := ((Row.fresh w7 28 #[.int .i64 b2, .int .i64 p2]).alloc _).cell 0
                  have z1 : ((w7.alloc (.cells #[.int .i64 b2, .int .i64 p2] 28)).alloc (.cells #[.int .i64 b2, .int .i64 p2] 28)).cell? ⟨w7.heap.size, 1, none⟩ = some (.int .i64 p2) := ((Row.fresh w7 28 #[.int .i64 b2, .int .i64 p2]).alloc _).cell 1
                  clear hvh hnv2
                  have hn1 : ¬ (i4 : Int) = nn := hn
                  go_wp2
                  go_roundw
                  case rel => exact ⟨i + 1, by go_num, by omega, HW8.out, HB8.out⟩
                  case measure => simp [intOf]; omega
              · go_wp2
                go_ret
                exact ⟨rfl, HBx.out⟩
      · gi_wp2_with fail
        refine ((callsIn_wide (n := 8)).2 (HDir.out _ ((Below.refl _ _).drew))).mono ?_
        rintro e w4 ⟨_, g, rfl, rfl, hb4, hld⟩
        have HB4 := Lib.hid hb4
        have HLd := Lib.hid hld
        clear hb4 hld HDir
        gi_wp2_with fail
        (with_reducible refine outQ_normal ?_ ?_); exact ⟨⟨w4, Turns.of_below HB4.out _⟩, rfl⟩
        (with_reducible refine wpTree_one (by with_unfolding_all exact rfl) ?_)
        gi_wp2_with fail
        (with_reducible refine outQ_normal ?_ ?_); exact ⟨⟨w4, Turns.of_below HB4.out _⟩, rfl⟩
        (with_reducible refine wpTree_one (by with_unfolding_all exact rfl) ?_)
        gi_wp2_with fail
        refine ((callsIn_wide (n := 8)).2 HLd.out).mono ?_
        rintro e w5 ⟨Mc, T3, S3, rfl, hb5, hsm5, hpw5, hT3, hs3, hp3, hc3, hpn3⟩
        have HB5 := Lib.hid hb5
        gi_wp2_with fail
        (with_reducible refine outQ_normal ?_ ?_); exact ⟨⟨w5, Turns.of_below HB5.out _⟩, rfl⟩
        (repeat ((with_reducible refine wpTree_take (by with_unfolding_all exact rfl) ?_); (with_reducible (show wpQuiet _ _ _ _ (_ :: _) _)); go_big_quiet_step (fail); (with_reducible refine wpQuiet_nil ?_)))
        with_reducible refine wpTree_nil ?_
        refine NoPanic.normal ?_
        clear k3 k4 hS
        have HBW5 : Hid (Below W.heap.size W w5) := HB3.out.trans (HB5.out.mono HB3.out.size)
        have HRow5 := Lib.hid (HF2.out.is.row.below HB5.out HF2.out.is.row.lt)
        have HHas5 := Lib.hid (HF2.out.is.has.turns (Turns.of_below HB5.out []) (by simp))
        have k3 : w5.cell? ⟨Wb, 3, none⟩ = some (.pointer (some ⟨Sb, 0, none⟩)) := HRow5.out.cell 3
        have HPw5 := Lib.hid hpw5
        have HSm5 := Lib.hid hsm5
        have HT3 := Lib.hid hT3
        have HS3 : Hid (S3.sectors = a ∧ S3.each = 4 ∧ S3.cnt = 0) := ⟨hs3, by unfold Sm.each; rw [hp3], hc3⟩
        have HPn3 := Lib.hid hpn3
        have HHf : Hid (∀ i, hs i ≤ 262144) := hpw5.few
        have hsepW : Wb ∉ T3 ∧ Wb ∉ F2 := ⟨fun hm => (hT3 _ hm).elim HF2.out.is.sepW.1 (fun h => by have := HF2.out.is.row.lt; omega), HF2.out.is.sepW.2⟩
        have hsepH : Hb ∉ T3 ∧ Hb ∉ F2 := ⟨fun hm => (hT3 _ hm).elim HF2.out.is.sepH.1 (fun h => by have := HF2.out.is.has.lt; omega), HF2.out.is.sepH.2⟩
        have hlow : w1.heap.size ≤ Wb ∧ w1.heap.size ≤ Hb ∧ ∀ q ∈ T3, w1.heap.size ≤ q := ⟨HF2.out.is.low.1, HF2.out.is.low.2.1, fun q hq => (hT3 q hq).elim (HF2.out.is.low.2.2 q) (fun h => Nat.le_trans HF2.out.is.B_le h)⟩
        have HSp := Lib.hid (And.intro hsepW (And.intro hsepH hlow))
        have HFs : Hid (sh2.full = -1) := HF2.out.full.trans HFf.out
        have HPs : Hid (sh2.L.length ≤ 40600) := by have := HF2.out.puts; have := HPc.out; unfold Hid; omega
        clear hb5 hsm5 hpw5 hT3 hs3 hp3 hc3 hpn3 hsepW hsepH hlow HLd
        obtain ⟨ll, hll⟩ : ∃ ll, ll = sh2.L.length := ⟨_, rfl⟩
        have HLl := Lib.hid hll
        by_cases hz : ll = 0
        · obtain ⟨A1, c1, v2, hrow0⟩ := HSm5.out.shelf.row0
          have r0 := hrow0.cell 0
          simp only [List.getElem?_toArray, List.getElem?_cons_zero] at r0
          rw [← hll, hz] at r0
          clear hrow0 hll hz
          go_wp2
          go_ret
          exact ⟨rfl, HBW5.out⟩
        · obtain ⟨g1, c1, g2, c2, e0, e1, hcaps, hBg, hall⟩ := bad_lay HSm5.out HPw5.out HFs.out HPn3.out HRow5.out rfl HHas5.out HSp.out.1 HSp.out.2.1 HSp.out.2.2 Ao d co (HC8.out.keep (keep_below HBW5.out)) HDo.out HDl.out (fun x e h0 => Nat.lt_of_lt_of_le (HAlt.out x e h0) HBz.out) (by omega)
          rw [← hll] at e0 e1 hcaps
          rw [← HDle.out] at hall
          have HAll := Lib.hid hall
          have HBg := Lib.hid hBg
          have hll6 : ll ≤ 40600 := by have := HPs.out; omega
          obtain ⟨hcp1, hcp2⟩ := hcaps
          have hlpos : 0 < ll := by omega
          clear hall hBg hll hz
          have hlz : (((ll : Nat) : Int) == 0) = false := by simp; omega
          obtain ⟨r, hr⟩ : ∃ r, bad.tmod (ll : Int) = r := ⟨_, rfl⟩
          have hr1 : r < ll ∧ -(ll : Int) < r := by
            rw [← hr]
            have h1 := Int.tmod_lt_of_pos bad (show (0 : Int) < ll by omega)
            have h2 := Int.tmod_lt_of_pos (-bad) (show (0 : Int) < ll by omega)
            rw [Int.neg_tmod] at h2
            exact ⟨h1, by omega⟩
          obtain ⟨hr1, hr2⟩ := hr1
          by_cases hr0 : r < 0
          · obtain ⟨k, hk⟩ : ∃ k : Nat, r + (ll : Int) = k := ⟨(r + ll).toNat, by omega⟩
            have hkl : k < ll := by omega
            obtain ⟨nn, hnn⟩ : ∃ nn, sh2.N[k]? = some nn := ⟨_, List.getElem?_eq_getElem (by rw [HPw5.out.wl.same, ← HLl.out]; exact hkl)⟩
            obtain ⟨⟨v0, q0⟩, f0, hset, F4, hwd⟩ := HAll.out k nn hnn
            obtain ⟨e1', q2', hWc⟩ := hset (.slice Ao dl co)
            rw [← HLl.out] at e1'
            have k3' := (hWc 3).trans k3
            have HWd := Lib.hid hwd
            clear hset hWc hwd hnn
            go_wp2
            clear e0 e1 q0 f0 e1' q2' k3 k3'
            have HW6 : Hid (Wsb w1.heap.size (w5.setCell ⟨g1, k, none⟩ (.slice Ao dl co)) Wb Mc Hb a hs nn 40600 0) := ⟨Sb, T3, F4, S3, _, HWd.out, HS3.out.1, HS3.out.2.1, by show (sh2.L.set k d).length ≤ _; rw [List.length_set]; exact HPs.out, by rw [HS3.out.2.2]; exact Nat.le_refl _⟩
            have HB6 : Hid (Below W.heap.size W (w5.setCell ⟨g1, k, none⟩ (.slice Ao dl co))) := HBW5.out.setCell (Nat.le_trans HBz.out HBg.out) _
            go_loopw [14] (fun v wr => ∃ i : Nat, v = .int .i64 i ∧ i ≤ a ∧ Wsb w1.heap.size wr Wb Mc Hb a hs nn (40600 + i) (0 + i) ∧ Below W.heap.size W wr) (fun v _ => a - (intOf v).toNat)
            case atStart => exact ⟨0, rfl, by omega, HW6.out, HB6.out⟩
            case round =>
              obtain ⟨i, rfl, hi, hw, hb⟩ := hrel
              have HWx := Lib.hid hw
              have HBx := Lib.hid hb
              clear hw hb
              by_cases hia : i < a
              · have HG := Lib.hid (HWx.out.get (by omega) i hia)
                have HVf := Lib.hid (HHf.out i)
                go_wp2_with fail
                refine HG.out.mono ?_
                rintro e w7 ⟨⟨v, z, rfl, hv, hz, hne⟩, hw7, hb7⟩
                obtain ⟨b, p, hnv, hb6, hp6, hv0⟩ := numV_right hv
                rw [hnv]
                have HNv := Lib.hid hnv
                have HB7 : Hid (Below W.heap.size W w7) := HBx.out.trans (hb7.mono HBz.out)
                have HBa : Hid (Below w7.heap.size w7 (w7.alloc (.cells #[.int .i64 b, .int .i64 p] 28))) := by unfold Hid; (repeat (first | (with_reducible refine Below.drew ?_) | (with_reducible refine below_drewN0 ?_ _) | ((with_reducible refine Below.setCell ?_ ?_ _); rotate_left; focus (first | omega | (simp; done) | (simp; omega) | (simp at *; omega))) | ((with_reducible refine Below.alloc ?_ ?_ _); rotate_left; focus (first | omega | (simp; done) | (simp; omega) | (simp at *; omega))) | (with_reducible exact Below.refl _ _)))
                have HB7a : Hid (Below W.heap.size W (w7.alloc (.cells #[.int .i64 b, .int .i64 p] 28))) := HB7.out.trans (HBa.out.mono HB7.out.size)
                have HW7a := Lib.hid (hw7.below HBa.out)
                obtain ⟨k5, hhas, hBw⟩ := HW7a.out.facts
                have hlk := hhas.look i (by omega)
                obtain ⟨b2, p2, hnv2, _, _, _⟩ := numV_right HVf.out
                rw [hnv2] at hlk
                have HBc : Hid (Below (w7.alloc (.cells #[.int .i64 b, .int .i64 p] 28)).heap.size (w7.alloc (.cells #[.int .i64 b, .int .i64 p] 28)) ((w7.alloc (.cells #[.int .i64 b, .int .i64 p] 28)).alloc (.cells #[.int .i64 b2, .int .i64 p2] 28))) := by unfold Hid; (repeat (first | (with_reducible refine Below.drew ?_) | (with_reducible refine below_drewN0 ?_ _) | ((with_reducible refine Below.setCell ?_ ?_ _); rotate_left; focus (first | omega | (simp; done) | (simp; omega) | (simp at *; omega))) | ((with_reducible refine Below.alloc ?_ ?_ _); rotate_left; focus (first | omega | (simp; done) | (simp; omega) | (simp at *; omega))) | (with_reducible exact Below.refl _ _)))
                have HB8 : Hid (Below W.heap.size W ((w7.alloc (.cells #[.int .i64 b, .int .i64 p] 28)).alloc (.cells #[.int .i64 b2, .int .i64 p2] 28))) := HB7a.out.trans (HBc.out.mono HB7a.out.size)
                have HW8 := Lib.hid (HW7a.out.below HBc.out)
                have hi4 : (i : Int) / 4 = ((i / 4 : Nat) : Int) := by omega
                obtain ⟨i4, hi4e⟩ : ∃ i4, i4 = i / 4 := ⟨_, rfl⟩
                rw [← hi4e] at hi4 hne
                have HNe := Lib.hid hne
                have HZ := Lib.hid hz
                have HRi : Hid (∀ u, Calls Try.prog 10 #[.agg #[.int .i64 b, .int .i64 p]] u fun e w' => e = .returned (.bool true) ∧ Below u.heap.size u w') := fun u => by
                  have := lright_any b p u
                  rw [show rightB b p = true from decide_eq_true (by omega)] at this
                  exact this
                clear hne hz hnv hw7 hb7 hhas hBw HG hi4e HWx HBx hv0
                by_cases hn : (i4 : Int) = nn
                · have hn1 := hn
                  rcases HZ.out with rfl | ⟨rfl, rfl⟩
                  · by_cases h0 : v = 0
                    · subst h0
                      go_wp2
                      go_roundw
                      case rel => exact ⟨i + 1, by go_num, by omega, HW8.out, HB8.out⟩
                      case measure => simp [intOf]; omega
                    · have z0 : ((w7.alloc (.cells #[.int .i64 b, .int .i64 p] 28)).alloc (.cells #[.int .i64 b2, .int .i64 p2] 28)).cell? ⟨w7.heap.size, 0, none⟩ = some (.int .i64 b) := ((Row.fresh w7 28 #[.int .i64 b, .int .i64 p]).alloc _).cell 0
                      have z1 : ((w7.alloc (.cells #[.int .i64 b, .int .i64 p] 28)).alloc (.cells #[.int .i64 b2, .int .i64 p2] 28)).cell? ⟨w7.heap.size, 1, none⟩ = some (.int .i64 p) := ((Row.fresh w7 28 #[.int .i64 b, .int .i64 p]).alloc _).cell 1
                      go_wp2_with fail
                      refine (HRi.out _).mono ?_
                      rintro e w9 ⟨rfl, hb9⟩
                      have HW9 := Lib.hid (HW8.out.below hb9)
                      have HB9 : Hid (Below W.heap.size W w9) := HB8.out.trans (hb9.mono HB8.out.size)
                      clear hb9
                      go_wp2
                      go_roundw
                      case rel => exact ⟨i + 1, by go_num, by omega, HW9.out, HB9.out⟩
                      case measure => simp [intOf]; omega
                  · go_wp2
                    go_roundw
                    case rel => exact ⟨i + 1, by go_num, by omega, HW8.out, HB8.out⟩
                    case measure => simp [intOf]; omega
                · obtain ⟨rfl, hvh⟩ := HNe.out hn
                  have hbb : b2 = b ∧ p2 = p := by
                    rw [← hvh, HNv.out] at hnv2
                    simp only [Value.agg.injEq, Array.mk.injEq, List.cons.injEq, Value.int.injEq, true_and, and_true] at hnv2
                    omega
                  obtain ⟨rfl, rfl⟩ := hbb
                  rw [← hvh] at hlk
                  have z0 : ((w7.alloc (.cells #[.int .i64 b2, .int .i64 p2] 28)).alloc (.cells #[.int .i64 b2, .int .i64 p2] 28)).cell? ⟨w7.heap.size, 0, none⟩ = some (.int .i64 b2) := ((Row.fresh w7 28 #[.int .i64 b2, .int .i64 p2]).alloc _).cell 0
                  have z1 : ((w7.alloc (.cells #[.int .i64 b2, .int .i64 p2] 28)).alloc (.cells #[.int .i64 b2, .int .i64 p2] 28)).cell? ⟨w7.heap.size, 1, none⟩ = some (.int .i64 p2) := ((Row.fresh w7 28 #[.int .i64 b2, .int .i64 p2]).alloc _).cell 1
                  clear hvh hnv2
                  have hn1 : ¬ (i4 : Int) = nn := hn
                  go_wp2
                  go_roundw
                  case rel => exact ⟨i + 1, by go_num, by omega, HW8.out, HB8.out⟩
                  case measure => simp [intOf]; omega
              · go_wp2
                go_ret
                exact ⟨rfl, HBx.out⟩
          · obtain ⟨k, hk⟩ : ∃ k : Nat, r = k := ⟨r.toNat, by omega⟩
            have hkl : k < ll := by omega
            subst hk
            obtain ⟨nn, hnn⟩ : ∃ nn, sh2.N[k]? = some nn := ⟨_, List.getElem?_eq_getElem (by rw [HPw5.out.wl.same, ← HLl.out]; exact hkl)⟩
            obtain ⟨⟨v0, q0⟩, f0, hset, F4, hwd⟩ := HAll.out k nn hnn
            obtain ⟨e1', q2', hWc⟩ := hset (.slice Ao dl co)
            rw [← HLl.out] at e1'
            have k3' := (hWc 3).trans k3
            have HWd := Lib.hid hwd
            clear hset hWc hwd hnn
            go_wp2
            clear e0 e1 q0 f0 e1' q2' k3 k3'
            have HW6 : Hid (Wsb w1.heap.size (w5.setCell ⟨g1, k, none⟩ (.slice Ao dl co)) Wb Mc Hb a hs nn 40600 0) := ⟨Sb, T3, F4, S3, _, HWd.out, HS3.out.1, HS3.out.2.1, by show (sh2.L.set k d).length ≤ _; rw [List.length_set]; exact HPs.out, by rw [HS3.out.2.2]; exact Nat.le_refl _⟩
            have HB6 : Hid (Below W.heap.size W (w5.setCell ⟨g1, k, none⟩ (.slice Ao dl co))) := HBW5.out.setCell (Nat.le_trans HBz.out HBg.out) _
            go_loopw [14] (fun v wr => ∃ i : Nat, v = .int .i64 i ∧ i ≤ a ∧ Wsb w1.heap.size wr Wb Mc Hb a hs nn (40600 + i) (0 + i) ∧ Below W.heap.size W wr) (fun v _ => a - (intOf v).toNat)
            case atStart => exact ⟨0, rfl, by omega, HW6.out, HB6.out⟩
            case round =>
              obtain ⟨i, rfl, hi, hw, hb⟩ := hrel
              have HWx := Lib.hid hw
              have HBx := Lib.hid hb
              clear hw hb
              by_cases hia : i < a
              · have HG := Lib.hid (HWx.out.get (by omega) i hia)
                have HVf := Lib.hid (HHf.out i)
                go_wp2_with fail
                refine HG.out.mono ?_
                rintro e w7 ⟨⟨v, z, rfl, hv, hz, hne⟩, hw7, hb7⟩
                obtain ⟨b, p, hnv, hb6, hp6, hv0⟩ := numV_right hv
                rw [hnv]
                have HNv := Lib.hid hnv
                have HB7 : Hid (Below W.heap.size W w7) := HBx.out.trans (hb7.mono HBz.out)
                have HBa : Hid (Below w7.heap.size w7 (w7.alloc (.cells #[.int .i64 b, .int .i64 p] 28))) := by unfold Hid; (repeat (first | (with_reducible refine Below.drew ?_) | (with_reducible refine below_drewN0 ?_ _) | ((with_reducible refine Below.setCell ?_ ?_ _); rotate_left; focus (first | omega | (simp; done) | (simp; omega) | (simp at *; omega))) | ((with_reducible refine Below.alloc ?_ ?_ _); rotate_left; focus (first | omega | (simp; done) | (simp; omega) | (simp at *; omega))) | (with_reducible exact Below.refl _ _)))
                have HB7a : Hid (Below W.heap.size W (w7.alloc (.cells #[.int .i64 b, .int .i64 p] 28))) := HB7.out.trans (HBa.out.mono HB7.out.size)
                have HW7a := Lib.hid (hw7.below HBa.out)
                obtain ⟨k5, hhas, hBw⟩ := HW7a.out.facts
                have hlk := hhas.look i (by omega)
                obtain ⟨b2, p2, hnv2, _, _, _⟩ := numV_right HVf.out
                rw [hnv2] at hlk
                have HBc : Hid (Below (w7.alloc (.cells #[.int .i64 b, .int .i64 p] 28)).heap.size (w7.alloc (.cells #[.int .i64 b, .int .i64 p] 28)) ((w7.alloc (.cells #[.int .i64 b, .int .i64 p] 28)).alloc (.cells #[.int .i64 b2, .int .i64 p2] 28))) := by unfold Hid; (repeat (first | (with_reducible refine Below.drew ?_) | (with_reducible refine below_drewN0 ?_ _) | ((with_reducible refine Below.setCell ?_ ?_ _); rotate_left; focus (first | omega | (simp; done) | (simp; omega) | (simp at *; omega))) | ((with_reducible refine Below.alloc ?_ ?_ _); rotate_left; focus (first | omega | (simp; done) | (simp; omega) | (simp at *; omega))) | (with_reducible exact Below.refl _ _)))
                have HB8 : Hid (Below W.heap.size W ((w7.alloc (.cells #[.int .i64 b, .int .i64 p] 28)).alloc (.cells #[.int .i64 b2, .int .i64 p2] 28))) := HB7a.out.trans (HBc.out.mono HB7a.out.size)
                have HW8 := Lib.hid (HW7a.out.below HBc.out)
                have hi4 : (i : Int) / 4 = ((i / 4 : Nat) : Int) := by omega
                obtain ⟨i4, hi4e⟩ : ∃ i4, i4 = i / 4 := ⟨_, rfl⟩
                rw [← hi4e] at hi4 hne
                have HNe := Lib.hid hne
                have HZ := Lib.hid hz
                have HRi : Hid (∀ u, Calls Try.prog 10 #[.agg #[.int .i64 b, .int .i64 p]] u fun e w' => e = .returned (.bool true) ∧ Below u.heap.size u w') := fun u => by
                  have := lright_any b p u
                  rw [show rightB b p = true from decide_eq_true (by omega)] at this
                  exact this
                clear hne hz hnv hw7 hb7 hhas hBw HG hi4e HWx HBx hv0
                by_cases hn : (i4 : Int) = nn
                · have hn1 := hn
                  rcases HZ.out with rfl | ⟨rfl, rfl⟩
                  · by_cases h0 : v = 0
                    · subst h0
                      go_wp2
                      go_roundw
                      case rel => exact ⟨i + 1, by go_num, by omega, HW8.out, HB8.out⟩
                      case measure => simp [intOf]; omega
                    · have z0 : ((w7.alloc (.cells #[.int .i64 b, .int .i64 p] 28)).alloc (.cells #[.int .i64 b2, .int .i64 p2] 28)).cell? ⟨w7.heap.size, 0, none⟩ = some (.int .i64 b) := ((Row.fresh w7 28 #[.int .i64 b, .int .i64 p]).alloc _).cell 0
                      have z1 : ((w7.alloc (.cells #[.int .i64 b, .int .i64 p] 28)).alloc (.cells #[.int .i64 b2, .int .i64 p2] 28)).cell? ⟨w7.heap.size, 1, none⟩ = some (.int .i64 p) := ((Row.fresh w7 28 #[.int .i64 b, .int .i64 p]).alloc _).cell 1
                      go_wp2_with fail
                      refine (HRi.out _).mono ?_
                      rintro e w9 ⟨rfl, hb9⟩
                      have HW9 := Lib.hid (HW8.out.below hb9)
                      have HB9 : Hid (Below W.heap.size W w9) := HB8.out.trans (hb9.mono HB8.out.size)
                      clear hb9
                      go_wp2
                      go_roundw
                      case rel => exact ⟨i + 1, by go_num, by omega, HW9.out, HB9.out⟩
                      case measure => simp [intOf]; omega
                  · go_wp2
                    go_roundw
                    case rel => exact ⟨i + 1, by go_num, by omega, HW8.out, HB8.out⟩
                    case measure => simp [intOf]; omega
                · obtain ⟨rfl, hvh⟩ := HNe.out hn
                  have hbb : b2 = b ∧ p2 = p := by
                    rw [← hvh, HNv.out] at hnv2
                    simp only [Value.agg.injEq, Array.mk.injEq, List.cons.injEq, Value.int.injEq, true_and, and_true] at hnv2
                    omega
                  obtain ⟨rfl, rfl⟩ := hbb
                  rw [← hvh] at hlk
                  have z0 : ((w7.alloc (.cells #[.int .i64 b2, .int .i64 p2] 28)).alloc (.cells #[.int .i64 b2, .int .i64 p2] 28)).cell? ⟨w7.heap.size, 0, none⟩ = some (.int .i64 b2) := ((Row.fresh w7 28 #[.int .i64 b2, .int .i64 p2]).alloc _).cell 0
                  have z1 : ((w7.alloc (.cells #[.int .i64 b2, .int .i64 p2] 28)).alloc (.cells #[.int .i64 b2, .int .i64 p2] 28)).cell? ⟨w7.heap.size, 1, none⟩ = some (.int .i64 p2) := ((Row.fresh w7 28 #[.int .i64 b2, .int .i64 p2]).alloc _).cell 1
                  clear hvh hnv2
                  have hn1 : ¬ (i4 : Int) = nn := hn
                  go_wp2
                  go_roundw
                  case rel => exact ⟨i + 1, by go_num, by omega, HW8.out, HB8.out⟩
                  case measure => simp [intOf]; omega
              · go_wp2
                go_ret
                exact ⟨rfl, HBx.out⟩
end Go.Proofs.Ytfipmpajdkgffaa
