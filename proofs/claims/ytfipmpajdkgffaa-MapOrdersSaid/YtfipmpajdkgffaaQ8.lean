/- What follows is laid together from several texts of mine, in their order. -/
import Derived.Test.YtfipmpajdkgffaaQ6
import Derived.Test.YtfipmpajdkgffaaQ7

namespace Go.Proofs.Ytfipmpajdkgffaa
open Go.RowKit Go.MapKept Go.ChangeMaps
attribute [local go_sem] Oper.semAt_some
attribute [local simp, local go_sem] wide_fn
set_option linter.unusedVariables false
set_option linter.unusedSimpArgs false
set_option maxRecDepth 100000 in
set_option maxHeartbeats 4000000 in
theorem orders_in (a hd : Nat) (tn : Int) (ha : 1 ≤ a ∧ a ≤ 500) (hhd : 1 ≤ hd ∧ hd ≤ 20) (hbd : -9223372036854775808 ≤ tn ∧ tn ≤ 9223372036854775807) (A : Option Addr) (n cap : Nat) (f : Nat → Nat → Int) (W : World) (hA : Acts W A n 4 f) (hn : n ≤ 200) (hn0 : 0 < n) (hcap : n ≤ cap) :
    Calls Try.prog 3 #[.int .i64 a, .slice A n cap, .int .i64 tn, .int .i64 hd] W fun e w' => e = .returned (.bool true) ∧ Below W.heap.size W w' := by
  have HK := Lib.hid (known_any W)
  have HBa : Hid (∀ u, Calls Try.prog 9 #[.int .i64 a, .int .i64 16, .int .i64 1] u fun e w' => ∃ Wb Mb Sb Hb T, e = .returned (.pointer (some ⟨Wb, 0, none⟩)) ∧ WdIs w' u.heap.size Wb Mb Sb Hb T [] (Sm.new a 16 1) sh0 (fun _ => 0) ∧ Below u.heap.size u w') := fun u => begun_any u a 16 1 ⟨ha.1, by omega⟩ (by decide) (by decide)
  have HBb : Hid (∀ u, Calls Try.prog 9 #[.int .i64 a, .int .i64 20, .int .i64 hd] u fun e w' => ∃ Wb Mb Sb Hb T, e = .returned (.pointer (some ⟨Wb, 0, none⟩)) ∧ WdIs w' u.heap.size Wb Mb Sb Hb T [] (Sm.new a 20 hd) sh0 (fun _ => 0) ∧ Below u.heap.size u w') := fun u => begun_any u a 20 hd ⟨ha.1, by omega⟩ (by decide) ⟨hhd.1, by omega⟩
  have HAc := Lib.hid hA
  have heq := run_neq_place
  have hmm := @run_makeMap Try.prog
  clear hA
  obtain ⟨ha1, ha2⟩ := ha
  obtain ⟨hhd1, hhd2⟩ := hhd
  obtain ⟨r, hr⟩ : ∃ r, tn.tmod (n : Int) = r := ⟨_, rfl⟩
  have hr1 : r < n ∧ -(n : Int) < r := by
    rw [← hr]
    have h1 := Int.tmod_lt_of_pos tn (show (0 : Int) < n by omega)
    have h2 := Int.tmod_lt_of_pos (-tn) (show (0 : Int) < n by omega)
    rw [Int.neg_tmod] at h2
    exact ⟨h1, by omega⟩
  obtain ⟨hr1, hr2⟩ := hr1
  have hnz : (((n : Nat) : Int) == 0) = false := by simp; omega
  go_enter Try.func3, Try.ntmps3
  go_wp2_with fail
  refine HK.out.mono ?_
  rintro e w1 ⟨rfl, hb1'⟩
  have HB1 := Lib.hid hb1'
  clear hb1' HK
  by_cases hr0 : r < 0
  · obtain ⟨t, ht⟩ : ∃ t : Nat, r + (n : Int) = t := ⟨(r + n).toNat, by omega⟩
    have HTn : Hid (t < n) := by unfold Hid; omega
    go_wp2_with fail
    refine (HBa.out w1).mono ?_
    rintro e w2 ⟨Wa, Ma, Sa, Ha, Ta, rfl, hia, hb2⟩
    have HIa := Lib.hid hia
    have HB2 := Lib.hid hb2
    clear hia hb2 HBa
    go_wp2_with fail
    refine (HBb.out w2).mono ?_
    rintro e w4 ⟨Wb, Mb, Sb, Hb, Tb, rfl, hib, hb4⟩
    have HTw : Hid (TwoM w4 W.heap.size Ma Mb [Wa, Wb] a hd 0 (fun _ => 0) (fun _ => 0)) := TwoM.begun HIa.out hib hb4 ⟨HB1.out.size, HB2.out.size⟩
    have HRa : Hid (w4.cell? ⟨Wa, 4, none⟩ = some (.pointer (some ⟨Ma, 0, none⟩))) := (HIa.out.row.below hb4 HIa.out.row.lt).cell 4
    have HRb : Hid (w4.cell? ⟨Wb, 4, none⟩ = some (.pointer (some ⟨Mb, 0, none⟩))) := hib.row.cell 4
    have HB4 : Hid (Below W.heap.size W w4) := (HB1.out.trans (HB2.out.mono HB1.out.size)).trans (hb4.mono (Nat.le_trans HB1.out.size HB2.out.size))
    clear hib hb4 HIa HB2 HBb HB1
    have HO0 := Lib.hid (OnIs.nil w4 a)
    have HBq : Hid (Below w4.heap.size w4 (w4.alloc (.map #[] 0))) := (Below.refl _ _).alloc (Nat.le_refl _) _
    have HBz := Lib.hid HB4.out.size
    go_wp2
    go_loopw [12, 13] (fun v v2 wr => ∃ (i : Nat) (xs : List OAct) (seen : Nat → Bool), v2 = .int .i64 i ∧ i ≤ n ∧ xs.length ≤ i ∧ OnIs wr w4.heap.size w4.heap.size v xs a seen ∧ Below w4.heap.size w4 wr) (fun _ v _ => n - (intOf v).toNat)
    case atStart => exact ⟨0, [], _, rfl, by omega, by simp, HO0.out, HBq.out⟩
    case round =>
      obtain ⟨i, xs, seen, rfl, hi, hx, ho, hb⟩ := hrel
      have HO := Lib.hid ho
      have HB := Lib.hid hb
      have HX := Lib.hid hx
      clear ho hb hx HO0 HBq
      by_cases hin : i < n
      · skip
        have HBw : Hid (Below W.heap.size W wr) := HB4.out.trans (HB.out.mono HBz.out)
        obtain ⟨bb, off, rfl⟩ := HAc.out.addr (show 0 < n by omega)
        have y0 := keep_below HBw.out _ _ (HAc.out.cells i 0 hin (by omega))
        have y1 := keep_below HBw.out _ _ (HAc.out.cells i 1 hin (by omega))
        have y2 := keep_below HBw.out _ _ (HAc.out.cells i 2 hin (by omega))
        have y3 := keep_below HBw.out _ _ (HAc.out.cells i 3 hin (by omega))
        rw [Nat.add_zero] at y0
        rw [← Nat.add_assoc] at y1 y2 y3
        have HRi : Hid (∀ u, Calls Try.prog 10 #[.agg #[.int .i64 (f i 2), .int .i64 (f i 3)]] u fun e w' => e = .returned (.bool (rightB (f i 2) (f i 3))) ∧ Below u.heap.size u w') := fun u => lright_any _ _ u
        have HY : Hid (∀ u, Below W.heap.size W u → u.cell? ⟨bb, off + i * 4, none⟩ = some (.int .i64 (f i 0)) ∧ u.cell? ⟨bb, off + i * 4 + 1, none⟩ = some (.int .i64 (f i 1)) ∧ u.cell? ⟨bb, off + i * 4 + 2, none⟩ = some (.int .i64 (f i 2)) ∧ u.cell? ⟨bb, off + i * 4 + 3, none⟩ = some (.int .i64 (f i 3))) := fun u hu => by
          have z0 := keep_below hu _ _ (HAc.out.cells i 0 hin (by omega))
          have z1 := keep_below hu _ _ (HAc.out.cells i 1 hin (by omega))
          have z2 := keep_below hu _ _ (HAc.out.cells i 2 hin (by omega))
          have z3 := keep_below hu _ _ (HAc.out.cells i 3 hin (by omega))
          rw [Nat.add_zero] at z0
          rw [← Nat.add_assoc] at z1 z2 z3
          exact ⟨z0, z1, z2, z3⟩
        generalize f i 0 = f0 at *
        generalize f i 1 = f1 at *
        generalize f i 2 = f2 at *
        generalize f i 3 = f3 at *
        by_cases h1 : 0 ≤ f1
        · by_cases h2 : f1 < a
          · obtain ⟨s, rfl⟩ : ∃ s : Nat, f1 = s := ⟨f1.toNat, by omega⟩
            obtain ⟨rr, hrr⟩ : ∃ rr, rightB f2 f3 = rr := ⟨_, rfl⟩
            have HRr := Lib.hid hrr
            rw [hrr] at HRi
            clear hrr
            cases rr with
            | false =>
              go_wp2_with fail
              refine (HRi.out _).mono ?_
              rintro e w5 ⟨rfl, hb5⟩
              have HO5 := Lib.hid (HO.out.below hb5)
              have HB5 : Hid (Below w4.heap.size w4 w5) := HB.out.trans (hb5.mono HB.out.size)
              clear hb5 HRi y0 y1 y2 y3
              go_wp2
              go_roundw
              case rel => exact ⟨i + 1, _, _, by go_num, by omega, by (have := HX.out; (try simp only [List.length_append, List.length_singleton]); omega), HO5.out, HB5.out⟩
              case measure => simp [intOf]; omega
            | true =>
              go_wp2_with fail
              refine (HRi.out _).mono ?_
              rintro e w5 ⟨rfl, hb5⟩
              have HO5 := Lib.hid (HO.out.below hb5)
              have HB5 : Hid (Below w4.heap.size w4 w5) := HB.out.trans (hb5.mono HB.out.size)
              have hlk := HO5.out.map.look (by omega) (show s < a by omega)
              obtain ⟨y0, y1, y2, y3⟩ := HY.out w5 (HB4.out.trans (HB5.out.mono HBz.out))
              clear hb5 HRi
              cases hse : seen s with
              | true =>
                rw [hse] at hlk
                clear hse
                go_wp2
                go_roundw
                case rel => exact ⟨i + 1, _, _, by go_num, by omega, by (have := HX.out; (try simp only [List.length_append, List.length_singleton]); omega), HO5.out, HB5.out⟩
                case measure => simp [intOf]; omega
              | false =>
                rw [hse] at hlk
                have HSe := Lib.hid hse
                have HR2 : Hid (0 ≤ f2 ∧ f2 < 1024 ∧ 0 ≤ f3 ∧ f3 < 256) := by have := HRr.out; unfold rightB at this; unfold Hid; simpa using this
                obtain ⟨hr1, hr2, hr3, hr4⟩ := HR2.out
                obtain ⟨b, rfl⟩ : ∃ b : Nat, f2 = b := ⟨f2.toNat, by omega⟩
                obtain ⟨p, rfl⟩ : ∃ p : Nat, f3 = p := ⟨f3.toNat, by omega⟩
                obtain ⟨w6, hup, hse6, ht6⟩ := HO5.out.map.set (by omega) (show s < a by omega)
                have HS6 := Lib.hid hse6
                have HT6 := Lib.hid ht6
                have HB6 : Hid (Below w4.heap.size w4 w6) := ht6.below HB5.out HB5.out.size (fun q hq => by rw [List.mem_singleton.1 hq]; exact Nat.le_refl _)
                obtain ⟨x0, x1, x2, x3⟩ := HY.out w6 (HB4.out.trans (HB6.out.mono HBz.out))
                obtain ⟨i1, ji, jz0, jz1, jz2⟩ := info_parts act_info
                obtain ⟨W1, hW1⟩ : ∃ W1, W1 = w6.alloc (.cells #[.int .i64 f0, .int .i64 s, .int .i64 b, .int .i64 p] 30) := ⟨_, rfl⟩
                have HB7 : Hid (Below w6.heap.size w6 W1) := by unfold Hid; rw [hW1]; (repeat (first | (with_reducible refine Below.drew ?_) | (with_reducible refine below_drewN0 ?_ _) | ((with_reducible refine Below.setCell ?_ ?_ _); rotate_left; focus (first | omega | (simp; done) | (simp; omega) | (simp at *; omega))) | ((with_reducible refine Below.alloc ?_ ?_ _); rotate_left; focus (first | omega | (simp; done) | (simp; omega) | (simp at *; omega))) | (with_reducible exact Below.refl _ _)))
                have HOa := Lib.hid (HO5.out.ownAt HT6.out HB7.out)
                have HSa : Hid (Src W1 4 (some ⟨w6.heap.size, 0, none⟩) 1 [.int .i64 f0, .int .i64 s, .int .i64 b, .int .i64 p]) := by
                  unfold Hid; rw [hW1]; exact src_new (w := w6) (t := 30) (cs := [.int .i64 f0, .int .i64 s, .int .i64 b, .int .i64 p]) (sz := 4) rfl
                have g1 : Hid (xs.length + 1 ≤ maxLen) := by have := HX.out; unfold Hid maxLen; omega
                have g2 : Hid ((xs.length + 1) * 32 ≤ 140737488355328) := by have := HX.out; unfold Hid; omega
                have g3 : Hid (w4.heap.size ≤ W1.heap.size) := Nat.le_trans HB6.out.size HB7.out.size
                have H1 : Hid (∀ u ∈ [Value.int .i64 f0, Value.int .i64 s, Value.int .i64 b, Value.int .i64 p], u.oneCell' = true) := acsV_one [⟨f0, s, b, p⟩]
                clear hse hse6 ht6 HRr hr1 hr2 hr3 hr4
                subst hW1
                go_wp2_with (at_builtin; go_must (refine wpList_append_src _ rfl _ _ 22 rfl w4.heap.size 30 i1 _ 4 32 Try.underlying22 ji jz0 jz1 jz2 rfl (by decide) _ xs.length (acsV xs) rfl HOa.out (some ⟨w6.heap.size, 0, none⟩) 1 1 _ rfl HSa.out H1.out g1.out g2.out g3.out ?_))
                intro v9 w9 hown9 hgrow9 hat9
                have hpu := HO5.out.pushed HB5.out (Nat.le_refl _) ⟨f0, s, b, p⟩ (show b < 1024 ∧ p < 256 by have := HR2.out; omega) (show s < a by omega) HSe.out HS6.out HT6.out HB7.out hgrow9 hown9
                have HO9 := Lib.hid hpu.1
                have HB9 := Lib.hid hpu.2
                clear hpu hown9 hgrow9 hat9 HOa HSa H1 g1 g2 g3 y0 y1 y2 y3 x0 x1 x2 x3 hlk hup HS6 HT6
                go_wp2
                go_roundw
                case rel => exact ⟨i + 1, _, _, by go_num, by omega, by (have := HX.out; (try simp only [List.length_append, List.length_singleton]); omega), HO9.out, HB9.out⟩
                case measure => simp [intOf]; omega
          · skip
            go_wp2
            go_roundw
            case rel => exact ⟨i + 1, _, _, by go_num, by omega, by (have := HX.out; (try simp only [List.length_append, List.length_singleton]); omega), HO.out, HB.out⟩
            case measure => simp [intOf]; omega
        · skip
          go_wp2
          go_roundw
          case rel => exact ⟨i + 1, _, _, by go_num, by omega, by (have := HX.out; (try simp only [List.length_append, List.length_singleton]); omega), HO.out, HB.out⟩
          case measure => simp [intOf]; omega
      · obtain rfl : i = n := by omega
        obtain ⟨A1, c1, hv, hc1, hm1⟩ := own_shape HO.out.own
        subst hv
        have HL0 : Hid (Lp W w4.heap.size [] wr Wa Wb Ma Mb a hd 0 (.slice A1 xs.length c1) xs seen (fun _ => 0) (fun _ => 0)) := Lp.begin HTw.out HO.out HB.out HRa.out HRb.out (HB4.out.trans (HB.out.mono HBz.out))
        have HOn := Lib.hid HO.out.once
        have hml : xs.length ≤ 200 := by have := HX.out; omega
        have HLa := Lib.hid (Laid.nil (xs.map OAct.key) 0)
        have HLb := Lib.hid (Laid.nil (xs.map OAct.key) t)
        clear HO HB HX HTw HRa HRb
        go_wp2
        go_loopw [14] (fun v wr => ∃ (i : Nat) (hA hB : Nat → Nat), v = .int .i64 i ∧ i ≤ xs.length ∧ Lp W w4.heap.size [] wr Wa Wb Ma Mb a hd (2 * i) (.slice A1 xs.length c1) xs seen hA hB ∧ Laid (xs.map OAct.key) 0 i hA ∧ Laid (xs.map OAct.key) t i hB) (fun v _ => xs.length - (intOf v).toNat)
        case atStart => exact ⟨0, _, _, rfl, by omega, HL0.out, HLa.out, HLb.out⟩
        case round =>
          obtain ⟨i, hA, hB, rfl, hi, hlp, hla, hlb⟩ := hrel
          clear HL0 HLa HLb
          have HL := Lib.hid hlp
          have HLa := Lib.hid hla
          have HLb := Lib.hid hlb
          clear hlp hla hlb
          by_cases hil : i < xs.length
          · skip
            obtain ⟨k, hk⟩ : ∃ k, (i + t) % xs.length = k := ⟨_, rfl⟩
            have hkl : k < xs.length := by rw [← hk]; exact Nat.mod_lt _ (by omega)
            have hmod : ((i : Int) + (t : Int)).tmod (xs.length : Int) = (k : Int) := by
              rw [Int.tmod_eq_emod_of_nonneg (by omega), ← hk]; push_cast; rfl
            obtain ⟨x, hx⟩ : ∃ x, xs[i]? = some x := ⟨_, List.getElem?_eq_getElem hil⟩
            obtain ⟨y, hy⟩ : ∃ y, xs[k]? = some y := ⟨_, List.getElem?_eq_getElem hkl⟩
            have HLa2 : Hid (Laid (xs.map OAct.key) 0 (i + 1) (updH hA x.key.1 x.key.2)) := HLa.out.step HOn.out (by rw [List.length_map, Nat.add_zero, Nat.mod_eq_of_lt hil, List.getElem?_map, hx]; rfl)
            have HLb2 : Hid (Laid (xs.map OAct.key) t (i + 1) (updH hB y.key.1 y.key.2)) := HLb.out.step HOn.out (by rw [List.length_map, hk, List.getElem?_map, hy]; rfl)
            obtain ⟨g, c, he, _, _, _, _, x0, x1, x2, x3⟩ := HL.out.on.read hx
            have HXm := Lib.hid (List.mem_of_getElem? hx)
            have HYm := Lib.hid (List.mem_of_getElem? hy)
            obtain ⟨g', c', he', _, _, _, _, q0, q1, q2, q3⟩ := HL.out.on.read hy
            rw [he] at he'
            simp only [Value.slice.injEq, Option.some.injEq, Addr.mk.injEq, and_true, true_and] at he he'
            obtain ⟨rfl, rfl⟩ := he
            obtain ⟨rfl, rfl⟩ := he'
            have HBx : Hid (Below wr.heap.size wr (wr.alloc (.cells #[.int .i64 x.o, .int .i64 x.s, .int .i64 x.b, .int .i64 x.p] 30))) := by unfold Hid; (repeat (first | (with_reducible refine Below.drew ?_) | (with_reducible refine below_drewN0 ?_ _) | ((with_reducible refine Below.setCell ?_ ?_ _); rotate_left; focus (first | omega | (simp; done) | (simp; omega) | (simp at *; omega))) | ((with_reducible refine Below.alloc ?_ ?_ _); rotate_left; focus (first | omega | (simp; done) | (simp; omega) | (simp at *; omega))) | (with_reducible exact Below.refl _ _)))
            have y0 := keep_below HBx.out _ _ q0
            have y1 := keep_below HBx.out _ _ q1
            have y2 := keep_below HBx.out _ _ q2
            have y3 := keep_below HBx.out _ _ q3
            clear q0 q1 q2 q3 HLa HLb hk hx hy
            obtain ⟨wy, hwy⟩ : ∃ wy, wy = (wr.alloc (.cells #[.int .i64 x.o, .int .i64 x.s, .int .i64 x.b, .int .i64 x.p] 30)).alloc (.cells #[.int .i64 y.o, .int .i64 y.s, .int .i64 y.b, .int .i64 y.p] 30) := ⟨_, rfl⟩
            have HBy : Hid (Below wr.heap.size wr wy) := by unfold Hid; rw [hwy]; exact (HBx.out).alloc (by simp) _
            have HRx : Hid (Row wy wr.heap.size 30 x.cells.toArray) := by unfold Hid; rw [hwy]; exact (Row.fresh wr 30 _).alloc _
            have HRy : Hid (Row wy (wr.heap.size + 1) 30 y.cells.toArray) := by
              have := Row.fresh (wr.alloc (.cells #[.int .i64 x.o, .int .i64 x.s, .int .i64 x.b, .int .i64 x.p] 30)) 30 #[.int .i64 y.o, .int .i64 y.s, .int .i64 y.b, .int .i64 y.p]
              rw [← hwy, World.size_alloc] at this
              exact this
            have HLy : Hid (Lp W w4.heap.size ([wr.heap.size, wr.heap.size + 1] ++ []) wy Wa Wb Ma Mb a hd (2 * i) (.slice (some ⟨g, 0, none⟩) xs.length c1) xs seen hA hB) := HL.out.add HBy.out (fun q hq => by
              have := HRy.out.lt
              simp only [List.mem_cons, List.not_mem_nil, or_false] at hq
              rcases hq with rfl | rfl <;> omega)
            have HSA : Hid (∀ u, Below wy.heap.size wy u → Calls Try.prog 11 #[.pointer (some ⟨Ma, 0, none⟩), .int .i64 x.s, .agg #[.int .i64 x.b, .int .i64 x.p]] u fun e w' => e = .returned (.int .i64 0) ∧ Lp W w4.heap.size ([wr.heap.size, wr.heap.size + 1] ++ []) w' Wa Wb Ma Mb a hd (2 * i + 1) (.slice (some ⟨g, 0, none⟩) xs.length c1) xs seen (updH hA x.key.1 x.key.2) hB ∧ Row w' wr.heap.size 30 x.cells.toArray ∧ Row w' (wr.heap.size + 1) 30 y.cells.toArray) := fun u hu =>
              ((HLy.out.then_below hu).setA x HXm.out (by omega)).mono fun e w' ⟨h1, h2, h3⟩ => ⟨h1, h2, h3 _ (by simp) _ _ (HRx.out.below hu HRx.out.lt), h3 _ (by simp) _ _ (HRy.out.below hu HRy.out.lt)⟩
            have k0 : ∀ t : Rd Wa Wb Ma Mb wr.heap.size (wr.heap.size + 1) x y, t.u.cell? ⟨Wa, 4, none⟩ = some (.pointer (some ⟨Ma, 0, none⟩)) := fun t => t.ca
            have k1 : ∀ t : Rd Wa Wb Ma Mb wr.heap.size (wr.heap.size + 1) x y, t.u.cell? ⟨Wb, 4, none⟩ = some (.pointer (some ⟨Mb, 0, none⟩)) := fun t => t.cb
            have k2 : ∀ t : Rd Wa Wb Ma Mb wr.heap.size (wr.heap.size + 1) x y, t.u.cell? ⟨wr.heap.size, 1, none⟩ = some (.int .i64 x.s) := fun t => t.rx.cell 1
            have k3 : ∀ t : Rd Wa Wb Ma Mb wr.heap.size (wr.heap.size + 1) x y, t.u.cell? ⟨wr.heap.size, 2, none⟩ = some (.int .i64 x.b) := fun t => t.rx.cell 2
            have k4 : ∀ t : Rd Wa Wb Ma Mb wr.heap.size (wr.heap.size + 1) x y, t.u.cell? ⟨wr.heap.size, 3, none⟩ = some (.int .i64 x.p) := fun t => t.rx.cell 3
            have k5 : ∀ t : Rd Wa Wb Ma Mb wr.heap.size (wr.heap.size + 1) x y, t.u.cell? ⟨wr.heap.size + 1, 1, none⟩ = some (.int .i64 y.s) := fun t => t.ry.cell 1
            have k6 : ∀ t : Rd Wa Wb Ma Mb wr.heap.size (wr.heap.size + 1) x y, t.u.cell? ⟨wr.heap.size + 1, 2, none⟩ = some (.int .i64 y.b) := fun t => t.ry.cell 2
            have k7 : ∀ t : Rd Wa Wb Ma Mb wr.heap.size (wr.heap.size + 1) x y, t.u.cell? ⟨wr.heap.size + 1, 3, none⟩ = some (.int .i64 y.p) := fun t => t.ry.cell 3
            have hS : ∃ t : Rd Wa Wb Ma Mb wr.heap.size (wr.heap.size + 1) x y, wy.drew = t.u := ⟨⟨wy.drew, HLy.out.ca, HLy.out.cb, HRx.out, HRy.out⟩, rfl⟩
            haveI hne : Nonempty (Rd Wa Wb Ma Mb wr.heap.size (wr.heap.size + 1) x y) := ⟨⟨wy.drew, HLy.out.ca, HLy.out.cb, HRx.out, HRy.out⟩⟩
            have hmx : Try.prog.follows .mixedOrders = true := by kernel_rfl
            have HWy := Lib.hid hwy
            clear hwy
            go_wp2
            rw [← HWy.out]
            clear x0 x1 x2 x3 y0 y1 y2 y3
            refine wp_region_noPanic ?_
            refine region_treeW (fun u => ∃ t : Rd Wa Wb Ma Mb wr.heap.size (wr.heap.size + 1) x y, u = t.u) (Tn.takes [0,1,2,3,4,5,6,7] (.one 8 (Tn.takes [9,10,11,12,13,14,15,16,17,18] (.one 19 (Tn.takes [20,21] .nil))))) hmx (by kernel_rfl) (fun _ _ _ _ _ h => h) hS ?_
            simp only [Tn.takes]
            (repeat ((with_reducible refine wpTree_take (by with_unfolding_all exact rfl) ?_); (with_reducible (show wpQuiet _ _ _ _ (_ :: _) _)); go_big_quiet_step (fail); (with_reducible refine wpQuiet_nil ?_)))
            (with_reducible refine wpTree_one (by with_unfolding_all exact rfl) ?_)
            gi_wp2_with fail
            refine ((callsIn_wide (n := 8)).2 (HSA.out _ ((Below.refl _ _).drew))).mono ?_
            rintro e w7 ⟨rfl, hl7, hr7, hr8⟩
            have HL7 := Lib.hid hl7
            have HR7 := Lib.hid hr7
            have HR8 := Lib.hid hr8
            have HSB : Hid (Calls Try.prog 11 #[.pointer (some ⟨Mb, 0, none⟩), .int .i64 y.s, .agg #[.int .i64 y.b, .int .i64 y.p]] w7 fun e w' => e = .returned (.int .i64 0) ∧ Lp W w4.heap.size [] w' Wa Wb Ma Mb a hd (2 * (i + 1)) (.slice (some ⟨g, 0, none⟩) xs.length c1) xs seen (updH hA x.key.1 x.key.2) (updH hB y.key.1 y.key.2) ∧ Row w' wr.heap.size 30 x.cells.toArray ∧ Row w' (wr.heap.size + 1) 30 y.cells.toArray) :=
              (hl7.setB y HYm.out (by omega)).mono fun e w' ⟨h1, h2, h3⟩ => ⟨h1, h2.drop, h3 _ (by simp) _ _ hr7, h3 _ (by simp) _ _ hr8⟩
            clear hl7 hr7 hr8 HSA
            gi_wp2_with fail
            (with_reducible refine outQ_normal ?_ ?_); exact ⟨⟨w7, HL7.out.ca, HL7.out.cb, HR7.out, HR8.out⟩, rfl⟩
            (repeat ((with_reducible refine wpTree_take (by with_unfolding_all exact rfl) ?_); (with_reducible (show wpQuiet _ _ _ _ (_ :: _) _)); go_big_quiet_step (fail); (with_reducible refine wpQuiet_nil ?_)))
            (with_reducible refine wpTree_one (by with_unfolding_all exact rfl) ?_)
            gi_wp2_with fail
            refine ((callsIn_wide (n := 8)).2 HSB.out).mono ?_
            rintro e w8 ⟨rfl, hl8, hr81, hr82⟩
            have HL8 := Lib.hid hl8
            have HR81 := Lib.hid hr81
            have HR82 := Lib.hid hr82
            clear hl8 hr81 hr82 HSB
            gi_wp2_with fail
            (with_reducible refine outQ_normal ?_ ?_); exact ⟨⟨w8, HL8.out.ca, HL8.out.cb, HR81.out, HR82.out⟩, rfl⟩
            (repeat ((with_reducible refine wpTree_take (by with_unfolding_all exact rfl) ?_); (with_reducible (show wpQuiet _ _ _ _ (_ :: _) _)); go_big_quiet_step (fail); (with_reducible refine wpQuiet_nil ?_)))
            with_reducible refine wpTree_nil ?_
            refine NoPanic.normal ?_
            clear k0 k1 k2 k3 k4 k5 k6 k7 hS
            go_wp2
            go_roundw
            case rel => exact ⟨i + 1, _, _, by go_num, by omega, HL8.out, HLa2.out, HLb2.out⟩
            case measure => simp [intOf]; omega
          · obtain hie : i = xs.length := by omega
            subst hie
            have hsame : hA = hB := by
              funext s
              have l1 := HLa.out.modt
              have l2 := HLb.out.modt
              rw [show xs.length = (xs.map OAct.key).length by simp] at l1 l2
              exact l1.same l2 (turn_ok _ _) (turn_ok _ _) s
            have htell : Hid (∀ s, decide (hA s ≠ 0) = seen s) := fun s => by
              have l1 := HLa.out.modt
              rw [show xs.length = (xs.map OAct.key).length by simp] at l1
              exact l1.tells HOn.out (turn_ok _ _) s
            have hfew : Hid (∀ s, hA s ≤ 262144) := fun s => HLa.out.few HOn.out s
            subst hsame
            have HL3 : Hid (Lp W w4.heap.size [] wr Wa Wb Ma Mb a hd (400 + 2 * 0) (.slice A1 xs.length c1) xs seen hA hA) := HL.out.mono (by omega)
            clear HL HLa HLb
            go_wp2
            go_loopw [17] (fun v wr => ∃ s : Nat, v = .int .i64 s ∧ s ≤ a ∧ Lp W w4.heap.size [] wr Wa Wb Ma Mb a hd (400 + 2 * s) (.slice A1 xs.length c1) xs seen hA hA) (fun v _ => a - (intOf v).toNat)
            case atStart => exact ⟨0, rfl, by omega, HL3.out⟩
            case round =>
              obtain ⟨s, rfl, hs, hlp⟩ := hrel
              clear HL3
              have HL := Lib.hid hlp
              have ca := hlp.ca
              clear hlp
              by_cases hsa : s < a
              · skip
                have HG := HL.out.getA s hsa (by omega)
                obtain ⟨b, p, hnv, _, _, _⟩ := numV_right (hfew.out s)
                obtain ⟨sb, hsb⟩ : ∃ sb, seen s = sb := ⟨_, rfl⟩
                have HSb := Lib.hid hsb
                have HNv := Lib.hid hnv
                rw [hnv, htell.out s, hsb] at HG
                have HG := Lib.hid HG
                have hbe : (sb != sb) = false := by simp
                clear hsb hnv
                go_wp2_with fail
                refine HG.out.mono ?_
                rintro e w5 ⟨rfl, hl5, _⟩
                have HBp : Hid (Below w5.heap.size w5 (w5.alloc (.cells #[.int .i64 b, .int .i64 p] 28))) := (Below.refl _ _).alloc (Nat.le_refl _) _
                have HL5 := Lib.hid (hl5.add (qs := [w5.heap.size]) HBp.out (fun q hq => by rw [List.mem_singleton.1 hq]; simp))
                have HR5 : Hid (Row (w5.alloc (.cells #[.int .i64 b, .int .i64 p] 28)) w5.heap.size 28 #[.int .i64 b, .int .i64 p]) := Row.fresh _ _ _
                have cb := HL5.out.cb
                have HG2 := HL5.out.getB s hsa (by omega)
                rw [HNv.out, htell.out s, HSb.out] at HG2
                have HG2 := Lib.hid HG2
                clear hl5 HG ca
                go_wp2_with fail
                refine HG2.out.mono ?_
                rintro e w6 ⟨rfl, hl6, hr6⟩
                have HR6 := Lib.hid (hr6 _ (by simp) _ _ HR5.out)
                have HL6 := Lib.hid hl6.drop
                have HBq : Hid (Below w6.heap.size w6 (w6.alloc (.cells #[.int .i64 b, .int .i64 p] 28))) := (Below.refl _ _).alloc (Nat.le_refl _) _
                have HL7 := Lib.hid ((HL6.out.then_below HBq.out).mono (show 400 + 2 * s + 1 + 1 ≤ 400 + 2 * (s + 1) by omega))
                have hlk := HL7.out.on.map.look (by omega) hsa
                rw [HSb.out] at hlk
                have HR7 := HR6.out.alloc (.cells #[.int .i64 b, .int .i64 p] 28)
                have z0 := HR7.cell 0
                have z1 := HR7.cell 1
                simp only [List.getElem?_toArray, List.getElem?_cons_zero, List.getElem?_cons_succ] at z0 z1
                clear hl6 hr6 HG2 cb HR7
                go_wp2
                go_roundw
                case rel => exact ⟨s + 1, by go_num, by omega, HL7.out⟩
                case measure => simp [intOf]; omega
              · skip
                have HHa := Lib.hid HL.out.heldA
                go_wp2_with fail
                refine HHa.out.mono ?_
                rintro e w5 ⟨⟨n1, rfl, hn1⟩, hl5, _⟩
                have HL5 := Lib.hid hl5
                have cb := hl5.cb
                have HHb := Lib.hid hl5.heldB
                clear hl5 HHa ca
                go_wp2_with fail
                refine HHb.out.mono ?_
                rintro e w6 ⟨⟨n2, rfl, hn2⟩, hl6, _⟩
                have HB6 := Lib.hid hl6.below
                clear hl6 HHb cb
                go_wp2
                go_ret
                exact ⟨by first | (simp; done) | (simp; omega), HB6.out⟩
  · obtain ⟨t, ht⟩ : ∃ t : Nat, r = t := ⟨r.toNat, by omega⟩
    have HTn : Hid (t < n) := by unfold Hid; omega
    subst ht
    go_wp2_with fail
    refine (HBa.out w1).mono ?_
    rintro e w2 ⟨Wa, Ma, Sa, Ha, Ta, rfl, hia, hb2⟩
    have HIa := Lib.hid hia
    have HB2 := Lib.hid hb2
    clear hia hb2 HBa
    go_wp2_with fail
    refine (HBb.out w2).mono ?_
    rintro e w4 ⟨Wb, Mb, Sb, Hb, Tb, rfl, hib, hb4⟩
    have HTw : Hid (TwoM w4 W.heap.size Ma Mb [Wa, Wb] a hd 0 (fun _ => 0) (fun _ => 0)) := TwoM.begun HIa.out hib hb4 ⟨HB1.out.size, HB2.out.size⟩
    have HRa : Hid (w4.cell? ⟨Wa, 4, none⟩ = some (.pointer (some ⟨Ma, 0, none⟩))) := (HIa.out.row.below hb4 HIa.out.row.lt).cell 4
    have HRb : Hid (w4.cell? ⟨Wb, 4, none⟩ = some (.pointer (some ⟨Mb, 0, none⟩))) := hib.row.cell 4
    have HB4 : Hid (Below W.heap.size W w4) := (HB1.out.trans (HB2.out.mono HB1.out.size)).trans (hb4.mono (Nat.le_trans HB1.out.size HB2.out.size))
    clear hib hb4 HIa HB2 HBb HB1
    have HO0 := Lib.hid (OnIs.nil w4 a)
    have HBq : Hid (Below w4.heap.size w4 (w4.alloc (.map #[] 0))) := (Below.refl _ _).alloc (Nat.le_refl _) _
    have HBz := Lib.hid HB4.out.size
    go_wp2
    go_loopw [12, 13] (fun v v2 wr => ∃ (i : Nat) (xs : List OAct) (seen : Nat → Bool), v2 = .int .i64 i ∧ i ≤ n ∧ xs.length ≤ i ∧ OnIs wr w4.heap.size w4.heap.size v xs a seen ∧ Below w4.heap.size w4 wr) (fun _ v _ => n - (intOf v).toNat)
    case atStart => exact ⟨0, [], _, rfl, by omega, by simp, HO0.out, HBq.out⟩
    case round =>
      obtain ⟨i, xs, seen, rfl, hi, hx, ho, hb⟩ := hrel
      have HO := Lib.hid ho
      have HB := Lib.hid hb
      have HX := Lib.hid hx
      clear ho hb hx HO0 HBq
      by_cases hin : i < n
      · skip
        have HBw : Hid (Below W.heap.size W wr) := HB4.out.trans (HB.out.mono HBz.out)
        obtain ⟨bb, off, rfl⟩ := HAc.out.addr (show 0 < n by omega)
        have y0 := keep_below HBw.out _ _ (HAc.out.cells i 0 hin (by omega))
        have y1 := keep_below HBw.out _ _ (HAc.out.cells i 1 hin (by omega))
        have y2 := keep_below HBw.out _ _ (HAc.out.cells i 2 hin (by omega))
        have y3 := keep_below HBw.out _ _ (HAc.out.cells i 3 hin (by omega))
        rw [Nat.add_zero] at y0
        rw [← Nat.add_assoc] at y1 y2 y3
        have HRi : Hid (∀ u, Calls Try.prog 10 #[.agg #[.int .i64 (f i 2), .int .i64 (f i 3)]] u fun e w' => e = .returned (.bool (rightB (f i 2) (f i 3))) ∧ Below u.heap.size u w') := fun u => lright_any _ _ u
        have HY : Hid (∀ u, Below W.heap.size W u → u.cell? ⟨bb, off + i * 4, none⟩ = some (.int .i64 (f i 0)) ∧ u.cell? ⟨bb, off + i * 4 + 1, none⟩ = some (.int .i64 (f i 1)) ∧ u.cell? ⟨bb, off + i * 4 + 2, none⟩ = some (.int .i64 (f i 2)) ∧ u.cell? ⟨bb, off + i * 4 + 3, none⟩ = some (.int .i64 (f i 3))) := fun u hu => by
          have z0 := keep_below hu _ _ (HAc.out.cells i 0 hin (by omega))
          have z1 := keep_below hu _ _ (HAc.out.cells i 1 hin (by omega))
          have z2 := keep_below hu _ _ (HAc.out.cells i 2 hin (by omega))
          have z3 := keep_below hu _ _ (HAc.out.cells i 3 hin (by omega))
          rw [Nat.add_zero] at z0
          rw [← Nat.add_assoc] at z1 z2 z3
          exact ⟨z0, z1, z2, z3⟩
        generalize f i 0 = f0 at *
        generalize f i 1 = f1 at *
        generalize f i 2 = f2 at *
        generalize f i 3 = f3 at *
        by_cases h1 : 0 ≤ f1
        · by_cases h2 : f1 < a
          · obtain ⟨s, rfl⟩ : ∃ s : Nat, f1 = s := ⟨f1.toNat, by omega⟩
            obtain ⟨rr, hrr⟩ : ∃ rr, rightB f2 f3 = rr := ⟨_, rfl⟩
            have HRr := Lib.hid hrr
            rw [hrr] at HRi
            clear hrr
            cases rr with
            | false =>
              go_wp2_with fail
              refine (HRi.out _).mono ?_
              rintro e w5 ⟨rfl, hb5⟩
              have HO5 := Lib.hid (HO.out.below hb5)
              have HB5 : Hid (Below w4.heap.size w4 w5) := HB.out.trans (hb5.mono HB.out.size)
              clear hb5 HRi y0 y1 y2 y3
              go_wp2
              go_roundw
              case rel => exact ⟨i + 1, _, _, by go_num, by omega, by (have := HX.out; (try simp only [List.length_append, List.length_singleton]); omega), HO5.out, HB5.out⟩
              case measure => simp [intOf]; omega
            | true =>
              go_wp2_with fail
              refine (HRi.out _).mono ?_
              rintro e w5 ⟨rfl, hb5⟩
              have HO5 := Lib.hid (HO.out.below hb5)
              have HB5 : Hid (Below w4.heap.size w4 w5) := HB.out.trans (hb5.mono HB.out.size)
              have hlk := HO5.out.map.look (by omega) (show s < a by omega)
              obtain ⟨y0, y1, y2, y3⟩ := HY.out w5 (HB4.out.trans (HB5.out.mono HBz.out))
              clear hb5 HRi
              cases hse : seen s with
              | true =>
                rw [hse] at hlk
                clear hse
                go_wp2
                go_roundw
                case rel => exact ⟨i + 1, _, _, by go_num, by omega, by (have := HX.out; (try simp only [List.length_append, List.length_singleton]); omega), HO5.out, HB5.out⟩
                case measure => simp [intOf]; omega
              | false =>
                rw [hse] at hlk
                have HSe := Lib.hid hse
                have HR2 : Hid (0 ≤ f2 ∧ f2 < 1024 ∧ 0 ≤ f3 ∧ f3 < 256) := by have := HRr.out; unfold rightB at this; unfold Hid; simpa using this
                obtain ⟨hr1, hr2, hr3, hr4⟩ := HR2.out
                obtain ⟨b, rfl⟩ : ∃ b : Nat, f2 = b := ⟨f2.toNat, by omega⟩
                obtain ⟨p, rfl⟩ : ∃ p : Nat, f3 = p := ⟨f3.toNat, by omega⟩
                obtain ⟨w6, hup, hse6, ht6⟩ := HO5.out.map.set (by omega) (show s < a by omega)
                have HS6 := Lib.hid hse6
                have HT6 := Lib.hid ht6
                have HB6 : Hid (Below w4.heap.size w4 w6) := ht6.below HB5.out HB5.out.size (fun q hq => by rw [List.mem_singleton.1 hq]; exact Nat.le_refl _)
                obtain ⟨x0, x1, x2, x3⟩ := HY.out w6 (HB4.out.trans (HB6.out.mono HBz.out))
                obtain ⟨i1, ji, jz0, jz1, jz2⟩ := info_parts act_info
                obtain ⟨W1, hW1⟩ : ∃ W1, W1 = w6.alloc (.cells #[.int .i64 f0, .int .i64 s, .int .i64 b, .int .i64 p] 30) := ⟨_, rfl⟩
                have HB7 : Hid (Below w6.heap.size w6 W1) := by unfold Hid; rw [hW1]; (repeat (first | (with_reducible refine Below.drew ?_) | (with_reducible refine below_drewN0 ?_ _) | ((with_reducible refine Below.setCell ?_ ?_ _); rotate_left; focus (first | omega | (simp; done) | (simp; omega) | (simp at *; omega))) | ((with_reducible refine Below.alloc ?_ ?_ _); rotate_left; focus (first | omega | (simp; done) | (simp; omega) | (simp at *; omega))) | (with_reducible exact Below.refl _ _)))
                have HOa := Lib.hid (HO5.out.ownAt HT6.out HB7.out)
                have HSa : Hid (Src W1 4 (some ⟨w6.heap.size, 0, none⟩) 1 [.int .i64 f0, .int .i64 s, .int .i64 b, .int .i64 p]) := by
                  unfold Hid; rw [hW1]; exact src_new (w := w6) (t := 30) (cs := [.int .i64 f0, .int .i64 s, .int .i64 b, .int .i64 p]) (sz := 4) rfl
                have g1 : Hid (xs.length + 1 ≤ maxLen) := by have := HX.out; unfold Hid maxLen; omega
                have g2 : Hid ((xs.length + 1) * 32 ≤ 140737488355328) := by have := HX.out; unfold Hid; omega
                have g3 : Hid (w4.heap.size ≤ W1.heap.size) := Nat.le_trans HB6.out.size HB7.out.size
                have H1 : Hid (∀ u ∈ [Value.int .i64 f0, Value.int .i64 s, Value.int .i64 b, Value.int .i64 p], u.oneCell' = true) := acsV_one [⟨f0, s, b, p⟩]
                clear hse hse6 ht6 HRr hr1 hr2 hr3 hr4
                subst hW1
                go_wp2_with (at_builtin; go_must (refine wpList_append_src _ rfl _ _ 22 rfl w4.heap.size 30 i1 _ 4 32 Try.underlying22 ji jz0 jz1 jz2 rfl (by decide) _ xs.length (acsV xs) rfl HOa.out (some ⟨w6.heap.size, 0, none⟩) 1 1 _ rfl HSa.out H1.out g1.out g2.out g3.out ?_))
                intro v9 w9 hown9 hgrow9 hat9
                have hpu := HO5.out.pushed HB5.out (Nat.le_refl _) ⟨f0, s, b, p⟩ (show b < 1024 ∧ p < 256 by have := HR2.out; omega) (show s < a by omega) HSe.out HS6.out HT6.out HB7.out hgrow9 hown9
                have HO9 := Lib.hid hpu.1
                have HB9 := Lib.hid hpu.2
                clear hpu hown9 hgrow9 hat9 HOa HSa H1 g1 g2 g3 y0 y1 y2 y3 x0 x1 x2 x3 hlk hup HS6 HT6
                go_wp2
                go_roundw
                case rel => exact ⟨i + 1, _, _, by go_num, by omega, by (have := HX.out; (try simp only [List.length_append, List.length_singleton]); omega), HO9.out, HB9.out⟩
                case measure => simp [intOf]; omega
          · skip
            go_wp2
            go_roundw
            case rel => exact ⟨i + 1, _, _, by go_num, by omega, by (have := HX.out; (try simp only [List.length_append, List.length_singleton]); omega), HO.out, HB.out⟩
            case measure => simp [intOf]; omega
        · skip
          go_wp2
          go_roundw
          case rel => exact ⟨i + 1, _, _, by go_num, by omega, by (have := HX.out; (try simp only [List.length_append, List.length_singleton]); omega), HO.out, HB.out⟩
          case measure => simp [intOf]; omega
      · obtain rfl : i = n := by omega
        obtain ⟨A1, c1, hv, hc1, hm1⟩ := own_shape HO.out.own
        subst hv
        have HL0 : Hid (Lp W w4.heap.size [] wr Wa Wb Ma Mb a hd 0 (.slice A1 xs.length c1) xs seen (fun _ => 0) (fun _ => 0)) := Lp.begin HTw.out HO.out HB.out HRa.out HRb.out (HB4.out.trans (HB.out.mono HBz.out))
        have HOn := Lib.hid HO.out.once
        have hml : xs.length ≤ 200 := by have := HX.out; omega
        have HLa := Lib.hid (Laid.nil (xs.map OAct.key) 0)
        have HLb := Lib.hid (Laid.nil (xs.map OAct.key) t)
        clear HO HB HX HTw HRa HRb
        go_wp2
        go_loopw [14] (fun v wr => ∃ (i : Nat) (hA hB : Nat → Nat), v = .int .i64 i ∧ i ≤ xs.length ∧ Lp W w4.heap.size [] wr Wa Wb Ma Mb a hd (2 * i) (.slice A1 xs.length c1) xs seen hA hB ∧ Laid (xs.map OAct.key) 0 i hA ∧ Laid (xs.map OAct.key) t i hB) (fun v _ => xs.length - (intOf v).toNat)
        case atStart => exact ⟨0, _, _, rfl, by omega, HL0.out, HLa.out, HLb.out⟩
        case round =>
          obtain ⟨i, hA, hB, rfl, hi, hlp, hla, hlb⟩ := hrel
          clear HL0 HLa HLb
          have HL := Lib.hid hlp
          have HLa := Lib.hid hla
          have HLb := Lib.hid hlb
          clear hlp hla hlb
          by_cases hil : i < xs.length
          · skip
            obtain ⟨k, hk⟩ : ∃ k, (i + t) % xs.length = k := ⟨_, rfl⟩
            have hkl : k < xs.length := by rw [← hk]; exact Nat.mod_lt _ (by omega)
            have hmod : ((i : Int) + (t : Int)).tmod (xs.length : Int) = (k : Int) := by
              rw [Int.tmod_eq_emod_of_nonneg (by omega), ← hk]; push_cast; rfl
            obtain ⟨x, hx⟩ : ∃ x, xs[i]? = some x := ⟨_, List.getElem?_eq_getElem hil⟩
            obtain ⟨y, hy⟩ : ∃ y, xs[k]? = some y := ⟨_, List.getElem?_eq_getElem hkl⟩
            have HLa2 : Hid (Laid (xs.map OAct.key) 0 (i + 1) (updH hA x.key.1 x.key.2)) := HLa.out.step HOn.out (by rw [List.length_map, Nat.add_zero, Nat.mod_eq_of_lt hil, List.getElem?_map, hx]; rfl)
            have HLb2 : Hid (Laid (xs.map OAct.key) t (i + 1) (updH hB y.key.1 y.key.2)) := HLb.out.step HOn.out (by rw [List.length_map, hk, List.getElem?_map, hy]; rfl)
            obtain ⟨g, c, he, _, _, _, _, x0, x1, x2, x3⟩ := HL.out.on.read hx
            have HXm := Lib.hid (List.mem_of_getElem? hx)
            have HYm := Lib.hid (List.mem_of_getElem? hy)
            obtain ⟨g', c', he', _, _, _, _, q0, q1, q2, q3⟩ := HL.out.on.read hy
            rw [he] at he'
            simp only [Value.slice.injEq, Option.some.injEq, Addr.mk.injEq, and_true, true_and] at he he'
            obtain ⟨rfl, rfl⟩ := he
            obtain ⟨rfl, rfl⟩ := he'
            have HBx : Hid (Below wr.heap.size wr (wr.alloc (.cells #[.int .i64 x.o, .int .i64 x.s, .int .i64 x.b, .int .i64 x.p] 30))) := by unfold Hid; (repeat (first | (with_reducible refine Below.drew ?_) | (with_reducible refine below_drewN0 ?_ _) | ((with_reducible refine Below.setCell ?_ ?_ _); rotate_left; focus (first | omega | (simp; done) | (simp; omega) | (simp at *; omega))) | ((with_reducible refine Below.alloc ?_ ?_ _); rotate_left; focus (first | omega | (simp; done) | (simp; omega) | (simp at *; omega))) | (with_reducible exact Below.refl _ _)))
            have y0 := keep_below HBx.out _ _ q0
            have y1 := keep_below HBx.out _ _ q1
            have y2 := keep_below HBx.out _ _ q2
            have y3 := keep_below HBx.out _ _ q3
            clear q0 q1 q2 q3 HLa HLb hk hx hy
            obtain ⟨wy, hwy⟩ : ∃ wy, wy = (wr.alloc (.cells #[.int .i64 x.o, .int .i64 x.s, .int .i64 x.b, .int .i64 x.p] 30)).alloc (.cells #[.int .i64 y.o, .int .i64 y.s, .int .i64 y.b, .int .i64 y.p] 30) := ⟨_, rfl⟩
            have HBy : Hid (Below wr.heap.size wr wy) := by unfold Hid; rw [hwy]; exact (HBx.out).alloc (by simp) _
            have HRx : Hid (Row wy wr.heap.size 30 x.cells.toArray) := by unfold Hid; rw [hwy]; exact (Row.fresh wr 30 _).alloc _
            have HRy : Hid (Row wy (wr.heap.size + 1) 30 y.cells.toArray) := by
              have := Row.fresh (wr.alloc (.cells #[.int .i64 x.o, .int .i64 x.s, .int .i64 x.b, .int .i64 x.p] 30)) 30 #[.int .i64 y.o, .int .i64 y.s, .int .i64 y.b, .int .i64 y.p]
              rw [← hwy, World.size_alloc] at this
              exact this
            have HLy : Hid (Lp W w4.heap.size ([wr.heap.size, wr.heap.size + 1] ++ []) wy Wa Wb Ma Mb a hd (2 * i) (.slice (some ⟨g, 0, none⟩) xs.length c1) xs seen hA hB) := HL.out.add HBy.out (fun q hq => by
              have := HRy.out.lt
              simp only [List.mem_cons, List.not_mem_nil, or_false] at hq
              rcases hq with rfl | rfl <;> omega)
            have HSA : Hid (∀ u, Below wy.heap.size wy u → Calls Try.prog 11 #[.pointer (some ⟨Ma, 0, none⟩), .int .i64 x.s, .agg #[.int .i64 x.b, .int .i64 x.p]] u fun e w' => e = .returned (.int .i64 0) ∧ Lp W w4.heap.size ([wr.heap.size, wr.heap.size + 1] ++ []) w' Wa Wb Ma Mb a hd (2 * i + 1) (.slice (some ⟨g, 0, none⟩) xs.length c1) xs seen (updH hA x.key.1 x.key.2) hB ∧ Row w' wr.heap.size 30 x.cells.toArray ∧ Row w' (wr.heap.size + 1) 30 y.cells.toArray) := fun u hu =>
              ((HLy.out.then_below hu).setA x HXm.out (by omega)).mono fun e w' ⟨h1, h2, h3⟩ => ⟨h1, h2, h3 _ (by simp) _ _ (HRx.out.below hu HRx.out.lt), h3 _ (by simp) _ _ (HRy.out.below hu HRy.out.lt)⟩
            have k0 : ∀ t : Rd Wa Wb Ma Mb wr.heap.size (wr.heap.size + 1) x y, t.u.cell? ⟨Wa, 4, none⟩ = some (.pointer (some ⟨Ma, 0, none⟩)) := fun t => t.ca
            have k1 : ∀ t : Rd Wa Wb Ma Mb wr.heap.size (wr.heap.size + 1) x y, t.u.cell? ⟨Wb, 4, none⟩ = some (.pointer (some ⟨Mb, 0, none⟩)) := fun t => t.cb
            have k2 : ∀ t : Rd Wa Wb Ma Mb wr.heap.size (wr.heap.size + 1) x y, t.u.cell? ⟨wr.heap.size, 1, none⟩ = some (.int .i64 x.s) := fun t => t.rx.cell 1
            have k3 : ∀ t : Rd Wa Wb Ma Mb wr.heap.size (wr.heap.size + 1) x y, t.u.cell? ⟨wr.heap.size, 2, none⟩ = some (.int .i64 x.b) := fun t => t.rx.cell 2
            have k4 : ∀ t : Rd Wa Wb Ma Mb wr.heap.size (wr.heap.size + 1) x y, t.u.cell? ⟨wr.heap.size, 3, none⟩ = some (.int .i64 x.p) := fun t => t.rx.cell 3
            have k5 : ∀ t : Rd Wa Wb Ma Mb wr.heap.size (wr.heap.size + 1) x y, t.u.cell? ⟨wr.heap.size + 1, 1, none⟩ = some (.int .i64 y.s) := fun t => t.ry.cell 1
            have k6 : ∀ t : Rd Wa Wb Ma Mb wr.heap.size (wr.heap.size + 1) x y, t.u.cell? ⟨wr.heap.size + 1, 2, none⟩ = some (.int .i64 y.b) := fun t => t.ry.cell 2
            have k7 : ∀ t : Rd Wa Wb Ma Mb wr.heap.size (wr.heap.size + 1) x y, t.u.cell? ⟨wr.heap.size + 1, 3, none⟩ = some (.int .i64 y.p) := fun t => t.ry.cell 3
            have hS : ∃ t : Rd Wa Wb Ma Mb wr.heap.size (wr.heap.size + 1) x y, wy.drew = t.u := ⟨⟨wy.drew, HLy.out.ca, HLy.out.cb, HRx.out, HRy.out⟩, rfl⟩
            haveI hne : Nonempty (Rd Wa Wb Ma Mb wr.heap.size (wr.heap.size + 1) x y) := ⟨⟨wy.drew, HLy.out.ca, HLy.out.cb, HRx.out, HRy.out⟩⟩
            have hmx : Try.prog.follows .mixedOrders = true := by kernel_rfl
            have HWy := Lib.hid hwy
            clear hwy
            go_wp2
            rw [← HWy.out]
            clear x0 x1 x2 x3 y0 y1 y2 y3
            refine wp_region_noPanic ?_
            refine region_treeW (fun u => ∃ t : Rd Wa Wb Ma Mb wr.heap.size (wr.heap.size + 1) x y, u = t.u) (Tn.takes [0,1,2,3,4,5,6,7] (.one 8 (Tn.takes [9,10,11,12,13,14,15,16,17,18] (.one 19 (Tn.takes [20,21] .nil))))) hmx (by kernel_rfl) (fun _ _ _ _ _ h => h) hS ?_
            simp only [Tn.takes]
            (repeat ((with_reducible refine wpTree_take (by with_unfolding_all exact rfl) ?_); (with_reducible (show wpQuiet _ _ _ _ (_ :: _) _)); go_big_quiet_step (fail); (with_reducible refine wpQuiet_nil ?_)))
            (with_reducible refine wpTree_one (by with_unfolding_all exact rfl) ?_)
            gi_wp2_with fail
            refine ((callsIn_wide (n := 8)).2 (HSA.out _ ((Below.refl _ _).drew))).mono ?_
            rintro e w7 ⟨rfl, hl7, hr7, hr8⟩
            have HL7 := Lib.hid hl7
            have HR7 := Lib.hid hr7
            have HR8 := Lib.hid hr8
            have HSB : Hid (Calls Try.prog 11 #[.pointer (some ⟨Mb, 0, none⟩), .int .i64 y.s, .agg #[.int .i64 y.b, .int .i64 y.p]] w7 fun e w' => e = .returned (.int .i64 0) ∧ Lp W w4.heap.size [] w' Wa Wb Ma Mb a hd (2 * (i + 1)) (.slice (some ⟨g, 0, none⟩) xs.length c1) xs seen (updH hA x.key.1 x.key.2) (updH hB y.key.1 y.key.2) ∧ Row w' wr.heap.size 30 x.cells.toArray ∧ Row w' (wr.heap.size + 1) 30 y.cells.toArray) :=
              (hl7.setB y HYm.out (by omega)).mono fun e w' ⟨h1, h2, h3⟩ => ⟨h1, h2.drop, h3 _ (by simp) _ _ hr7, h3 _ (by simp) _ _ hr8⟩
            clear hl7 hr7 hr8 HSA
            gi_wp2_with fail
            (with_reducible refine outQ_normal ?_ ?_); exact ⟨⟨w7, HL7.out.ca, HL7.out.cb, HR7.out, HR8.out⟩, rfl⟩
            (repeat ((with_reducible refine wpTree_take (by with_unfolding_all exact rfl) ?_); (with_reducible (show wpQuiet _ _ _ _ (_ :: _) _)); go_big_quiet_step (fail); (with_reducible refine wpQuiet_nil ?_)))
            (with_reducible refine wpTree_one (by with_unfolding_all exact rfl) ?_)
            gi_wp2_with fail
            refine ((callsIn_wide (n := 8)).2 HSB.out).mono ?_
            rintro e w8 ⟨rfl, hl8, hr81, hr82⟩
            have HL8 := Lib.hid hl8
            have HR81 := Lib.hid hr81
            have HR82 := Lib.hid hr82
            clear hl8 hr81 hr82 HSB
            gi_wp2_with fail
            (with_reducible refine outQ_normal ?_ ?_); exact ⟨⟨w8, HL8.out.ca, HL8.out.cb, HR81.out, HR82.out⟩, rfl⟩
            (repeat ((with_reducible refine wpTree_take (by with_unfolding_all exact rfl) ?_); (with_reducible (show wpQuiet _ _ _ _ (_ :: _) _)); go_big_quiet_step (fail); (with_reducible refine wpQuiet_nil ?_)))
            with_reducible refine wpTree_nil ?_
            refine NoPanic.normal ?_
            clear k0 k1 k2 k3 k4 k5 k6 k7 hS
            go_wp2
            go_roundw
            case rel => exact ⟨i + 1, _, _, by go_num, by omega, HL8.out, HLa2.out, HLb2.out⟩
            case measure => simp [intOf]; omega
          · obtain hie : i = xs.length := by omega
            subst hie
            have hsame : hA = hB := by
              funext s
              have l1 := HLa.out.modt
              have l2 := HLb.out.modt
              rw [show xs.length = (xs.map OAct.key).length by simp] at l1 l2
              exact l1.same l2 (turn_ok _ _) (turn_ok _ _) s
            have htell : Hid (∀ s, decide (hA s ≠ 0) = seen s) := fun s => by
              have l1 := HLa.out.modt
              rw [show xs.length = (xs.map OAct.key).length by simp] at l1
              exact l1.tells HOn.out (turn_ok _ _) s
            have hfew : Hid (∀ s, hA s ≤ 262144) := fun s => HLa.out.few HOn.out s
            subst hsame
            have HL3 : Hid (Lp W w4.heap.size [] wr Wa Wb Ma Mb a hd (400 + 2 * 0) (.slice A1 xs.length c1) xs seen hA hA) := HL.out.mono (by omega)
            clear HL HLa HLb
            go_wp2
            go_loopw [17] (fun v wr => ∃ s : Nat, v = .int .i64 s ∧ s ≤ a ∧ Lp W w4.heap.size [] wr Wa Wb Ma Mb a hd (400 + 2 * s) (.slice A1 xs.length c1) xs seen hA hA) (fun v _ => a - (intOf v).toNat)
            case atStart => exact ⟨0, rfl, by omega, HL3.out⟩
            case round =>
              obtain ⟨s, rfl, hs, hlp⟩ := hrel
              clear HL3
              have HL := Lib.hid hlp
              have ca := hlp.ca
              clear hlp
              by_cases hsa : s < a
              · skip
                have HG := HL.out.getA s hsa (by omega)
                obtain ⟨b, p, hnv, _, _, _⟩ := numV_right (hfew.out s)
                obtain ⟨sb, hsb⟩ : ∃ sb, seen s = sb := ⟨_, rfl⟩
                have HSb := Lib.hid hsb
                have HNv := Lib.hid hnv
                rw [hnv, htell.out s, hsb] at HG
                have HG := Lib.hid HG
                have hbe : (sb != sb) = false := by simp
                clear hsb hnv
                go_wp2_with fail
                refine HG.out.mono ?_
                rintro e w5 ⟨rfl, hl5, _⟩
                have HBp : Hid (Below w5.heap.size w5 (w5.alloc (.cells #[.int .i64 b, .int .i64 p] 28))) := (Below.refl _ _).alloc (Nat.le_refl _) _
                have HL5 := Lib.hid (hl5.add (qs := [w5.heap.size]) HBp.out (fun q hq => by rw [List.mem_singleton.1 hq]; simp))
                have HR5 : Hid (Row (w5.alloc (.cells #[.int .i64 b, .int .i64 p] 28)) w5.heap.size 28 #[.int .i64 b, .int .i64 p]) := Row.fresh _ _ _
                have cb := HL5.out.cb
                have HG2 := HL5.out.getB s hsa (by omega)
                rw [HNv.out, htell.out s, HSb.out] at HG2
                have HG2 := Lib.hid HG2
                clear hl5 HG ca
                go_wp2_with fail
                refine HG2.out.mono ?_
                rintro e w6 ⟨rfl, hl6, hr6⟩
                have HR6 := Lib.hid (hr6 _ (by simp) _ _ HR5.out)
                have HL6 := Lib.hid hl6.drop
                have HBq : Hid (Below w6.heap.size w6 (w6.alloc (.cells #[.int .i64 b, .int .i64 p] 28))) := (Below.refl _ _).alloc (Nat.le_refl _) _
                have HL7 := Lib.hid ((HL6.out.then_below HBq.out).mono (show 400 + 2 * s + 1 + 1 ≤ 400 + 2 * (s + 1) by omega))
                have hlk := HL7.out.on.map.look (by omega) hsa
                rw [HSb.out] at hlk
                have HR7 := HR6.out.alloc (.cells #[.int .i64 b, .int .i64 p] 28)
                have z0 := HR7.cell 0
                have z1 := HR7.cell 1
                simp only [List.getElem?_toArray, List.getElem?_cons_zero, List.getElem?_cons_succ] at z0 z1
                clear hl6 hr6 HG2 cb HR7
                go_wp2
                go_roundw
                case rel => exact ⟨s + 1, by go_num, by omega, HL7.out⟩
                case measure => simp [intOf]; omega
              · skip
                have HHa := Lib.hid HL.out.heldA
                go_wp2_with fail
                refine HHa.out.mono ?_
                rintro e w5 ⟨⟨n1, rfl, hn1⟩, hl5, _⟩
                have HL5 := Lib.hid hl5
                have cb := hl5.cb
                have HHb := Lib.hid hl5.heldB
                clear hl5 HHa ca
                go_wp2_with fail
                refine HHb.out.mono ?_
                rintro e w6 ⟨⟨n2, rfl, hn2⟩, hl6, _⟩
                have HB6 := Lib.hid hl6.below
                clear hl6 HHb cb
                go_wp2
                go_ret
                exact ⟨by first | (simp; done) | (simp; omega), HB6.out⟩
end Go.Proofs.Ytfipmpajdkgffaa
