/- MediaBad, walked. -/
import Derived.Test.YtlidbkofjchnnaaDoorBads
import Derived.Test.YtlidbkofjchnnaaDoorWorld
namespace Go.Proofs.YtlidbkofjchnnaaDoor
open Go.RowKit
set_option linter.unusedVariables false
set_option linter.unusedSimpArgs false

set_option maxRecDepth 100000 in
theorem bad_out (m k : Int) (fill : Int) (h : m < 0 ∨ 7 < m ∨ k < 1 ∨ 10 < k) (w : World) (hT : Tab w) : Calls Tryd.prog 5 #[.int .i64 m, .int .i64 k, .int .u8 fill] w fun e w' => e = .returned (.bool true) ∧ Below w.heap.size w w' := by
  have HK := Lib.hid (known_any w hT)
  clear hT
  by_cases h1 : m < 0
  · clear h
    go_enter Tryd.func5, Tryd.ntmps5
    go_wp2_with fail
    refine (HK.out).mono ?_
    rintro e w1 ⟨rfl, hb⟩
    have HB := Lib.hid hb
    clear HK hb
    go_wp2
    go_ret
    exact ⟨rfl, HB.out⟩
  by_cases h2 : m > 7
  · clear h
    go_enter Tryd.func5, Tryd.ntmps5
    go_wp2_with fail
    refine (HK.out).mono ?_
    rintro e w1 ⟨rfl, hb⟩
    have HB := Lib.hid hb
    clear HK hb
    go_wp2
    go_ret
    exact ⟨rfl, HB.out⟩
  by_cases h3 : k < 1
  · clear h
    go_enter Tryd.func5, Tryd.ntmps5
    go_wp2_with fail
    refine (HK.out).mono ?_
    rintro e w1 ⟨rfl, hb⟩
    have HB := Lib.hid hb
    clear HK hb
    go_wp2
    go_ret
    exact ⟨rfl, HB.out⟩
  by_cases h4 : k > 10
  · clear h
    go_enter Tryd.func5, Tryd.ntmps5
    go_wp2_with fail
    refine (HK.out).mono ?_
    rintro e w1 ⟨rfl, hb⟩
    have HB := Lib.hid hb
    clear HK hb
    go_wp2
    go_ret
    exact ⟨rfl, HB.out⟩
  · exfalso; omega
set_option maxRecDepth 100000 in
set_option maxHeartbeats 4000000 in
theorem bad_in (m k fill : Nat) (hm : m ≤ 7) (hk : 1 ≤ k ∧ k ≤ 10) (hf : fill < 256) (w : World) (hT : Tab w) : Calls Tryd.prog 5 #[.int .i64 m, .int .i64 k, .int .u8 fill] w fun e w' => e = .returned (.bool true) ∧ Below w.heap.size w w' := by
  have HK := Lib.hid (known_any w hT)
  have HT := Lib.hid hT
  obtain ⟨i1, ji, jz0, jz1, jz2⟩ := info_parts u8_info
  have hb1 : Hid (i1.bytes * 100 ≤ 281474976710656) := by unfold Hid; rw [jz2]; decide
  have h1 : ¬ (m : Int) < 0 := by omega
  have h2 : ¬ (m : Int) > 7 := by omega
  have h3 : ¬ (k : Int) < 1 := by omega
  have h4 : ¬ (k : Int) > 10 := by omega
  have HM := Lib.hid hm
  have HKk := Lib.hid hk
  have HFf := Lib.hid hf
  have HN : Hid (∀ w1, Below w.heap.size w w1 → Calls Tryd.prog 15 #[.int .i64 3, .int .i64 8, .int .i64 2] w1 fun e w' => ∃ F L P, e = .returned (.tuple #[.pointer (some ⟨F, 0, none⟩), .int .i64 0]) ∧ FlIs w' w.heap.size F L P (Fl.new 3 8 2) ∧ Below w.heap.size w w') := fun w1 hb =>
    (New_any 3 8 2 (by omega) (by omega) (by omega) w1).mono fun e w' ⟨F, L, P, he, hfl, hb2⟩ => ⟨F, L, P, he, hfl.low hb.size, hb.trans (hb2.mono hb.size)⟩
  have HNe : Hid (∀ w1 F L P, Below w.heap.size w w1 → FlIs w1 w.heap.size F L P (Fl.new 3 8 2) → Calls Tryd.prog 16 #[.pointer (some ⟨F, 0, none⟩), .int .i64 100, .slice none 0 0] w1 fun e w' => ∃ M Q, e = .returned (.tuple #[.pointer (some ⟨M, 0, none⟩), .int .i64 0]) ∧ MedIs w' w.heap.size M Q F L P (Fl.new 3 8 2) 100 (inL []) 0 ∧ Below w.heap.size w w') := fun w1 F L P hb hfl =>
    (New_yes hfl HT.out.lt (HT.out.keep (keep_below hb)) 100 (by decide) none [] (by decide) 0 (fun i h => absurd h (by simp)) (by decide) (by decide)).mono fun e w' ⟨M, Q, he, hmd, hb2, _, _⟩ => ⟨M, Q, he, hmd, hb.trans (hb2.mono hb.size)⟩
  clear hT hm hk hf
  go_enter Tryd.func5, Tryd.ntmps5
  go_wp2_with fail
  refine (HK.out).mono ?_
  rintro e w1 ⟨rfl, hb⟩
  have HN1 := Lib.hid (HN.out w1 hb)
  clear HK hb HN
  go_wp2_with fail
  refine HN1.out.mono ?_
  rintro e w2 ⟨F, L, P, rfl, hfl, hb⟩
  have HN2 := Lib.hid (HNe.out w2 F L P hb hfl)
  clear HN1 hb hfl HNe h1 h2 h3 h4
  go_wp2_with fail
  refine HN2.out.mono ?_
  rintro e w3 ⟨M, Q, rfl, hmd, hb⟩
  have HX : Hid (XSt w (w3.alloc (.cells ((madeCells #[.int .u8 0] 100).setIfInBounds 9 (.int .u8 fill)) 5)) M Q F L w3.heap.size P (Fl.new 3 8 2) 100 (inL []) 0 ((List.replicate 100 0).set 9 fill)) := by
    have ht : Turns w3 (w3.alloc (.cells ((madeCells #[.int .u8 0] 100).setIfInBounds 9 (.int .u8 fill)) 5)) [] := (Turns.refl w3 []).alloc _
    refine ⟨hmd.keep ht, ?_, hmd.behind hb ht (by simp), by simp, fun u hu => ?_⟩
    · have e : (madeCells #[.int .u8 0] 100).setIfInBounds 9 (.int .u8 fill) = (intsV .u8 ((List.replicate 100 0).set 9 fill)).toArray := by rw [made_zero, intsV_set]; simp
      rw [e]
      exact Row.fresh w3 5 _
    · rcases List.mem_or_eq_of_mem_set hu with h | h
      · rw [(List.mem_replicate.1 h).2]; omega
      · rw [h]; exact HFf.out
  have hc9 : (w3.alloc (.cells (madeCells #[.int .u8 0] 100) 5)).cell? ⟨w3.heap.size, 9, none⟩ = some (.int .u8 0) := ((Row.fresh w3 5 (madeCells #[.int .u8 0] 100)).cell 9).trans (made_at _ _ _ (by decide))
  have hf9 := (Row.fresh w3 5 (madeCells #[.int .u8 0] 100)).frozen 9
  clear HN2 hmd hb
  go_wp2_with (with_reducible refine wpList_make_row _ (o := ⟨some 60, .makeSlice 46 (.const (.int .i64 100)) (.const (.int .i64 100)), _, _, _, _⟩) rfl (.const (.int .i64 100)) (.const (.int .i64 100)) 46 rfl 5 i1 _ Tryd.underlying46 ji jz0 jz1 rfl .i64 .i64 100 rfl rfl hb1.out (by decide) ?_)
  generalize w3.alloc (.cells ((madeCells #[.int .u8 0] 100).setIfInBounds 9 (.int .u8 fill)) 5) = wx at *
  generalize w3.heap.size = X at *
  generalize (List.replicate 100 0).set 9 fill = xs at *
  have HB0 : Hid (Bs (Fl.new 3 8 2) 0 false (laid xs 2)) := ⟨rfl, rfl, rfl, rfl, rfl, rfl, rfl, rfl, rfl, fun j h => by omega, rfl⟩
  clear hc9 hf9 HFf hb1 jz0 jz1 jz2 ji
  go_loopw [11] (fun iv wr => ∃ (i : Nat) (S : Fl) (md : Int), iv = .int .i64 i ∧ i ≤ m ∧ XSt w wr M Q F L X P S 100 (inL []) md xs ∧ Bs S i false (laid xs 2)) (fun i _ => m - (intOf i).toNat)
  case atStart => exact ⟨0, _, _, rfl, by omega, HX.out, HB0.out⟩
  case round =>
    obtain ⟨i, S, md, rfl, hi, hx, hb⟩ := hrel
    clear HX HB0
    by_cases him : i < m
    · have HW := Lib.hid (hx.write1 hb rfl (by have := HM.out; omega))
      clear hx hb
      go_wp2_with fail
      refine HW.out.mono ?_
      rintro e w5 ⟨⟨v, rfl⟩, S', md', hx5, hb5⟩
      have HX5 := Lib.hid hx5
      have HB5 := Lib.hid hb5
      clear HW hx5 hb5
      go_wp2
      go_roundw
      case rel => exact ⟨i + 1, S', md', by go_num, by omega, HX5.out, HB5.out⟩
      case measure => simp [intOf]; omega
    · obtain rfl : i = m := by omega
      have HFa := Lib.hid (hx.fail hb)
      clear hx hb
      go_wp2_with fail
      refine HFa.out.mono ?_
      rintro e w5 ⟨rfl, S5, hx5, hb5⟩
      have HX5 := Lib.hid hx5
      have HB5 := Lib.hid hb5
      clear HFa hx5 hb5
      go_wp2_with fail
      go_loopw [14] (fun iv wr => ∃ (j : Nat) (bad : Nat → Bool), iv = .int .i64 j ∧ j ≤ k ∧ XSt w wr M Q F L X P S5 100 bad md xs ∧ ((j = 0 ∧ bad = inL []) ∨ (0 < j ∧ bad = setBad (inL []) 1))) (fun j _ => k - (intOf j).toNat)
      case atStart => exact ⟨0, _, rfl, by omega, HX5.out, .inl ⟨rfl, rfl⟩⟩
      case round =>
        obtain ⟨j, bad, rfl, hj, hx, hbd⟩ := hrel
        clear HX5
        by_cases hjk : j < k
        · have HW := Lib.hid (hx.write_bad HB5.out (by have := HM.out; omega) (hbd.imp (fun h => h.2) (fun h => h.2)))
          clear hx hbd
          go_wp2_with fail
          refine HW.out.mono ?_
          rintro e w6 ⟨rfl, hx6⟩
          have HX6 := Lib.hid hx6
          clear HW hx6
          go_wp2
          go_roundw
          case rel => exact ⟨j + 1, _, by go_num, by omega, HX6.out, .inr ⟨by omega, rfl⟩⟩
          case measure => simp [intOf]; omega
        · obtain rfl : j = k := by omega
          obtain rfl : bad = setBad (inL []) 1 := by
            rcases hbd with h | h
            · have := HKk.out; omega
            · exact h.2
          have HX6 := Lib.hid hx
          clear hx hbd
          go_wp2_with fail
          go_loopw [17] (fun iv wr => ∃ (p : Nat) (md : Int), iv = .int .i64 p ∧ p ≤ i ∧ XSt w wr M Q F L X P S5 100 (setBad (inL []) 1) md xs) (fun p _ => i - (intOf p).toNat)
          case atStart => exact ⟨0, _, rfl, by omega, HX6.out⟩
          case round =>
            obtain ⟨p, md7, rfl, hp, hx⟩ := hrel
            clear HX6
            by_cases hpi : p < i
            · have HR := Lib.hid (hx.read1 HB5.out hpi (by have := HM.out; omega))
              clear hx
              generalize textOf xs = tx at *
              go_wp2_with fail
              refine HR.out.mono ?_
              rintro e w8 ⟨A, q, md8, rfl, hc1, hc2, hx8⟩
              have HX8 := Lib.hid hx8
              clear HR hx8
              go_wp2
              go_roundw
              case rel => exact ⟨p + 1, _, by go_num, by omega, HX8.out⟩
              case measure => simp [intOf]; omega
            · obtain rfl : p = i := by omega
              have HW := Lib.hid (hx.write2 HB5.out rfl)
              clear hx
              go_wp2_with fail
              refine HW.out.mono ?_
              rintro e w8 ⟨⟨v, rfl⟩, S8, md8, hx8, hn8, hr2, hr1⟩
              have HBd := Lib.hid (hx8.bads rfl hn8)
              have HN8 := Lib.hid hn8
              have HR2 := Lib.hid hr2
              have HR1 := Lib.hid hr1
              clear HW hx8 hn8 hr2 hr1
              go_wp2_with fail
              refine HBd.out.mono ?_
              rintro e w9 ⟨g, c, rfl, hc, hcell, hx9⟩
              have HB9 := Lib.hid hx9.bel
              have HRa := Lib.hid (hx9.room 1 0 (by rw [HN8.out]; omega) HR1.out)
              have HRb := Lib.hid (hx9.room 2 0 (by rw [HN8.out]; omega) HR2.out)
              have HEr := Lib.hid (hx9.erase rfl HN8.out)
              clear HBd hx9
              go_wp2_with fail
              refine (HRa.out 0).mono ?_
              rintro e w10 ⟨rfl, m1, rfl⟩
              clear HRa
              go_wp2_with fail
              refine (HRb.out _).mono ?_
              rintro e w11 ⟨rfl, m2, rfl⟩
              clear HRb
              go_wp2_with fail
              refine (HEr.out _).mono ?_
              rintro e w12 ⟨rfl, m3, rfl⟩
              clear HEr
              have HZ : Hid (Below w.heap.size w ((w9.drewN m2).drewN m3)) := below_drewN0 (below_drewN0 HB9.out _) _
              generalize (w9.drewN m2).drewN m3 = wz at *
              go_wp2
              go_ret
              exact ⟨rfl, HZ.out⟩
end Go.Proofs.YtlidbkofjchnnaaDoor
