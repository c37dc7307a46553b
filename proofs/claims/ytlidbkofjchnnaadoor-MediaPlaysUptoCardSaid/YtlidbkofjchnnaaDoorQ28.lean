/- What follows is laid together from several texts of mine, in their order. -/
import Derived.Test.YtlidbkofjchnnaaDoorQ17
import Derived.Lib.Builder

namespace Go.Proofs.YtlidbkofjchnnaaDoor
open Go.RowKit
set_option linter.unusedVariables false
set_option linter.unusedSimpArgs false

set_option maxRecDepth 100000 in
theorem new_out (b n : Int) (A : Option Addr) (ln c : Nat) (h : b < 1 ∨ 50 < b ∨ 60 < ln) (w : World) (hT : Tab w) : Calls Tryd.prog 4 #[.int .i64 b, .int .i64 n, .slice A ln c] w fun e w' => e = .returned (.bool true) ∧ Below w.heap.size w w' := by
  have HK := Lib.hid (known_any w hT)
  clear hT
  by_cases h1 : b < 1
  · clear h
    go_enter Tryd.func4, Tryd.ntmps4
    go_wp2_with fail
    refine (HK.out).mono ?_
    rintro e w1 ⟨rfl, hb⟩
    have HB := Lib.hid hb
    clear HK hb
    go_wp2
    go_ret
    exact ⟨rfl, HB.out⟩
  by_cases h2 : b > 50
  · clear h
    go_enter Tryd.func4, Tryd.ntmps4
    go_wp2_with fail
    refine (HK.out).mono ?_
    rintro e w1 ⟨rfl, hb⟩
    have HB := Lib.hid hb
    clear HK hb
    go_wp2
    go_ret
    exact ⟨rfl, HB.out⟩
  by_cases h3 : (ln : Int) > 60
  · clear h
    go_enter Tryd.func4, Tryd.ntmps4
    go_wp2_with fail
    refine (HK.out).mono ?_
    rintro e w1 ⟨rfl, hb⟩
    have HB := Lib.hid hb
    clear HK hb
    go_wp2
    go_ret
    exact ⟨rfl, HB.out⟩
  · exfalso; omega
set_option maxRecDepth 100000 in
set_option maxHeartbeats 4000000 in
theorem new_none (nb : Nat) (n : Int) (A : Option Addr) (l : List Int) (c : Nat) (h1 : 1 ≤ nb ∧ nb ≤ 50) (hl : l.length ≤ 60) (w : World) (hT : Tab w) (hc : CellsI w A l) (hlc : l.length ≤ c) (ok0 : Bool) (h0 : ok0 = decide (1 ≤ n ∧ n ≤ 192)) (hg : (ok0 && !l.any (outI nb)) = false)
    (hN : ∀ w1 F L P, Below w.heap.size w w1 → FlIs w1 w.heap.size F L P (Fl.new nb 4 3) → Calls Tryd.prog 16 #[.pointer (some ⟨F, 0, none⟩), .int .i64 n, .slice A l.length c] w1 fun e w' => e = .returned (.tuple #[.pointer none, .int .i64 1]) ∧ Below w.heap.size w w') :
    Calls Tryd.prog 4 #[.int .i64 nb, .int .i64 n, .slice A l.length c] w fun e w' => e = .returned (.bool true) ∧ Below w.heap.size w w' := by
  have HK := Lib.hid (known_any w hT)
  obtain ⟨i1, ji, jz0, jz1, jz2⟩ := info_parts bool_info
  have hb1 : Hid (i1.bytes * nb ≤ 281474976710656) := by unfold Hid; rw [jz2]; omega
  have HNf : Hid (∀ w1, Below w.heap.size w w1 → Calls Tryd.prog 15 #[.int .i64 nb, .int .i64 4, .int .i64 3] w1 fun e w' => ∃ F L P, e = .returned (.tuple #[.pointer (some ⟨F, 0, none⟩), .int .i64 0]) ∧ FlIs w' w.heap.size F L P (Fl.new nb 4 3) ∧ Below w.heap.size w w') := fun w1 hb =>
    (New_any nb 4 3 (by omega) (by omega) (by omega) w1).mono fun e w' ⟨F, L, P, he, hfl, hb2⟩ => ⟨F, L, P, he, hfl.low hb.size, hb.trans (hb2.mono hb.size)⟩
  have HNe := Lib.hid hN
  have g1 : ¬ (nb : Int) < 1 := by omega
  have g2 : ¬ (nb : Int) > 50 := by omega
  have g3 : ¬ (l.length : Int) > 60 := by omega
  obtain ⟨J, hJ⟩ : ∃ J : World → Prop, J = fun wr => Below w.heap.size w wr := ⟨_, rfl⟩
  have HJd : Hid (∀ wr, J wr ↔ Below w.heap.size w wr) := fun wr => by rw [hJ]
  have HC : Hid (∀ wr, J wr → CellsI wr A l) := fun wr h => hc.keep (keep_below ((HJd.out wr).1 h))
  have HG := Lib.hid hg
  clear hT hc hg hN hJ
  by_cases n1 : n < 1
  · obtain rfl : ok0 = false := by rw [h0]; exact decide_eq_false (by omega)
    have n2 : ¬ n ≥ 1 := by omega
    clear h0
    go_enter Tryd.func4, Tryd.ntmps4
    go_wp2_with fail
    refine (HK.out).mono ?_
    rintro e w1 ⟨rfl, hb⟩
    have HN1 := Lib.hid (HNf.out w1 hb)
    clear HK hb HNf
    go_wp2_with fail
    refine HN1.out.mono ?_
    rintro e w2 ⟨F, L, P, rfl, hfl, hb⟩
    have HN2 := Lib.hid (HNe.out w2 F L P hb hfl)
    clear HN1 hb hfl HNe
    go_wp2_with fail
    refine HN2.out.mono ?_
    rintro e w3 ⟨rfl, hb⟩
    have HJ0 : Hid (J (w3.alloc (.cells (madeCells #[.bool false] nb) 4))) := (HJd.out _).2 (hb.alloc hb.size _)
    have HR0 : Hid (Row (w3.alloc (.cells (madeCells #[.bool false] nb) 4)) w3.heap.size 4 (isA nb (inL (l.take 0)))) := by
      unfold Hid
      rw [show l.take 0 = [] from rfl, ← isA_start]; exact Row.fresh _ _ _
    have HJs : Hid (∀ wr (cs : Array Value) (k : Nat), Row wr w3.heap.size 4 cs → J wr → J (wr.setCell ⟨w3.heap.size, k, none⟩ (.bool true))) := fun wr cs k _ hj => (HJd.out _).2 (((HJd.out _).1 hj).setCell (p := ⟨w3.heap.size, k, none⟩) hb.size _)
    clear HN2 hb
    go_wp2_with (with_reducible refine wpList_make_row _ (o := ⟨some 54, .makeSlice 28 (.tmp 53) (.tmp 53), _, _, _, _⟩) rfl (.tmp 53) (.tmp 53) 28 rfl 4 i1 _ Tryd.underlying28 ji jz0 jz1 rfl .i64 .i64 nb rfl rfl hb1.out (by omega) ?_)
    generalize w3.alloc (.cells (madeCells #[.bool false] nb) 4) = wI at *
    generalize w3.heap.size = I at *
    go_loopw [10, 12] (fun okv iv wr => ∃ (i : Nat) (ok : Bool), okv = .bool ok ∧ iv = .int .i64 i ∧ i ≤ l.length ∧ ok = (false && !(l.take i).any (outI nb)) ∧ Row wr I 4 (isA nb (inL (l.take i))) ∧ J wr) (fun _ i _ => l.length - (intOf i).toNat)
    case atStart => exact ⟨0, false, (by first | rfl | rw [decide_eq_false (by omega)]), rfl, by omega, by simp, HR0.out, HJ0.out⟩
    case round =>
      obtain ⟨i, ok, rfl, rfl, hi, hok, hr, hj⟩ := hrel
      have HOk := Lib.hid hok
      have HR := Lib.hid hr
      have HJ := Lib.hid hj
      clear HR0 HJ0 hok hr hj
      by_cases hil : i < l.length
      · have hcw := HC.out wr HJ.out
        obtain ⟨b, off, rfl⟩ := hcw.addr (by intro e; simp [e] at hil)
        have hcc := hcw.at0 i hil
        have HAny := Lib.hid (any_takeO nb l i hil)
        have HInO := Lib.hid (inL_out l i hil nb)
        have HInS := Lib.hid (fun j hj => inL_take l i hil j hj)
        have HOutI : Hid (∀ y, outI nb y = decide (y < 0 ∨ (nb : Int) ≤ y)) := fun y => rfl
        generalize l.getD i 0 = x at *
        by_cases hx0 : x < 0
        · have HA2 : Hid (outI nb x = true) := by unfold Hid; rw [HOutI.out]; exact decide_eq_true (.inl hx0)
          clear hcw
          go_wp2
          go_roundw
          case rel => exact ⟨i + 1, false, rfl, by go_num, by omega, by rw [HAny.out, HA2.out]; simp, by rw [HInO.out HA2.out]; exact HR.out, HJ.out⟩
          case measure => simp [intOf]; omega
        · by_cases hx1 : x ≥ (nb : Int)
          · have HA2 : Hid (outI nb x = true) := by unfold Hid; rw [HOutI.out]; exact decide_eq_true (.inr hx1)
            clear hcw
            go_wp2
            go_roundw
            case rel => exact ⟨i + 1, false, rfl, by go_num, by omega, by rw [HAny.out, HA2.out]; simp, by rw [HInO.out HA2.out]; exact HR.out, HJ.out⟩
            case measure => simp [intOf]; omega
          · have HA2 : Hid (outI nb x = false) := by unfold Hid; rw [HOutI.out]; exact decide_eq_false (by omega)
            obtain ⟨j, rfl⟩ : ∃ j : Nat, x = j := ⟨x.toNat, by omega⟩
            have hj : j < nb := by omega
            have cI := (HR.out.cell j).trans (isA_get nb _ j hj)
            have fI := HR.out.frozen j
            have HR2 : Hid (Row (wr.setCell ⟨I, j, none⟩ (.bool true)) I 4 (isA nb (inL (l.take (i + 1))))) := by
              unfold Hid
              rw [HInS.out j rfl, ← isA_set nb _ j hj]
              exact HR.out.put j (.bool true)
            have HJ2 := Lib.hid (HJs.out wr _ j HR.out HJ.out)
            clear hcw
            go_wp2
            go_roundw
            case rel => exact ⟨i + 1, ok, rfl, by go_num, by omega, by rw [HAny.out, HA2.out, HOk.out]; simp, HR2.out, HJ2.out⟩
            case measure => simp [intOf]; omega
      · obtain rfl : i = l.length := by omega
        clear hil hi
        have hg2 := HG.out
        have hok2 := HOk.out
        rw [List.take_length, hg2] at hok2
        subst hok2
        have HZ := Lib.hid ((HJd.out _).1 HJ.out)
        clear HOk hg2 HG HJ HJs HJd HC HR
        go_wp2
        go_ret
        exact ⟨rfl, HZ.out⟩
  · by_cases n2 : n ≤ 192
    · obtain rfl : ok0 = true := by rw [h0]; exact decide_eq_true (by omega)
      have n3 : n ≥ 1 := by omega
      clear h0
      go_enter Tryd.func4, Tryd.ntmps4
      go_wp2_with fail
      refine (HK.out).mono ?_
      rintro e w1 ⟨rfl, hb⟩
      have HN1 := Lib.hid (HNf.out w1 hb)
      clear HK hb HNf
      go_wp2_with fail
      refine HN1.out.mono ?_
      rintro e w2 ⟨F, L, P, rfl, hfl, hb⟩
      have HN2 := Lib.hid (HNe.out w2 F L P hb hfl)
      clear HN1 hb hfl HNe
      go_wp2_with fail
      refine HN2.out.mono ?_
      rintro e w3 ⟨rfl, hb⟩
      have HJ0 : Hid (J (w3.alloc (.cells (madeCells #[.bool false] nb) 4))) := (HJd.out _).2 (hb.alloc hb.size _)
      have HR0 : Hid (Row (w3.alloc (.cells (madeCells #[.bool false] nb) 4)) w3.heap.size 4 (isA nb (inL (l.take 0)))) := by
        unfold Hid
        rw [show l.take 0 = [] from rfl, ← isA_start]; exact Row.fresh _ _ _
      have HJs : Hid (∀ wr (cs : Array Value) (k : Nat), Row wr w3.heap.size 4 cs → J wr → J (wr.setCell ⟨w3.heap.size, k, none⟩ (.bool true))) := fun wr cs k _ hj => (HJd.out _).2 (((HJd.out _).1 hj).setCell (p := ⟨w3.heap.size, k, none⟩) hb.size _)
      clear HN2 hb
      go_wp2_with (with_reducible refine wpList_make_row _ (o := ⟨some 54, .makeSlice 28 (.tmp 53) (.tmp 53), _, _, _, _⟩) rfl (.tmp 53) (.tmp 53) 28 rfl 4 i1 _ Tryd.underlying28 ji jz0 jz1 rfl .i64 .i64 nb rfl rfl hb1.out (by omega) ?_)
      generalize w3.alloc (.cells (madeCells #[.bool false] nb) 4) = wI at *
      generalize w3.heap.size = I at *
      go_loopw [10, 12] (fun okv iv wr => ∃ (i : Nat) (ok : Bool), okv = .bool ok ∧ iv = .int .i64 i ∧ i ≤ l.length ∧ ok = (true && !(l.take i).any (outI nb)) ∧ Row wr I 4 (isA nb (inL (l.take i))) ∧ J wr) (fun _ i _ => l.length - (intOf i).toNat)
      case atStart => exact ⟨0, true, (by first | rfl | rw [decide_eq_false (by omega)]), rfl, by omega, by simp, HR0.out, HJ0.out⟩
      case round =>
        obtain ⟨i, ok, rfl, rfl, hi, hok, hr, hj⟩ := hrel
        have HOk := Lib.hid hok
        have HR := Lib.hid hr
        have HJ := Lib.hid hj
        clear HR0 HJ0 hok hr hj
        by_cases hil : i < l.length
        · have hcw := HC.out wr HJ.out
          obtain ⟨b, off, rfl⟩ := hcw.addr (by intro e; simp [e] at hil)
          have hcc := hcw.at0 i hil
          have HAny := Lib.hid (any_takeO nb l i hil)
          have HInO := Lib.hid (inL_out l i hil nb)
          have HInS := Lib.hid (fun j hj => inL_take l i hil j hj)
          have HOutI : Hid (∀ y, outI nb y = decide (y < 0 ∨ (nb : Int) ≤ y)) := fun y => rfl
          generalize l.getD i 0 = x at *
          by_cases hx0 : x < 0
          · have HA2 : Hid (outI nb x = true) := by unfold Hid; rw [HOutI.out]; exact decide_eq_true (.inl hx0)
            clear hcw
            go_wp2
            go_roundw
            case rel => exact ⟨i + 1, false, rfl, by go_num, by omega, by rw [HAny.out, HA2.out]; simp, by rw [HInO.out HA2.out]; exact HR.out, HJ.out⟩
            case measure => simp [intOf]; omega
          · by_cases hx1 : x ≥ (nb : Int)
            · have HA2 : Hid (outI nb x = true) := by unfold Hid; rw [HOutI.out]; exact decide_eq_true (.inr hx1)
              clear hcw
              go_wp2
              go_roundw
              case rel => exact ⟨i + 1, false, rfl, by go_num, by omega, by rw [HAny.out, HA2.out]; simp, by rw [HInO.out HA2.out]; exact HR.out, HJ.out⟩
              case measure => simp [intOf]; omega
            · have HA2 : Hid (outI nb x = false) := by unfold Hid; rw [HOutI.out]; exact decide_eq_false (by omega)
              obtain ⟨j, rfl⟩ : ∃ j : Nat, x = j := ⟨x.toNat, by omega⟩
              have hj : j < nb := by omega
              have cI := (HR.out.cell j).trans (isA_get nb _ j hj)
              have fI := HR.out.frozen j
              have HR2 : Hid (Row (wr.setCell ⟨I, j, none⟩ (.bool true)) I 4 (isA nb (inL (l.take (i + 1))))) := by
                unfold Hid
                rw [HInS.out j rfl, ← isA_set nb _ j hj]
                exact HR.out.put j (.bool true)
              have HJ2 := Lib.hid (HJs.out wr _ j HR.out HJ.out)
              clear hcw
              go_wp2
              go_roundw
              case rel => exact ⟨i + 1, ok, rfl, by go_num, by omega, by rw [HAny.out, HA2.out, HOk.out]; simp, HR2.out, HJ2.out⟩
              case measure => simp [intOf]; omega
        · obtain rfl : i = l.length := by omega
          clear hil hi
          have hg2 := HG.out
          have hok2 := HOk.out
          rw [List.take_length, hg2] at hok2
          subst hok2
          have HZ := Lib.hid ((HJd.out _).1 HJ.out)
          clear HOk hg2 HG HJ HJs HJd HC HR
          go_wp2
          go_ret
          exact ⟨rfl, HZ.out⟩
    · obtain rfl : ok0 = false := by rw [h0]; exact decide_eq_false (by omega)
      have n3 : n ≥ 1 := by omega
      clear h0
      go_enter Tryd.func4, Tryd.ntmps4
      go_wp2_with fail
      refine (HK.out).mono ?_
      rintro e w1 ⟨rfl, hb⟩
      have HN1 := Lib.hid (HNf.out w1 hb)
      clear HK hb HNf
      go_wp2_with fail
      refine HN1.out.mono ?_
      rintro e w2 ⟨F, L, P, rfl, hfl, hb⟩
      have HN2 := Lib.hid (HNe.out w2 F L P hb hfl)
      clear HN1 hb hfl HNe
      go_wp2_with fail
      refine HN2.out.mono ?_
      rintro e w3 ⟨rfl, hb⟩
      have HJ0 : Hid (J (w3.alloc (.cells (madeCells #[.bool false] nb) 4))) := (HJd.out _).2 (hb.alloc hb.size _)
      have HR0 : Hid (Row (w3.alloc (.cells (madeCells #[.bool false] nb) 4)) w3.heap.size 4 (isA nb (inL (l.take 0)))) := by
        unfold Hid
        rw [show l.take 0 = [] from rfl, ← isA_start]; exact Row.fresh _ _ _
      have HJs : Hid (∀ wr (cs : Array Value) (k : Nat), Row wr w3.heap.size 4 cs → J wr → J (wr.setCell ⟨w3.heap.size, k, none⟩ (.bool true))) := fun wr cs k _ hj => (HJd.out _).2 (((HJd.out _).1 hj).setCell (p := ⟨w3.heap.size, k, none⟩) hb.size _)
      clear HN2 hb
      go_wp2_with (with_reducible refine wpList_make_row _ (o := ⟨some 54, .makeSlice 28 (.tmp 53) (.tmp 53), _, _, _, _⟩) rfl (.tmp 53) (.tmp 53) 28 rfl 4 i1 _ Tryd.underlying28 ji jz0 jz1 rfl .i64 .i64 nb rfl rfl hb1.out (by omega) ?_)
      generalize w3.alloc (.cells (madeCells #[.bool false] nb) 4) = wI at *
      generalize w3.heap.size = I at *
      go_loopw [10, 12] (fun okv iv wr => ∃ (i : Nat) (ok : Bool), okv = .bool ok ∧ iv = .int .i64 i ∧ i ≤ l.length ∧ ok = (false && !(l.take i).any (outI nb)) ∧ Row wr I 4 (isA nb (inL (l.take i))) ∧ J wr) (fun _ i _ => l.length - (intOf i).toNat)
      case atStart => exact ⟨0, false, (by first | rfl | rw [decide_eq_false (by omega)]), rfl, by omega, by simp, HR0.out, HJ0.out⟩
      case round =>
        obtain ⟨i, ok, rfl, rfl, hi, hok, hr, hj⟩ := hrel
        have HOk := Lib.hid hok
        have HR := Lib.hid hr
        have HJ := Lib.hid hj
        clear HR0 HJ0 hok hr hj
        by_cases hil : i < l.length
        · have hcw := HC.out wr HJ.out
          obtain ⟨b, off, rfl⟩ := hcw.addr (by intro e; simp [e] at hil)
          have hcc := hcw.at0 i hil
          have HAny := Lib.hid (any_takeO nb l i hil)
          have HInO := Lib.hid (inL_out l i hil nb)
          have HInS := Lib.hid (fun j hj => inL_take l i hil j hj)
          have HOutI : Hid (∀ y, outI nb y = decide (y < 0 ∨ (nb : Int) ≤ y)) := fun y => rfl
          generalize l.getD i 0 = x at *
          by_cases hx0 : x < 0
          · have HA2 : Hid (outI nb x = true) := by unfold Hid; rw [HOutI.out]; exact decide_eq_true (.inl hx0)
            clear hcw
            go_wp2
            go_roundw
            case rel => exact ⟨i + 1, false, rfl, by go_num, by omega, by rw [HAny.out, HA2.out]; simp, by rw [HInO.out HA2.out]; exact HR.out, HJ.out⟩
            case measure => simp [intOf]; omega
          · by_cases hx1 : x ≥ (nb : Int)
            · have HA2 : Hid (outI nb x = true) := by unfold Hid; rw [HOutI.out]; exact decide_eq_true (.inr hx1)
              clear hcw
              go_wp2
              go_roundw
              case rel => exact ⟨i + 1, false, rfl, by go_num, by omega, by rw [HAny.out, HA2.out]; simp, by rw [HInO.out HA2.out]; exact HR.out, HJ.out⟩
              case measure => simp [intOf]; omega
            · have HA2 : Hid (outI nb x = false) := by unfold Hid; rw [HOutI.out]; exact decide_eq_false (by omega)
              obtain ⟨j, rfl⟩ : ∃ j : Nat, x = j := ⟨x.toNat, by omega⟩
              have hj : j < nb := by omega
              have cI := (HR.out.cell j).trans (isA_get nb _ j hj)
              have fI := HR.out.frozen j
              have HR2 : Hid (Row (wr.setCell ⟨I, j, none⟩ (.bool true)) I 4 (isA nb (inL (l.take (i + 1))))) := by
                unfold Hid
                rw [HInS.out j rfl, ← isA_set nb _ j hj]
                exact HR.out.put j (.bool true)
              have HJ2 := Lib.hid (HJs.out wr _ j HR.out HJ.out)
              clear hcw
              go_wp2
              go_roundw
              case rel => exact ⟨i + 1, ok, rfl, by go_num, by omega, by rw [HAny.out, HA2.out, HOk.out]; simp, HR2.out, HJ2.out⟩
              case measure => simp [intOf]; omega
        · obtain rfl : i = l.length := by omega
          clear hil hi
          have hg2 := HG.out
          have hok2 := HOk.out
          rw [List.take_length, hg2] at hok2
          subst hok2
          have HZ := Lib.hid ((HJd.out _).1 HJ.out)
          clear HOk hg2 HG HJ HJs HJd HC HR
          go_wp2
          go_ret
          exact ⟨rfl, HZ.out⟩
theorem bad_slice {w : World} {B nb : Nat} {bad : Nat → Bool} {v : Value} (ho : w.ownsRow B 3 1 v (badL nb bad).length ((badL nb bad).map encZ)) : ∃ A c, v = .slice A (cntB bad nb) c ∧ ∀ k, k < nb → bad k = true → ∃ g, A = some ⟨g, 0, none⟩ ∧ cntB bad nb ≤ c ∧ w.cell? ⟨g, cntB bad k, none⟩ = some (.int .i64 k) := by
  rw [badL_length] at ho
  rcases ho.2 with ⟨rfl, h0⟩ | ⟨g, cap, cur, rfl, hbase, hr, h1, h2, h3, h4⟩
  · refine ⟨none, 0, by rw [h0], fun k hk hb => ?_⟩
    have := (badL_at nb bad k hk hb).2
    omega
  · refine ⟨_, cap, rfl, fun k hk hb => ⟨g, rfl, h1, ?_⟩⟩
    obtain ⟨h5, h6⟩ := badL_at nb bad k hk hb
    have h7 : (cur.toList.take (cntB bad nb * 1))[cntB bad k]? = ((badL nb bad).map encZ)[cntB bad k]? := by rw [h4]
    rw [List.getElem?_take, if_pos (by omega), List.getElem?_map, h5] at h7
    have h8 : cur[cntB bad k]? = some (.int .i64 k) := by simpa [encZ] using h7
    exact ((show Row w g 3 cur from hr).cell _).trans h8
theorem new_room (nb k : Nat) (bad : Nat → Bool) : (Fl.new nb 4 3).room bad k = if bad k then 0 else 4 := by
  unfold Fl.room
  cases h : bad k <;> rfl
set_option maxRecDepth 100000 in
set_option maxHeartbeats 8000000 in
theorem new_some (nb n : Nat) (A : Option Addr) (l : List Int) (c : Nat) (h1 : 1 ≤ nb ∧ nb ≤ 50) (hl : l.length ≤ 60) (w : World) (hT : Tab w) (hc : CellsI w A l) (hlc : l.length ≤ c) (hn : 1 ≤ n ∧ n ≤ 192) (hg : l.any (outI nb) = false) :
    Calls Tryd.prog 4 #[.int .i64 nb, .int .i64 n, .slice A l.length c] w fun e w' => e = .returned (.bool true) ∧ Below w.heap.size w w' := by
  have HK := Lib.hid (known_any w hT)
  obtain ⟨i1, ji, jz0, jz1, jz2⟩ := info_parts bool_info
  have hb1 : Hid (i1.bytes * nb ≤ 281474976710656) := by unfold Hid; rw [jz2]; omega
  have HNf : Hid (∀ w1, Below w.heap.size w w1 → Calls Tryd.prog 15 #[.int .i64 nb, .int .i64 4, .int .i64 3] w1 fun e w' => ∃ F L P, e = .returned (.tuple #[.pointer (some ⟨F, 0, none⟩), .int .i64 0]) ∧ FlIs w' w.heap.size F L P (Fl.new nb 4 3) ∧ Below w.heap.size w w') := fun w1 hb =>
    (New_any nb 4 3 (by omega) (by omega) (by omega) w1).mono fun e w' ⟨F, L, P, he, hfl, hb2⟩ => ⟨F, L, P, he, hfl.low hb.size, hb.trans (hb2.mono hb.size)⟩
  have HNe : Hid (∀ w1 F L P, Below w.heap.size w w1 → FlIs w1 w.heap.size F L P (Fl.new nb 4 3) → Calls Tryd.prog 16 #[.pointer (some ⟨F, 0, none⟩), .int .i64 n, .slice A l.length c] w1 fun e w' => ∃ M Q, e = .returned (.tuple #[.pointer (some ⟨M, 0, none⟩), .int .i64 0]) ∧ MedIs w' w.heap.size M Q F L P (Fl.new nb 4 3) n (inL l) 0 ∧ Below w.heap.size w w') := fun w1 F L P hb hfl =>
    (New_yes hfl hT.lt (hT.keep (keep_below hb)) n hn A l (by omega) c (hc.keep (keep_below hb)) hlc hg).mono fun e w' ⟨M, Q, he, hmd, hb2, _, _⟩ => ⟨M, Q, he, hmd, hb.trans (hb2.mono hb.size)⟩
  have g1 : ¬ (nb : Int) < 1 := by omega
  have g2 : ¬ (nb : Int) > 50 := by omega
  have g3 : ¬ (l.length : Int) > 60 := by omega
  have n2 : (n : Int) ≥ 1 := by omega
  have n3 : (n : Int) ≤ 192 := by omega
  have HC0 : Hid (∀ wr, Below w.heap.size w wr → CellsI wr A l) := fun wr h => hc.keep (keep_below h)
  have HG : Hid ((true && !l.any (outI nb)) = true) := by unfold Hid; rw [hg]; rfl
  clear hT hc hg
  go_enter Tryd.func4, Tryd.ntmps4
  go_wp2_with fail
  refine (HK.out).mono ?_
  rintro e w1 ⟨rfl, hb⟩
  have HN1 := Lib.hid (HNf.out w1 hb)
  clear HK hb HNf
  go_wp2_with fail
  refine HN1.out.mono ?_
  rintro e w2 ⟨F, L, P, rfl, hfl, hb⟩
  have HN2 := Lib.hid (HNe.out w2 F L P hb hfl)
  clear HN1 hb hfl HNe
  go_wp2_with fail
  refine HN2.out.mono ?_
  rintro e w3 ⟨M, Q, rfl, hmd, hb⟩
  obtain ⟨J, hJ⟩ : ∃ J : World → Prop, J = fun wr => MedIs wr w.heap.size M Q F L P (Fl.new nb 4 3) n (inL l) 0 ∧ Below w.heap.size w wr := ⟨_, rfl⟩
  have HJd : Hid (∀ wr, J wr ↔ MedIs wr w.heap.size M Q F L P (Fl.new nb 4 3) n (inL l) 0 ∧ Below w.heap.size w wr) := fun wr => by rw [hJ]
  have HC : Hid (∀ wr, J wr → CellsI wr A l) := fun wr h => HC0.out wr ((HJd.out wr).1 h).2
  have HJ0 : Hid (J (w3.alloc (.cells (madeCells #[.bool false] nb) 4))) := (HJd.out _).2 ⟨hmd.alloc _, hb.alloc hb.size _⟩
  have HR0 : Hid (Row (w3.alloc (.cells (madeCells #[.bool false] nb) 4)) w3.heap.size 4 (isA nb (inL (l.take 0)))) := by
    unfold Hid
    rw [show l.take 0 = [] from rfl, ← isA_start]; exact Row.fresh _ _ _
  have HJs : Hid (∀ wr (cs : Array Value) (k : Nat), Row wr w3.heap.size 4 cs → J wr → J (wr.setCell ⟨w3.heap.size, k, none⟩ (.bool true))) := fun wr cs k hrow hj => by
    obtain ⟨h1, h2⟩ := (HJd.out _).1 hj
    have ht : Turns wr (wr.setCell ⟨w3.heap.size, k, none⟩ (.bool true)) [w3.heap.size] := (Turns.refl _ _).setCell (by simp) _
    refine (HJd.out _).2 ⟨h1.aside ht (fun g hg => ?_) (fun g cs' hr hm => ?_) (fun hm => ?_), h2.setCell (p := ⟨w3.heap.size, k, none⟩) hb.size _⟩
    · rw [List.mem_singleton.1 hg]; exact h1.no_row hrow (by decide) (by decide) (by decide) (by decide)
    · rw [List.mem_singleton.1 hm] at hr; exact Row.ne_type hr hrow (by decide) rfl
    · have := List.mem_singleton.1 hm
      have h0 := h1.hB
      have := hb.size
      omega
  clear HN2 hb hmd hJ HC0
  go_wp2_with (with_reducible refine wpList_make_row _ (o := ⟨some 54, .makeSlice 28 (.tmp 53) (.tmp 53), _, _, _, _⟩) rfl (.tmp 53) (.tmp 53) 28 rfl 4 i1 _ Tryd.underlying28 ji jz0 jz1 rfl .i64 .i64 nb rfl rfl hb1.out (by omega) ?_)
  generalize w3.alloc (.cells (madeCells #[.bool false] nb) 4) = wI at *
  generalize w3.heap.size = I at *
  go_loopw [10, 12] (fun okv iv wr => ∃ (i : Nat) (ok : Bool), okv = .bool ok ∧ iv = .int .i64 i ∧ i ≤ l.length ∧ ok = (true && !(l.take i).any (outI nb)) ∧ Row wr I 4 (isA nb (inL (l.take i))) ∧ J wr) (fun _ i _ => l.length - (intOf i).toNat)
  case atStart => exact ⟨0, true, (by first | rfl | rw [decide_eq_false (by omega)]), rfl, by omega, by simp, HR0.out, HJ0.out⟩
  case round =>
    obtain ⟨i, ok, rfl, rfl, hi, hok, hr, hj⟩ := hrel
    have HOk := Lib.hid hok
    have HR := Lib.hid hr
    have HJ := Lib.hid hj
    clear HR0 HJ0 hok hr hj
    by_cases hil : i < l.length
    · have hcw := HC.out wr HJ.out
      obtain ⟨b, off, rfl⟩ := hcw.addr (by intro e; simp [e] at hil)
      have hcc := hcw.at0 i hil
      have HAny := Lib.hid (any_takeO nb l i hil)
      have HInO := Lib.hid (inL_out l i hil nb)
      have HInS := Lib.hid (fun j hj => inL_take l i hil j hj)
      have HOutI : Hid (∀ y, outI nb y = decide (y < 0 ∨ (nb : Int) ≤ y)) := fun y => rfl
      generalize l.getD i 0 = x at *
      by_cases hx0 : x < 0
      · have HA2 : Hid (outI nb x = true) := by unfold Hid; rw [HOutI.out]; exact decide_eq_true (.inl hx0)
        clear hcw
        go_wp2
        go_roundw
        case rel => exact ⟨i + 1, false, rfl, by go_num, by omega, by rw [HAny.out, HA2.out]; simp, by rw [HInO.out HA2.out]; exact HR.out, HJ.out⟩
        case measure => simp [intOf]; omega
      · by_cases hx1 : x ≥ (nb : Int)
        · have HA2 : Hid (outI nb x = true) := by unfold Hid; rw [HOutI.out]; exact decide_eq_true (.inr hx1)
          clear hcw
          go_wp2
          go_roundw
          case rel => exact ⟨i + 1, false, rfl, by go_num, by omega, by rw [HAny.out, HA2.out]; simp, by rw [HInO.out HA2.out]; exact HR.out, HJ.out⟩
          case measure => simp [intOf]; omega
        · have HA2 : Hid (outI nb x = false) := by unfold Hid; rw [HOutI.out]; exact decide_eq_false (by omega)
          obtain ⟨j, rfl⟩ : ∃ j : Nat, x = j := ⟨x.toNat, by omega⟩
          have hj : j < nb := by omega
          have cI := (HR.out.cell j).trans (isA_get nb _ j hj)
          have fI := HR.out.frozen j
          have HR2 : Hid (Row (wr.setCell ⟨I, j, none⟩ (.bool true)) I 4 (isA nb (inL (l.take (i + 1))))) := by
            unfold Hid
            rw [HInS.out j rfl, ← isA_set nb _ j hj]
            exact HR.out.put j (.bool true)
          have HJ2 := Lib.hid (HJs.out wr _ j HR.out HJ.out)
          clear hcw
          go_wp2
          go_roundw
          case rel => exact ⟨i + 1, ok, rfl, by go_num, by omega, by rw [HAny.out, HA2.out, HOk.out]; simp, HR2.out, HJ2.out⟩
          case measure => simp [intOf]; omega
    · obtain rfl : i = l.length := by omega
      clear hil hi
      have hok2 := HOk.out
      rw [List.take_length, HG.out] at hok2
      obtain rfl : ok = true := hok2
      obtain ⟨hmd, hbw⟩ := (HJd.out _).1 HJ.out
      have hrw := HR.out
      rw [List.take_length] at hrw
      have HFl := Lib.hid (Flash_any hmd)
      have HBd : Hid (Calls Tryd.prog 18 #[.pointer (some ⟨M, 0, none⟩)] wr fun e w' => ∃ A2 c2, e = .returned (.slice A2 (cntB (inL l) nb) c2) ∧ (∀ k, k < nb → inL l k = true → ∃ g, A2 = some ⟨g, 0, none⟩ ∧ cntB (inL l) nb ≤ c2 ∧ w'.cell? ⟨g, cntB (inL l) k, none⟩ = some (.int .i64 k)) ∧ MedIs w' w.heap.size M Q F L P (Fl.new nb 4 3) n (inL l) 0 ∧ Row w' I 4 (isA nb (inL l)) ∧ Below w.heap.size w w') :=
        (Bad_any hmd).mono fun e w' ⟨v, he, ho, hb2⟩ => by
          obtain ⟨A2, c2, rfl, hcl⟩ := bad_slice ho
          exact ⟨A2, c2, he, hcl, hmd.below hb2, (Turns.of_below hb2 []).row hrw (by simp), hbw.trans (hb2.mono hbw.size)⟩
      have HCn := Lib.hid (fun k => cntB_step (inL l) k)
      have HCl := Lib.hid (fun k => cntB_le (inL l) k)
      have HCa := Lib.hid (fun k hk hb => (badL_at nb (inL l) k hk hb).2)
      have hcn := cntB_le (inL l) nb
      have hc0 : cntB (inL l) 0 = 0 := rfl
      have HC0 := Lib.hid hc0
      clear HOk HG HJ HJs HJd HC HR hmd hbw hrw hc0
      generalize inL l = bd at *
      go_wp2_with fail
      refine HFl.out.mono ?_
      rintro e w5 ⟨rfl, rfl⟩
      clear HFl
      have hne : (binOp .neq 25 (.pointer (some ⟨F, 0, none⟩)) (.pointer (some ⟨F, 0, none⟩))).run Tryd.prog wr = .ok (.bool false) wr := by
        obtain ⟨j, hj⟩ := Option.isSome_iff_exists.1 (show (Tryd.prog.info? 42).isSome = true by kernel_rfl)
        exact Lib.run_neq_ptr_same wr ⟨F, 0, none⟩ Tryd.underlying25 hj
      go_wp2_with fail
      refine HBd.out.mono ?_
      rintro e wB ⟨A2, c2, rfl, hcl, hmd, hrw, hbw⟩
      have HCl2 := Lib.hid hcl
      have HMd := Lib.hid hmd
      have HRw := Lib.hid hrw
      have HBw := Lib.hid hbw
      have HRm : Hid (∀ k m, k < nb → Calls Tryd.prog 19 #[.pointer (some ⟨M, 0, none⟩), .int .i64 k] (wB.drewN m) fun e w' => e = .returned (.int .i64 (if bd k then (0 : Nat) else 4 : Nat)) ∧ ∃ m', w' = wB.drewN m') := fun k m hk => by
        have := Room_N hmd k hk m
        rw [new_room] at this
        exact this
      have HRo : Hid (∀ (k : Int) m, (k < 0 ∨ (nb : Int) ≤ k) → Calls Tryd.prog 19 #[.pointer (some ⟨M, 0, none⟩), .int .i64 k] (wB.drewN m) fun e w' => e = .returned (.int .i64 0) ∧ ∃ m', w' = wB.drewN m') := fun k m hk =>
        (Room_out (hmd.drewN m) k hk).mono fun e w' ⟨he, m', hw⟩ => ⟨he, m + m', by rw [hw, World.drewN_drewN]⟩
      clear HBd hcl hmd hrw hbw
      go_wp2_with fail
      go_loopw [14, 15] (fun nv kv wr => ∃ (k m : Nat), nv = .int .i64 (cntB bd k : Nat) ∧ kv = .int .i64 k ∧ k ≤ nb ∧ wr = wB.drewN m) (fun _ k _ => nb - (intOf k).toNat)
      case atStart => exact ⟨0, 0, by rw [HC0.out]; rfl, rfl, by omega, rfl⟩
      case round =>
        obtain ⟨k, m, rfl, rfl, hk, rfl⟩ := hrel
        by_cases hkn : k < nb
        · have cI := (HRw.out.cell k).trans (isA_get nb _ k hkn)
          have hst := HCn.out k
          have HRk := Lib.hid (HRm.out k m hkn)
          cases hbk : bd k with
          | true =>
            rw [hbk] at HRk cI hst
            obtain ⟨g, rfl, hc2, hcell⟩ := HCl2.out k hkn hbk
            have hlt := HCa.out k hkn hbk
            have HSt := Lib.hid hst
            generalize cntB bd nb = cN at *
            generalize cntB bd k = ck at *
            have hnge : ¬ (ck : Int) ≥ cN := by omega
            clear hst hbk
            go_wp2_with fail
            refine HRk.out.mono ?_
            rintro e w7 ⟨rfl, m2, rfl⟩
            clear HRk
            go_wp2
            go_roundw
            case rel => exact ⟨k + 1, m2, by rw [HSt.out]; go_num, by go_num, by omega, rfl⟩
            case measure => simp [intOf]; omega
          | false =>
            rw [hbk] at HRk cI hst
            have HSt := Lib.hid hst
            clear hst hbk
            go_wp2_with fail
            refine HRk.out.mono ?_
            rintro e w7 ⟨rfl, m2, rfl⟩
            clear HRk
            go_wp2
            go_roundw
            case rel => exact ⟨k + 1, m2, by rw [HSt.out]; rfl, by go_num, by omega, rfl⟩
            case measure => simp [intOf]; omega
        · obtain rfl : k = nb := by omega
          have HRa := Lib.hid (HRo.out (-1) m (.inl (by omega)))
          have HRb := Lib.hid (fun m => HRo.out k m (.inr (by omega)))
          clear HRo HRm
          generalize cntB bd k = ck at *
          go_wp2_with fail
          refine HRa.out.mono ?_
          rintro e w7 ⟨rfl, m2, rfl⟩
          clear HRa
          go_wp2_with fail
          refine (HRb.out _).mono ?_
          rintro e w7 ⟨rfl, m3, rfl⟩
          clear HRb
          have HZ : Hid (Below w.heap.size w (wB.drewN m3)) := below_drewN0 HBw.out _
          go_wp2
          go_ret
          exact ⟨rfl, HZ.out⟩
end Go.Proofs.YtlidbkofjchnnaaDoor
