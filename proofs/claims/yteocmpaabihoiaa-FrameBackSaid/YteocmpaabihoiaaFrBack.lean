/- The walk of FrameBack. -/
import Derived.Test.YteocmpaabihoiaaFrReadLong
namespace Go.Proofs.Yteocmpaabihoiaa
open Go.RowKit
set_option linter.unusedVariables false
set_option linter.unusedSimpArgs false

theorem t17_size : (Try.prog.info? 41).map (·.size) = some 17 := by kernel_rfl
def zeros17 : Array Value := #[.int .u8 0, .int .u8 0, .int .u8 0, .int .u8 0, .int .u8 0, .int .u8 0, .int .u8 0, .int .u8 0, .int .u8 0, .int .u8 0, .int .u8 0, .int .u8 0, .int .u8 0, .int .u8 0, .int .u8 0, .int .u8 0, .int .u8 0]

theorem row6 {w : World} {g : Nat} {t : TypeId} {x0 x1 x2 x3 x4 x5 : Nat} (h : Row w g t #[.int .u8 (x0 : Int), .int .u8 (x1 : Int), .int .u8 (x2 : Int), .int .u8 (x3 : Int), .int .u8 (x4 : Int), .int .u8 (x5 : Int)]) :
    Cells8 w (some ⟨g, 0, none⟩) [x0, x1, x2, x3, x4, x5] := by
  intro i hi
  refine ⟨g, 0, rfl, ?_⟩
  rw [h.cell, Nat.zero_add]
  simp only [List.length_cons, List.length_nil] at hi
  have : i = 0 ∨ i = 1 ∨ i = 2 ∨ i = 3 ∨ i = 4 ∨ i = 5 := by omega
  rcases this with rfl | rfl | rfl | rfl | rfl | rfl <;> simp
theorem keep_alloc (w : World) (o : Obj) : ∀ p v, w.cell? p = some v → (w.alloc o).cell? p = some v := fun p v h => (World.cell?_alloc_lt _ _ _ (World.block_lt_of_cell? w p h)).trans h
theorem rowL {w : World} {g : Nat} {t : TypeId} {L : List Nat} (h : Row w g t (ints8 L).toArray) : Cells8 w (some ⟨g, 0, none⟩) L := by
  intro i hi
  refine ⟨g, 0, rfl, ?_⟩
  rw [h.cell, Nat.zero_add, List.getElem?_toArray, ints8_get _ _ hi]

theorem longL_16 (L : List Nat) (h : L.length = 16) : longL L = 63 :: L.set 15 (L.getD 15 0 ||| 1) := by
  match L, h with
  | [z0, z1, z2, z3, z4, z5, z6, z7, z8, z9, z10, z11, z12, z13, z14, z15], _ => rfl
theorem or_and254 (x : Nat) (h : x < 256) : (x ||| 1) &&& 254 = x &&& 254 := by
  have H : ∀ y : Fin 256, (y.val ||| 1) &&& 254 = y.val &&& 254 := by decide +kernel
  exact H ⟨x, h⟩
theorem or_and1 (x : Nat) (h : x < 256) : (x ||| 1) &&& 1 ≠ 0 := by
  have H : ∀ y : Fin 256, (y.val ||| 1) &&& 1 ≠ 0 := by decide +kernel
  exact H ⟨x, h⟩
theorem rlOut_long (L : List Nat) (h : L.length = 16) (h8 : ∀ x ∈ L, x < 256) : rlOut (longL L) = L.set 15 (L.getD 15 0 &&& 254) := by
  have hx := h8 _ (getD_mem L 15 (by omega))
  rw [longL_16 L h]
  unfold rlOut
  simp only [List.drop_succ_cons, List.drop_zero]
  have e : (L.set 15 (L.getD 15 0 ||| 1)).getD 15 0 = L.getD 15 0 ||| 1 := by simp [List.getD, show 15 < L.length by omega]
  rw [e, or_and254 _ hx, List.set_set]
theorem longL_lt (L : List Nat) (h8 : ∀ x ∈ L, x < 256) : ∀ x ∈ longL L, x < 256 := by
  intro x hx
  unfold longL at hx
  rcases List.mem_or_eq_of_mem_set hx with h | rfl
  · exact base17_lt L h8 x h
  · exact or1_lt _ (base17_lt L h8 _ (getD_mem _ 16 (by rw [base17_length]; omega)))
/-- The text of some bytes. -/
def textOf (l : List Nat) : ByteArray := (l.map fun (x : Nat) => (x : Int)).foldl (fun r n => r.push (UInt8.ofNat n.toNat)) ByteArray.empty
theorem run_text {P : Program} (w : World) (src dst e : TypeId) (b off c : Nat) (l : List Nat) (n : Nat) (hn : n = l.length)
    (hs : P.underlying src = some (.slice e)) (he : P.underlying e = some (.int .u8)) (hd : P.underlying dst = some .string) (hc : Cells8 w (some ⟨b, off, none⟩) l) :
    (convert src dst (.slice (some ⟨b, off, none⟩) n c)).run P w = .ok (.string (textOf l)) w := by
  subst hn
  rw [run_convert_bytes_string w src dst e _ _ _ hs he hd]
  refine run_bytesToString w _ _ _ _ ?_
  have h := run_loadCells_list (P := P) w ⟨b, off, none⟩ (ints8 l) (fun j v hv => by
    have hj : j < l.length := by
      rcases Nat.lt_or_ge j l.length with h | h
      · exact h
      · rw [List.getElem?_eq_none (by rw [ints8_length]; exact h)] at hv; cases hv
    rw [ints8_get _ _ hj] at hv
    rw [addr_add, hc.at0 j hj]; exact hv)
  rw [ints8_length] at h
  rw [h]; congr 1
  simp [ints8]

set_option maxRecDepth 100000 in
set_option maxHeartbeats 2000000 in
theorem back_in (n v st : Nat) (L : List Nat) (hL : L.length = 16) (hn : n < 64) (hv : v < 4294967296) (hs : st < 4294967296) (h8 : ∀ x ∈ L, x < 256) (w : World) :
    Calls Try.prog 5 #[.agg #[.int .i64 n, .int .u32 v], .int .u32 st, .agg (ints8 L).toArray] w fun e w' => e = .returned (.bool true) ∧ Below w.heap.size w w' := by
  obtain ⟨x0, x1, x2, x3, x4, x5, hX⟩ : ∃ x0 x1 x2 x3 x4 x5, frameL (n + 64) v = [x0, x1, x2, x3, x4, x5] := ⟨_, _, _, _, _, _, rfl⟩
  obtain ⟨y0, y1, y2, y3, y4, y5, hY⟩ : ∃ y0 y1 y2 y3 y4 y5, frameL n st = [y0, y1, y2, y3, y4, y5] := ⟨_, _, _, _, _, _, rfl⟩
  have HX := Lib.hid hX; clear hX
  have HY := Lib.hid hY; clear hY
  have HE := Lib.hid (Encode_yes n v hn hv)
  rw [laid_six, HX.out] at HE
  have HR := Lib.hid (Response_any n st hs)
  rw [low6_small n hn, laid_six, HY.out] at HR
  have hX8 : ∀ x ∈ [x0, x1, x2, x3, x4, x5], x < 256 := by
    rw [← HX.out]; intro x hx
    have := sum7_lt (n + 64) v (by omega) hv
    simp [frameL] at hx; omega
  have hY8 : ∀ x ∈ [y0, y1, y2, y3, y4, y5], x < 256 := by
    rw [← HY.out]; intro x hx
    have := sum7_lt n st (by omega) hs
    simp [frameL] at hx; omega
  have HDX := Lib.hid (fun b w' hc' hb' => Decode_six b 0 [x0, x1, x2, x3, x4, x5] 6 rfl (by omega) (by simp [maxLen]) hX8 w' hc' hb')
  rw [← HX.out, readF_frame n v hn hv, HX.out] at HDX
  have HRX := Lib.hid (fun b w' hc' => Read_six b 0 [x0, x1, x2, x3, x4, x5] 6 rfl (by omega) (by simp [maxLen]) hX8 w' hc')
  rw [← HX.out, readF_host_card n v hn hv, HX.out] at HRX
  have HDY := Lib.hid (fun b w' hc' hb' => Decode_six b 0 [y0, y1, y2, y3, y4, y5] 6 rfl (by omega) (by simp [maxLen]) hY8 w' hc' hb')
  rw [← HY.out, readF_card_host n st hn, HY.out] at HDY
  have HRY := Lib.hid (fun b w' hc' => Read_six b 0 [y0, y1, y2, y3, y4, y5] 6 rfl (by omega) (by simp [maxLen]) hY8 w' hc')
  rw [← HY.out, readF_card n st hn hs, HY.out] at HRY
  simp only [cmdOf, tripOf] at HDX HRX HDY HRY
  have H8 := Lib.hid h8
  have HLen := Lib.hid hL
  clear hX8 hY8 h8 hL
  go_enter Try.func5, Try.ntmps5
  go_wp2_with fail
  refine (known_any _).mono ?_
  rintro e w1 ⟨rfl, hb1⟩
  obtain ⟨hc1, hf1⟩ := bcell hb1
  have hz1 := hb1.size
  simp at hz1
  have HL1 : Hid (Row w1 (w.heap.size + 1) 37 (ints8 L).toArray) := by
    have h := Row.fresh (w.alloc (.cells #[.int .i64 n, .int .u32 v] 24)) 37 (ints8 L).toArray
    rw [show (w.alloc (.cells #[.int .i64 n, .int .u32 v] 24)).heap.size = w.heap.size + 1 from by simp] at h
    exact h.below hb1 (by simp)
  have q0 : w1.cell? ⟨w.heap.size, 0, none⟩ = some (.int .i64 n) := by rw [hc1 _ _ (by simp; omega)]; simp [go_sem]
  have q1 : w1.cell? ⟨w.heap.size, 1, none⟩ = some (.int .u32 v) := by rw [hc1 _ _ (by simp; omega)]; simp [go_sem]
  clear hc1 hf1
  go_wp2_with fail
  refine (HE.out _).mono ?_
  rintro e w2 ⟨rfl, hb2⟩
  have hz2 := hb2.size
  have q0' := keep_below hb2 _ _ q0
  have q1' := keep_below hb2 _ _ q1
  have HL2 := Lib.hid (HL1.out.below hb2 HL1.out.lt)
  clear q0 q1 HL1
  simp only [six, List.getD_cons_zero, List.getD_cons_succ]
  go_wp2_with fail
  have RX2 := Lib.hid (Row.fresh w2 26 #[.int .u8 (x0 : Int), .int .u8 x1, .int .u8 x2, .int .u8 x3, .int .u8 x4, .int .u8 x5])
  refine (HDX.out _ _ (row6 RX2.out) (by simp)).mono ?_
  rintro e w3 ⟨rfl, hb3⟩
  have q0 := keep_below hb3 _ _ (keep_alloc _ _ _ _ q0')
  have q1 := keep_below hb3 _ _ (keep_alloc _ _ _ _ q1')
  have HL3 := Lib.hid ((HL2.out.alloc _).below hb3 (HL2.out.alloc _).lt)
  clear q0' q1' HL2
  have hz3 := hb3.size
  simp at hz3
  have RX3 := Lib.hid (RX2.out.below hb3 (by simp))
  go_wp2_with fail
  have RX3' := Lib.hid (RX3.out.alloc (.cells #[.int .i64 n, .int .u32 v] 24))
  refine (HRX.out _ _ (row6 RX3'.out)).mono ?_
  rintro e w4 ⟨rfl, n4, rfl⟩
  have z1 : w.heap.size < w3.heap.size := by omega
  go_wp2_with fail
  refine (HR.out _).mono ?_
  rintro e w5 ⟨rfl, hb5⟩
  have q0' := keep_below hb5 ⟨w.heap.size, 0, none⟩ _ (keep_alloc w3 (.cells #[.int .i64 n, .int .u32 v] 24) _ _ q0)
  have q1' := keep_below hb5 ⟨w.heap.size, 1, none⟩ _ (keep_alloc w3 (.cells #[.int .i64 n, .int .u32 v] 24) _ _ q1)
  have HL5 := Lib.hid (((HL3.out.alloc (.cells #[.int .i64 n, .int .u32 v] 24)).drewN n4).below hb5 (HL3.out.alloc (.cells #[.int .i64 n, .int .u32 v] 24)).lt)
  clear q0 q1 HL3
  have hz5 := hb5.size
  simp at hz5
  simp only [six, List.getD_cons_zero, List.getD_cons_succ]
  go_wp2_with fail
  have RY5 := Lib.hid (Row.fresh w5 26 #[.int .u8 (y0 : Int), .int .u8 y1, .int .u8 y2, .int .u8 y3, .int .u8 y4, .int .u8 y5])
  refine (HRY.out _ _ (row6 RY5.out)).mono ?_
  rintro e w6 ⟨rfl, n6, rfl⟩
  go_wp2_with fail
  refine (HDY.out _ _ (row6 (RY5.out.drewN n6)) (by simp)).mono ?_
  rintro e w7 ⟨rfl, hb7⟩
  have q0 := keep_below hb7 ⟨w.heap.size, 0, none⟩ _ (keep_alloc w5 (.cells #[.int .u8 (y0 : Int), .int .u8 y1, .int .u8 y2, .int .u8 y3, .int .u8 y4, .int .u8 y5] 26) _ _ q0')
  have q1 := keep_below hb7 ⟨w.heap.size, 1, none⟩ _ (keep_alloc w5 (.cells #[.int .u8 (y0 : Int), .int .u8 y1, .int .u8 y2, .int .u8 y3, .int .u8 y4, .int .u8 y5] 26) _ _ q1')
  have HL7 := Lib.hid (((HL5.out.alloc (.cells #[.int .u8 (y0 : Int), .int .u8 y1, .int .u8 y2, .int .u8 y3, .int .u8 y4, .int .u8 y5] 26)).drewN n6).below hb7 (HL5.out.alloc (.cells #[.int .u8 (y0 : Int), .int .u8 y1, .int .u8 y2, .int .u8 y3, .int .u8 y4, .int .u8 y5] 26)).lt)
  clear q0' q1' HL5
  have hz7 := hb7.size
  simp at hz7
  have z2 : w.heap.size < w5.heap.size := by omega
  have z3 : w.heap.size < w7.heap.size := by omega
  go_wp2_with fail
  have HL8 := Lib.hid (HL7.out.alloc (.cells #[.int .i64 0, .int .u32 0] 24))
  refine (Long_any (some ⟨w.heap.size + 1, 0, none⟩) L 16 16 HLen.out.symm H8.out _ (rowL HL8.out)).mono ?_
  rintro e w9 ⟨rfl, hb9⟩
  have hz9 := hb9.size
  simp at hz9
  have HL9 := Lib.hid (HL8.out.below hb9 HL8.out.lt)
  have hll : (longL L).length = 17 := by unfold longL; rw [List.length_set, base17_length]
  have hsz : (ints8 (longL L)).toArray.size = 17 := by simp [ints8, hll]
  have hone : (ints8 (longL L)).toArray.all (·.oneCell') = true := by
    rw [Array.all_eq_true_iff_forall_mem]; intro x hx; exact ints8_one _ x (by simpa using hx)
  have Hsz := Lib.hid hsz
  have Hone := Lib.hid hone
  have Hll := Lib.hid hll
  clear hll hsz hone HL7 HL8
  go_wp2_with (with_reducible refine wpList_store_whole (o := ⟨none, .store 41 (.tmp 22) (.tmp 106), _, _, _, _⟩) rfl 41 (.tmp 22) (.tmp 106) rfl w9.heap.size (ints8 (longL L)).toArray ?e1 ?e2 41 zeros17 ?e3 ?e4 ?e5 Hone.out ?_)
  case e1 => rfl
  case e2 => rfl
  case e3 => exact Row.fresh _ _ _
  case e4 => rw [Hsz.out]; exact t17_size
  case e5 => rw [Hsz.out]; rfl
  intro w10 HZ10 hg10
  go_wp2_with fail
  have HL10 := Lib.hid (grown_row (HL9.out.alloc _) hg10 (by omega))
  have h63 : (longL L).getD 0 0 = 63 := by rw [longL_16 L HLen.out]; rfl
  have h16 : (longL L).getD 16 0 &&& 1 ≠ 0 := by
    rw [longL_16 L HLen.out]
    have : (63 :: L.set 15 (L.getD 15 0 ||| 1)).getD 16 0 = L.getD 15 0 ||| 1 := by simp [List.getD, HLen.out]
    rw [this]; exact or_and1 _ (H8.out _ (getD_mem L 15 (by rw [HLen.out]; omega)))
  refine (ReadLong_ok w9.heap.size 0 (longL L) 17 Hll.out (by omega) (by simp [maxLen]) (longL_lt L H8.out) _ (rowL HZ10.out) h63 h16).mono ?_
  rintro e w11 ⟨v11, rfl, own11, hb11⟩
  rw [rlOut_long L HLen.out H8.out] at own11
  clear h63 h16
  have HL11 := Lib.hid (HL10.out.below hb11 HL10.out.lt)
  have hcl := HL11.out.cell 15
  rw [List.getElem?_toArray, ints8_get _ _ (by rw [HLen.out]; omega)] at hcl
  have hfl := HL11.out.frozen 15
  have hxl := H8.out _ (getD_mem L 15 (by rw [HLen.out]; omega))
  obtain ⟨g, c, rfl, hg0, hg1, hgc, hgm⟩ := own_at own11 (by omega)
  have Hown := Lib.hid own11
  clear own11
  have hz10 := hg10.size
  simp at hz10
  have HS11 : Hid (∀ u : World, u = w11.setCell ⟨w.heap.size + 1, 15, none⟩ (.int .u8 ((L.getD 15 0 &&& 254 : Nat) : Int)) → Cells8 u (some ⟨w.heap.size + 1, 0, none⟩) (L.set 15 (L.getD 15 0 &&& 254)) ∧ Cells8 u (some ⟨g, 0, none⟩) (L.set 15 (L.getD 15 0 &&& 254))) := by
    rintro u rfl
    refine ⟨rowL (t := 37) ?_, ?_⟩
    · have := HL11.out.put 15 (.int .u8 ((L.getD 15 0 &&& 254 : Nat) : Int))
      simpa [ints8, List.map_set] using this
    · have := (Cells8.of_own Hown.out).2
      intro i hi
      refine ⟨g, 0, rfl, ?_⟩
      have h := this.at0 i hi
      rw [World.cell?_setCell_other _ _ _ _ (by intro e; injection e with e1 e2; omega)]
      exact h
  revert hcl hxl HS11
  generalize L.getD 15 0 = x15
  intro hcl hxl HS11
  have en : bits .andNot .u8 (x15 : Int) 1 = ((x15 &&& 254 : Nat) : Int) := u8_andNot_nat x15 1 hxl (by omega)
  go_wp2_with fail
  obtain ⟨HC1, HC2⟩ := HS11.out _ rfl
  have hlen15 : (L.set 15 (x15 &&& 254)).length = 16 := by rw [List.length_set, HLen.out]
  generalize L.set 15 (x15 &&& 254) = T at HC1 HC2 hlen15
  have hk1 : ∀ k, (convert 33 9 (.slice (some ⟨w.heap.size + 1, 0, none⟩) 16 16)).run Try.prog ((w11.setCell ⟨w.heap.size + 1, 15, none⟩ (.int .u8 ((x15 &&& 254 : Nat) : Int))).drewN k) = .ok (.string (textOf T)) ((w11.setCell ⟨w.heap.size + 1, 15, none⟩ (.int .u8 ((x15 &&& 254 : Nat) : Int))).drewN k) :=
    fun k => run_text _ _ _ _ _ _ _ T 16 hlen15.symm Try.underlying33 Try.underlying5 Try.underlying9 (HC1.drewN k)
  have hk2 : ∀ k, (convert 33 9 (.slice (some ⟨g, 0, none⟩) 16 c)).run Try.prog ((w11.setCell ⟨w.heap.size + 1, 15, none⟩ (.int .u8 ((x15 &&& 254 : Nat) : Int))).drewN k) = .ok (.string (textOf T)) ((w11.setCell ⟨w.heap.size + 1, 15, none⟩ (.int .u8 ((x15 &&& 254 : Nat) : Int))).drewN k) :=
    fun k => run_text _ _ _ _ _ _ _ T 16 hlen15.symm Try.underlying33 Try.underlying5 Try.underlying9 (HC2.drewN k)
  have Hfin : Hid (Below w.heap.size w (w11.setCell ⟨w.heap.size + 1, 15, none⟩ (.int .u8 ((x15 &&& 254 : Nat) : Int)))) := by
    unfold Hid
    have b9 : Below w.heap.size w w9 := by (have hsz0 := Below.size hb9; have hsz1 := Below.size hb7; have hsz2 := Below.size hb5; have hsz3 := Below.size hb3; have hsz4 := Below.size hb2; have hsz5 := Below.size hb1; repeat (first | (with_reducible refine Below.drew ?_) | (with_reducible refine below_drewN0 ?_ _) | ((with_reducible refine Below.setCell ?_ ?_ _); rotate_left; focus (first | omega | (simp; done) | (simp; omega) | (simp at *; omega))) | ((with_reducible refine Below.alloc ?_ ?_ _); rotate_left; focus (first | omega | (simp; done) | (simp; omega) | (simp at *; omega))) | ((with_reducible refine Below.trans ?_ (Below.mono hb9 ?_)); rotate_left; focus (first | omega | (simp; done) | (simp; omega) | (simp at *; omega))) | ((with_reducible refine Below.trans ?_ (Below.mono hb7 ?_)); rotate_left; focus (first | omega | (simp; done) | (simp; omega) | (simp at *; omega))) | ((with_reducible refine Below.trans ?_ (Below.mono hb5 ?_)); rotate_left; focus (first | omega | (simp; done) | (simp; omega) | (simp at *; omega))) | ((with_reducible refine Below.trans ?_ (Below.mono hb3 ?_)); rotate_left; focus (first | omega | (simp; done) | (simp; omega) | (simp at *; omega))) | ((with_reducible refine Below.trans ?_ (Below.mono hb2 ?_)); rotate_left; focus (first | omega | (simp; done) | (simp; omega) | (simp at *; omega))) | ((with_reducible refine Below.trans ?_ (Below.mono hb1 ?_)); rotate_left; focus (first | omega | (simp; done) | (simp; omega) | (simp at *; omega))) | (with_reducible exact Below.refl _ _)))
    have b10 := below_grown (b9.alloc b9.size (.cells zeros17 41)) hg10 (by have := b9.size; simp; omega) (by omega)
    (have hsz0 := Below.size hb11; have hsz1 := Below.size b10; repeat (first | (with_reducible refine Below.drew ?_) | (with_reducible refine below_drewN0 ?_ _) | ((with_reducible refine Below.setCell ?_ ?_ _); rotate_left; focus (first | omega | (simp; done) | (simp; omega) | (simp at *; omega))) | ((with_reducible refine Below.alloc ?_ ?_ _); rotate_left; focus (first | omega | (simp; done) | (simp; omega) | (simp at *; omega))) | ((with_reducible refine Below.trans ?_ (Below.mono hb11 ?_)); rotate_left; focus (first | omega | (simp; done) | (simp; omega) | (simp at *; omega))) | ((with_reducible refine Below.trans ?_ (Below.mono b10 ?_)); rotate_left; focus (first | omega | (simp; done) | (simp; omega) | (simp at *; omega))) | (with_reducible exact Below.refl _ _)))
  clear HC1 HC2 hlen15 HS11 Hown HL11 hcl hfl
  revert hk1 hk2 Hfin
  generalize w11.setCell ⟨w.heap.size + 1, 15, none⟩ (.int .u8 ((x15 &&& 254 : Nat) : Int)) = U
  generalize textOf T = S
  intro hk1 hk2 Hfin
  go_quiet (fail)
  go_wp2
  go_ret
  refine ⟨?_, ?_⟩
  · simp
  · exact below_drewN0 Hfin.out _
end Go.Proofs.Yteocmpaabihoiaa
