/- What follows is laid together from several texts of mine, in their order. -/
import Derived.Test.YtlidbkofjchnnaaDoorQ1
import Derived.Deep.OwnRows

namespace Go.Proofs.YtlidbkofjchnnaaDoor
open Go.RowKit
set_option linter.unusedVariables false
set_option linter.unusedSimpArgs false

theorem u8_info : (Tryd.prog.info? 5).map (fun i => (i.zero, i.size, i.bytes)) = some (some (.int .u8 0), 1, 1) := by kernel_rfl
theorem Cells8.drop {w : World} {b off : Nat} {l : List Nat} (h : Cells8 w (some ⟨b, off, none⟩) l) (k : Nat) : Cells8 w (some ⟨b, off + k, none⟩) (l.drop k) := fun i hi => by
  rw [List.length_drop] at hi
  refine ⟨b, off + k, rfl, ?_⟩
  have := h.at0 (k + i) (by omega)
  rw [← Nat.add_assoc] at this
  rw [this]
  congr 3
  rw [List.getD_eq_getElem?_getD, List.getD_eq_getElem?_getD, List.getElem?_drop]
theorem mem_drop {l : List Nat} {k : Nat} (h : ∀ u ∈ l, u < 256) : ∀ u ∈ l.drop k, u < 256 := fun u hu => h u (List.mem_of_mem_drop hu)
theorem gw_64 (l : List Nat) (h : ∀ u ∈ l, u < 256) : gw l 8 < 18446744073709551616 := by
  have := gw_lt l (getD_lt h) 8
  simpa using this
/-- The checks of the first k words. -/
def chks (l : List Nat) (k : Nat) : List Nat := (List.range k).map fun i => chk (gw (l.drop (8 * i)) 8)
theorem chks_step (l : List Nat) (k : Nat) : chks l (k + 1) = chks l k ++ [chk (gw (l.drop (8 * k)) 8)] := by simp [chks, List.range_succ]
theorem chks_length (l : List Nat) (k : Nat) : (chks l k).length = k := by simp [chks]
theorem chks_lt (l : List Nat) (k : Nat) : ∀ u ∈ chks l k, u < 256 := by
  intro u hu
  obtain ⟨i, _, rfl⟩ := List.mem_map.1 hu
  exact chk_lt _
theorem src_one {w : World} {v : Value} {t : TypeId} : Src (w.alloc (.cells #[v] t)) 1 (some ⟨w.heap.size, 0, none⟩) 1 [v] :=
  ⟨rfl, fun _ => ⟨_, rfl, fun j u hu => by
    have hj : j = 0 := by have := (List.getElem?_eq_some_iff.1 hu).1; simpa using this
    subst hj
    simp at hu; subst hu
    rw [addr_add, Nat.zero_add, (Row.fresh w t #[v]).cell 0]; rfl⟩⟩
theorem below_append {B : Nat} {a w w' : World} {A : Option Addr} {n c : Nat} {e : TypeId} {sz : Nat} {xs : List Value} (h : Below B a w) (ho : w.ownsRow B e sz (.slice A n c) n xs) (hg : w.grownBy w' (Value.slice A n c).ownBlock) (hB : B ≤ w.heap.size) : Below B a w' :=
  h.grown hg hB (fun k hk => (ho.lt k hk).1)
set_option maxRecDepth 100000 in
set_option maxHeartbeats 2000000 in
theorem Words_any (b off c : Nat) (l : List Nat) (hl : l.length = 64) (hc64 : 64 ≤ c) (h256 : ∀ u ∈ l, u < 256) (w : World) (hc : Cells8 w (some ⟨b, off, none⟩) l) (hT : Tab w) :
    Calls Tryd.prog 49 #[.slice (some ⟨b, off, none⟩) 64 c] w fun e w' => ∃ Ao co, e = .returned (.slice Ao 8 co) ∧ w'.ownsRow w.heap.size 5 1 (.slice Ao 8 co) 8 (intsV .u8 (chks l 8)) ∧ Below w.heap.size w w' := by
  obtain ⟨i1, ji, jz0, jz1, jz2⟩ := info_parts u8_info
  have HC := Lib.hid hc
  have HT := Lib.hid hT
  have HL := Lib.hid hl
  have H256 := Lib.hid h256
  clear hc hT hl h256
  go_enter Tryd.func49, Tryd.ntmps49
  go_wp2
  go_loopw [3, 4] (fun ov i wr => ∃ (Ao : Option Addr) (co k : Nat), ov = .slice Ao k co ∧ k ≤ 8 ∧ i = .int .i64 (8 * k : Nat) ∧ wr.ownsRow w.heap.size 5 1 (.slice Ao k co) k (intsV .u8 (chks l k)) ∧ Below w.heap.size w wr) (fun _ i _ => 64 - (intOf i).toNat)
  case atStart => exact ⟨none, 0, 0, rfl, by omega, rfl, World.ownsRow_nil _ _ _ _, Below.refl _ _⟩
  case round =>
    obtain ⟨Ao, co, k, rfl, hk, rfl, ho, hb⟩ := hrel
    have HO := Lib.hid ho
    have HB := Lib.hid hb
    have hCr : Cells8 wr (some ⟨b, off + 8 * k, none⟩) (l.drop (8 * k)) := Cells8.drop (fun i hi => by obtain ⟨b2, o2, e, h⟩ := HC.out i hi; exact ⟨b2, o2, e, keep_below hb _ _ h⟩) _
    have hTr : Tab wr := HT.out.keep (keep_below hb)
    have HTr := Lib.hid hTr
    have HCr := Lib.hid hCr
    clear ho hb hCr hTr
    by_cases hlt : k < 8
    · obtain ⟨n, hn⟩ : ∃ n, n = 8 * k := ⟨_, rfl⟩
      have HN := Lib.hid hn
      have hn1 : n ≤ 56 := by omega
      have HG := Lib.hid (get_any b (off + 8 * k) (c - 8 * k) (64 - 8 * k) (l.drop (8 * k)) (by rw [List.length_drop, HL.out]) (by omega) (by omega) (mem_drop H256.out) wr HCr.out)
      rw [← hn] at HG ⊢
      clear hn
      have hw8 : IntKind.i64.wrap ((n : Int) + 8) = (n : Int) + 8 := by rw [IntKind.wrap_i64]; omega
      have HS : Hid (chks l (k + 1) = chks l k ++ [chk (gw (l.drop n) 8)]) := by unfold Hid; rw [chks_step, ← HN.out]
      have HCk := Lib.hid (Check_any (gw (l.drop n) 8) (gw_64 _ (mem_drop H256.out)) wr HTr.out)
      have hcl := chk_lt (gw (l.drop n) 8)
      generalize gw (l.drop n) 8 = x at *
      generalize chk x = y at *
      go_wp2_with fail
      refine HG.out.mono ?_
      rintro e w1 ⟨rfl, rfl⟩
      clear HG
      go_wp2_with fail
      refine HCk.out.mono ?_
      rintro e w1 ⟨rfl, rfl⟩
      clear HCk
      have HOa := Lib.hid (own_below HO.out ((Below.refl wr.heap.size wr).alloc (Nat.le_refl _) (.cells #[.int .u8 (y : Nat)] 5)))
      have HSa : Hid (Src (wr.alloc (.cells #[.int .u8 (y : Nat)] 5)) 1 (some ⟨wr.heap.size, 0, none⟩) 1 [.int .u8 (y : Nat)]) := src_one
      have HBa : Hid (Below w.heap.size w (wr.alloc (.cells #[.int .u8 (y : Nat)] 5))) := HB.out.alloc HB.out.size _
      have g1 : Hid (k + 1 ≤ maxLen) := by unfold Hid maxLen; omega
      have g2 : Hid ((k + 1) * 1 ≤ 140737488355328) := by unfold Hid; omega
      have H1 : Hid (∀ u ∈ [Value.int .u8 (y : Nat)], u.oneCell' = true) := by unfold Hid; simp [Value.oneCell']
      go_wp2_with (at_builtin; go_must (refine wpList_append_src _ rfl _ _ 46 rfl w.heap.size 5 i1 _ 1 1 Tryd.underlying46 ji jz0 jz1 jz2 rfl (by decide) _ k (intsV .u8 (chks l k)) rfl HOa.out (some ⟨wr.heap.size, 0, none⟩) 1 1 _ rfl HSa.out H1.out g1.out g2.out HBa.out.size ?_))
      intro v9 w9 hown9 hgrow9 hat9
      obtain ⟨A9, c9, rfl, _, _⟩ := own_shape hown9
      have HB9 := Lib.hid (below_append HBa.out HOa.out hgrow9 HBa.out.size)
      rw [show intsV .u8 (chks l k) ++ [Value.int .u8 (y : Nat)] = intsV .u8 (chks l (k + 1)) by rw [HS.out, intsV_append]; rfl] at hown9
      have HO9 := Lib.hid hown9
      clear hown9 hgrow9 hat9 HOa HSa HBa g1 g2 H1 HTr HCr
      go_wp2
      go_roundw
      case rel => exact ⟨A9, c9, k + 1, rfl, by omega, by rw [show 8 * (k + 1) = n + 8 by have := HN.out; omega]; go_num, HO9.out, HB9.out⟩
      case measure => simp [intOf]; omega
    · obtain rfl : k = 8 := by omega
      go_wp2
      go_ret
      exact ⟨_, _, rfl, HO.out, HB.out⟩
end Go.Proofs.YtlidbkofjchnnaaDoor

namespace Go.Proofs.YtlidbkofjchnnaaDoor
open Go.RowKit
set_option linter.unusedVariables false
set_option linter.unusedSimpArgs false

/-- The i-th word put right. -/
def mw (l cs : List Nat) (i : Nat) : Nat × Nat × Nat := mend (gw (l.drop (8 * i)) 8) (cs.getD i 0)
def mBytes (l cs : List Nat) : Nat → List Nat
  | 0 => []
  | k + 1 => mBytes l cs k ++ pb (mw l cs k).1 8
def mCnt (l cs : List Nat) : Nat → Nat
  | 0 => 0
  | k + 1 => mCnt l cs k + (if (mw l cs k).2.2 = 1 then 1 else 0)
def mBad (l cs : List Nat) : Bool := (List.range 8).any fun i => (mw l cs i).2.2 == 2
theorem mBytes_length (l cs : List Nat) (k : Nat) : (mBytes l cs k).length = 8 * k := by
  induction k with
  | zero => rfl
  | succ k ih => unfold mBytes; rw [List.length_append, ih, pb_length]; omega
theorem mBytes_lt (l cs : List Nat) (k : Nat) : ∀ u ∈ mBytes l cs k, u < 256 := by
  induction k with
  | zero => simp [mBytes]
  | succ k ih =>
    intro u hu
    unfold mBytes at hu
    rw [List.mem_append] at hu
    rcases hu with h | h
    · exact ih u h
    · exact pb_lt _ _ u h
theorem mCnt_le (l cs : List Nat) (k : Nat) : mCnt l cs k ≤ k := by
  induction k with
  | zero => simp [mCnt]
  | succ k ih => unfold mCnt; split <;> omega
theorem mend_lt (x c : Nat) (hx : x < 18446744073709551616) : (mend x c).1 < 18446744073709551616 := by
  unfold mend
  split
  · exact hx
  · split
    · rename_i b hb
      have := (colOf_some hb).1
      exact Nat.xor_lt_two_pow (n := 64) hx (Nat.pow_lt_pow_right (by omega) this)
    · split <;> exact hx
theorem mend_how (x c : Nat) : (mend x c).2.2 = 0 ∨ (mend x c).2.2 = 1 ∨ (mend x c).2.2 = 2 := by
  unfold mend
  split
  · simp
  · split
    · simp
    · split <;> simp
theorem mBad_at (l cs : List Nat) (k : Nat) (hk : k < 8) (h : (mw l cs k).2.2 = 2) : mBad l cs = true := by
  unfold mBad
  rw [List.any_eq_true]
  exact ⟨k, List.mem_range.2 hk, by simp [h]⟩
theorem mBad_none (l cs : List Nat) (h : ∀ i, i < 8 → (mw l cs i).2.2 ≠ 2) : mBad l cs = false := by
  unfold mBad
  rw [List.any_eq_false]
  intro i hi
  simp [h i (List.mem_range.1 hi)]
/-- What MendAll leaves. -/
def MendAllPost (l cs : List Nat) (w : World) (e : Ending) (w' : World) : Prop :=
  Below w.heap.size w w' ∧ (mBad l cs = true → e = .returned (.tuple #[.slice none 0 0, .int .i64 0, .bool false])) ∧
    (mBad l cs = false → ∃ A c, e = .returned (.tuple #[.slice A 64 c, .int .i64 (mCnt l cs 8 : Nat), .bool true]) ∧ w'.ownsRow w.heap.size 5 1 (.slice A 64 c) 64 (intsV .u8 (mBytes l cs 8)))
set_option maxRecDepth 100000 in
set_option maxHeartbeats 4000000 in
theorem MendAll_any (b off c b2 off2 c2 : Nat) (l cs : List Nat) (hl : l.length = 64) (hcl : cs.length = 8) (hc64 : 64 ≤ c) (h256 : ∀ u ∈ l, u < 256) (hcs : ∀ u ∈ cs, u < 256) (w : World) (hc : Cells8 w (some ⟨b, off, none⟩) l) (hc2 : Cells8 w (some ⟨b2, off2, none⟩) cs) (hT : Tab w) :
    Calls Tryd.prog 56 #[.slice (some ⟨b, off, none⟩) 64 c, .slice (some ⟨b2, off2, none⟩) 8 c2] w (MendAllPost l cs w) := by
  obtain ⟨i1, ji, jz0, jz1, jz2⟩ := info_parts u8_info
  have HC := Lib.hid hc
  have HC2 := Lib.hid hc2
  have HT := Lib.hid hT
  have HL := Lib.hid hl
  have HCL := Lib.hid hcl
  have H256 := Lib.hid h256
  have Hcs := Lib.hid hcs
  clear hc hc2 hT hl hcl h256 hcs
  have hmk : i1.bytes * 64 ≤ 281474976710656 := by rw [jz2]; omega
  have hml : 64 ≤ maxLen := by unfold maxLen; omega
  have HMk := Lib.hid (And.intro hmk hml)
  clear hmk hml
  go_enter Tryd.func56, Tryd.ntmps56
  go_wp2_with ((with_reducible refine wpList_make_own (o := ⟨some 26, .makeSlice 46 (.const (.int .i64 0)) (.tmp 25), _, _, _, _⟩) _ rfl (.const (.int .i64 0)) (.tmp 25) 46 rfl w.heap.size 5 i1 _ 1 Tryd.underlying46 ji jz0 jz1 .i64 .i64 64 64 rfl rfl rfl HMk.out.1 HMk.out.2 (Nat.le_refl _) ?_); intro w1 ho1 hg1)
  have HO1 := Lib.hid ho1
  have HB1 : Hid (Below w.heap.size w w1) := (Below.refl _ _).grown hg1 (Nat.le_refl _) (by intro k hk; cases hk)
  clear ho1 hg1
  go_wp2
  go_loopw [7, 8, 29] (fun ov nv i wr => ∃ (Ao : Option Addr) (co k : Nat), ov = .slice Ao (8 * k) co ∧ k ≤ 8 ∧ i = .int .i64 k ∧ nv = .int .i64 (mCnt l cs k : Nat) ∧ (∀ j, j < k → (mw l cs j).2.2 ≠ 2) ∧ wr.ownsRow w.heap.size 5 1 (.slice Ao (8 * k) co) (8 * k) (intsV .u8 (mBytes l cs k)) ∧ Below w.heap.size w wr) (fun _ _ i _ => 8 - (intOf i).toNat)
  case atStart => exact ⟨_, 64, 0, rfl, by omega, rfl, rfl, fun j hj => by omega, HO1.out, HB1.out⟩
  case round =>
    obtain ⟨Ao, co, k, rfl, hk, rfl, rfl, hok, ho, hb⟩ := hrel
    have HO := Lib.hid ho
    have HB := Lib.hid hb
    have HOk := Lib.hid hok
    have HTr := Lib.hid (HT.out.keep (keep_below hb))
    have HCr : Hid (Cells8 wr (some ⟨b, off + 8 * k, none⟩) (l.drop (8 * k))) := Cells8.drop (fun i hi => by obtain ⟨b2, o2, e, h⟩ := HC.out i hi; exact ⟨b2, o2, e, keep_below hb _ _ h⟩) _
    clear HO1 HB1 ho hok
    by_cases hlt : k < 8
    · have hcell := keep_below hb _ _ (HC2.out.at0 k (by rw [HCL.out]; exact hlt))
      have hcx : cs.getD k 0 < 256 := getD_lt Hcs.out k
      obtain ⟨n, hn⟩ : ∃ n, n = 8 * k := ⟨_, rfl⟩
      have HN := Lib.hid hn
      have hn1 : n ≤ 56 := by omega
      have HG := Lib.hid (get_any b (off + 8 * k) (c - 8 * k) (64 - 8 * k) (l.drop (8 * k)) (by rw [List.length_drop, HL.out]) (by omega) (by omega) (mem_drop H256.out) wr HCr.out)
      have HMw : Hid (mw l cs k = mend (gw (l.drop (8 * k)) 8) (cs.getD k 0)) := rfl
      have hx64 := gw_64 (l.drop (8 * k)) (mem_drop H256.out)
      have hw8 : IntKind.i64.wrap ((k : Int) * 8) = (n : Int) := by rw [IntKind.wrap_i64, hn]; omega
      have hw64 : IntKind.i64.wrap (64 - (n : Int)) = ((64 - n : Nat) : Int) := by rw [IntKind.wrap_i64]; omega
      have hmin : ¬ ((64 - n : Nat) : Int) < 8 := by omega
      have hmc := mCnt_le l cs k
      have HMc : Hid (mCnt l cs (k + 1) = mCnt l cs k + (if (mw l cs k).2.2 = 1 then 1 else 0)) := rfl
      have HMb : Hid (mBytes l cs (k + 1) = mBytes l cs k ++ pb (mw l cs k).1 8) := rfl
      have hhow := mend_how (gw (l.drop (8 * k)) 8) (cs.getD k 0)
      have hm64 := mend_lt (gw (l.drop (8 * k)) 8) (cs.getD k 0) hx64
      rw [← HMw.out] at hhow hm64
      have HMd := Lib.hid (Mend_any (gw (l.drop (8 * k)) 8) (cs.getD k 0) hx64 hcx wr HTr.out)
      unfold MendPost at HMd
      rw [← HMw.out] at HMd
      rw [← hn] at HG HMd HMw hx64 ⊢
      generalize gw (l.drop n) 8 = x at *
      generalize cs.getD k 0 = y at *
      have HHow := Lib.hid hhow
      clear hn hb hhow
      go_wp2_with fail
      refine HG.out.mono ?_
      rintro e w2 ⟨rfl, rfl⟩
      clear HG
      go_wp2_with fail
      refine HMd.out.mono ?_
      rintro e w2 ⟨rfl, rfl⟩
      have HPut := Lib.hid (put_any (mw l cs k).1 hm64 wr)
      clear HMd HMw
      obtain ⟨b0, b1, b2', b3, b4, b5, b6, b7, hpb⟩ : ∃ b0 b1 b2' b3 b4 b5 b6 b7, pb (mw l cs k).1 8 = [b0, b1, b2', b3, b4, b5, b6, b7] := by
        have := pb_length (mw l cs k).1 8
        match pb (mw l cs k).1 8, this with | [a0, a1, a2, a3, a4, a5, a6, a7], _ => exact ⟨a0, a1, a2, a3, a4, a5, a6, a7, rfl⟩
      have HPb := Lib.hid hpb
      rw [hpb] at HPut HMb
      obtain ⟨arr, harr⟩ : ∃ arr, arr = (#[.int .u8 (b0 : Nat), .int .u8 (b1 : Nat), .int .u8 (b2' : Nat), .int .u8 (b3 : Nat), .int .u8 (b4 : Nat), .int .u8 (b5 : Nat), .int .u8 (b6 : Nat), .int .u8 (b7 : Nat)] : Array Value) := ⟨_, rfl⟩
      have HArr := Lib.hid harr
      rw [show row8 [b0, b1, b2', b3, b4, b5, b6, b7] = #[.int .u8 (b0 : Nat), .int .u8 (b1 : Nat), .int .u8 (b2' : Nat), .int .u8 (b3 : Nat), .int .u8 (b4 : Nat), .int .u8 (b5 : Nat), .int .u8 (b6 : Nat), .int .u8 (b7 : Nat)] from rfl] at HPut
      clear hpb harr
      go_wp2_with fail
      refine HPut.out.mono ?_
      rintro e w3 ⟨rfl, hb3⟩
      have HB3 := Lib.hid hb3
      clear HPut hb3
      obtain ⟨w4, hw4⟩ : ∃ w4, w4 = w3.alloc (.cells #[.int .u8 (b0 : Nat), .int .u8 (b1 : Nat), .int .u8 (b2' : Nat), .int .u8 (b3 : Nat), .int .u8 (b4 : Nat), .int .u8 (b5 : Nat), .int .u8 (b6 : Nat), .int .u8 (b7 : Nat)] 129) := ⟨_, rfl⟩
      have HB4 : Hid (Below wr.heap.size wr w4) := by unfold Hid; rw [hw4]; exact HB3.out.alloc HB3.out.size _
      have HR4 : Hid (Row w4 w3.heap.size 129 #[.int .u8 (b0 : Nat), .int .u8 (b1 : Nat), .int .u8 (b2' : Nat), .int .u8 (b3 : Nat), .int .u8 (b4 : Nat), .int .u8 (b5 : Nat), .int .u8 (b6 : Nat), .int .u8 (b7 : Nat)]) := by unfold Hid; rw [hw4]; exact Row.fresh _ _ _
      have HBw4 : Hid (Below w.heap.size w w4) := HB.out.trans (HB4.out.mono HB.out.size)
      have HO4 := Lib.hid (own_below HO.out HB4.out)
      have HN4 := Lib.hid (nought_any [b0, b1, b2', b3, b4, b5, b6, b7] rfl w4)
      rw [show row8 [b0, b1, b2', b3, b4, b5, b6, b7] = #[.int .u8 (b0 : Nat), .int .u8 (b1 : Nat), .int .u8 (b2' : Nat), .int .u8 (b3 : Nat), .int .u8 (b4 : Nat), .int .u8 (b5 : Nat), .int .u8 (b6 : Nat), .int .u8 (b7 : Nat)] from rfl] at HN4
      obtain ⟨how, hhow⟩ : ∃ how, how = (mw l cs k).2.2 := ⟨_, rfl⟩
      have HHw := Lib.hid hhow
      rw [← hhow] at HHow HMc ⊢
      obtain ⟨m0, hm0⟩ : ∃ m0, m0 = (mw l cs k).1 := ⟨_, rfl⟩
      rw [← hm0] at hm64 ⊢
      obtain ⟨m1, hm1⟩ : ∃ m1, m1 = (mw l cs k).2.1 := ⟨_, rfl⟩
      rw [← hm1]
      obtain ⟨cn, hcn⟩ : ∃ cn, cn = mCnt l cs k := ⟨_, rfl⟩
      rw [← hcn] at HMc hmc ⊢
      have hwc : IntKind.i64.wrap ((cn : Int) + 1) = (cn : Int) + 1 := by rw [IntKind.wrap_i64]; omega
      clear hhow hm0 hm1 hcn hcell HTr HCr hx64 hcx HPb HArr
      have HOk2 : Hid (how ≠ 2 → ∀ j, j < k + 1 → (mw l cs j).2.2 ≠ 2) := fun h j hj => by
        rcases Nat.lt_or_ge j k with h1 | h1
        · exact HOk.out j h1
        · have : j = k := by omega
          rw [this, ← HHw.out]; exact h
      rcases HHow.out with h | h | h
      · subst h
        rw [if_neg (by omega), Nat.add_zero] at HMc
        have HOk3 := Lib.hid (HOk2.out (by omega))
        clear HOk2
        go_wp2_with fail
        rw [← hw4]
        refine HN4.out.mono ?_
        rintro e w5 ⟨rfl, hb5⟩
        have HBw5 : Hid (Below w.heap.size w w5) := HBw4.out.trans (hb5.mono HBw4.out.size)
        have HR5 := Lib.hid (HR4.out.below hb5 HR4.out.lt)
        have HO5 : Hid (w5.ownsRow w.heap.size 5 1 (.slice Ao n co) n (intsV .u8 (mBytes l cs k))) := by unfold Hid; rw [HN.out]; exact own_below HO4.out hb5
        have HS5 : Hid (Src w5 1 (some ⟨w3.heap.size, 0, none⟩) 8 (intsV .u8 [b0, b1, b2', b3, b4, b5, b6, b7])) := ⟨rfl, fun _ => ⟨_, rfl, fun j u hu => by
          rw [addr_add, Nat.zero_add, HR5.out.cell j, List.getElem?_toArray]; exact hu⟩⟩
        have g1 : Hid (n + 8 ≤ maxLen) := by unfold Hid maxLen; omega
        have g2 : Hid ((n + 8) * 1 ≤ 140737488355328) := by unfold Hid; omega
        clear HN4 hb5 HR4 HB4 HO4
        go_wp2_with (at_builtin; go_must (refine wpList_append_src _ rfl _ _ 46 rfl w.heap.size 5 i1 _ 1 1 Tryd.underlying46 ji jz0 jz1 jz2 rfl (by decide) _ n (intsV .u8 (mBytes l cs k)) rfl HO5.out (some ⟨w3.heap.size, 0, none⟩) 8 8 _ rfl HS5.out (intsV_one .u8 _) g1.out g2.out HBw5.out.size ?_))
        intro v9 w9 hown9 hgrow9 hat9
        obtain ⟨A9, c9, rfl, _, _⟩ := own_shape hown9
        have HB9 := Lib.hid (below_append HBw5.out HO5.out hgrow9 HBw5.out.size)
        rw [show intsV .u8 (mBytes l cs k) ++ intsV .u8 [b0, b1, b2', b3, b4, b5, b6, b7] = intsV .u8 (mBytes l cs (k + 1)) by rw [HMb.out, intsV_append], show n + 8 = 8 * (k + 1) by have := HN.out; omega] at hown9
        have HO9 := Lib.hid hown9
        rw [show n + 8 = 8 * (k + 1) by have := HN.out; omega]
        clear hown9 hgrow9 hat9 HO5 HS5 HR5 HBw4 HBw5 g1 g2 HO HB hw4
        go_wp2
        go_roundw
        case rel => exact ⟨A9, c9, k + 1, rfl, by omega, by go_num, by rw [HMc.out]; go_num, HOk3.out, HO9.out, HB9.out⟩
        case measure => simp [intOf]; omega
      · subst h
        rw [if_pos rfl] at HMc
        have HOk3 := Lib.hid (HOk2.out (by omega))
        clear HOk2
        go_wp2_with fail
        rw [← hw4]
        refine HN4.out.mono ?_
        rintro e w5 ⟨rfl, hb5⟩
        have HBw5 : Hid (Below w.heap.size w w5) := HBw4.out.trans (hb5.mono HBw4.out.size)
        have HR5 := Lib.hid (HR4.out.below hb5 HR4.out.lt)
        have HO5 : Hid (w5.ownsRow w.heap.size 5 1 (.slice Ao n co) n (intsV .u8 (mBytes l cs k))) := by unfold Hid; rw [HN.out]; exact own_below HO4.out hb5
        have HS5 : Hid (Src w5 1 (some ⟨w3.heap.size, 0, none⟩) 8 (intsV .u8 [b0, b1, b2', b3, b4, b5, b6, b7])) := ⟨rfl, fun _ => ⟨_, rfl, fun j u hu => by
          rw [addr_add, Nat.zero_add, HR5.out.cell j, List.getElem?_toArray]; exact hu⟩⟩
        have g1 : Hid (n + 8 ≤ maxLen) := by unfold Hid maxLen; omega
        have g2 : Hid ((n + 8) * 1 ≤ 140737488355328) := by unfold Hid; omega
        clear HN4 hb5 HR4 HB4 HO4
        go_wp2_with (at_builtin; go_must (refine wpList_append_src _ rfl _ _ 46 rfl w.heap.size 5 i1 _ 1 1 Tryd.underlying46 ji jz0 jz1 jz2 rfl (by decide) _ n (intsV .u8 (mBytes l cs k)) rfl HO5.out (some ⟨w3.heap.size, 0, none⟩) 8 8 _ rfl HS5.out (intsV_one .u8 _) g1.out g2.out HBw5.out.size ?_))
        intro v9 w9 hown9 hgrow9 hat9
        obtain ⟨A9, c9, rfl, _, _⟩ := own_shape hown9
        have HB9 := Lib.hid (below_append HBw5.out HO5.out hgrow9 HBw5.out.size)
        rw [show intsV .u8 (mBytes l cs k) ++ intsV .u8 [b0, b1, b2', b3, b4, b5, b6, b7] = intsV .u8 (mBytes l cs (k + 1)) by rw [HMb.out, intsV_append], show n + 8 = 8 * (k + 1) by have := HN.out; omega] at hown9
        have HO9 := Lib.hid hown9
        rw [show n + 8 = 8 * (k + 1) by have := HN.out; omega]
        clear hown9 hgrow9 hat9 HO5 HS5 HR5 HBw4 HBw5 g1 g2 HO HB hw4
        go_wp2
        go_roundw
        case rel => exact ⟨A9, c9, k + 1, rfl, by omega, by go_num, by rw [HMc.out]; go_num, HOk3.out, HO9.out, HB9.out⟩
        case measure => simp [intOf]; omega
      · subst h
        have hbad := mBad_at l cs k hlt HHw.out.symm
        have HBad := Lib.hid hbad
        clear hbad HOk2
        go_wp2
        rw [← hw4]
        refine bodyPost_ret (v := .tuple #[.slice none 0 0, .int .i64 0, .bool false]) (by simp [results, Tryd.results56, go_sem]) rfl ⟨HBw4.out, fun _ => rfl, fun h => ?_⟩
        rw [HBad.out] at h; cases h
    · obtain rfl : k = 8 := by omega
      have hnb := mBad_none l cs HOk.out
      have HNb := Lib.hid hnb
      obtain ⟨cn, hcn⟩ : ∃ cn, cn = mCnt l cs 8 := ⟨_, rfl⟩
      have HCn := Lib.hid hcn
      rw [← hcn]
      clear hnb hcn
      go_wp2
      refine bodyPost_ret (v := .tuple #[.slice Ao 64 co, .int .i64 cn, .bool true]) (by simp [results, Tryd.results56, go_sem]) rfl ⟨HB.out, fun h => ?_, fun _ => ⟨Ao, co, by rw [HCn.out], HO.out⟩⟩
      rw [HNb.out] at h; cases h
end Go.Proofs.YtlidbkofjchnnaaDoor

namespace Go.Proofs.YtlidbkofjchnnaaDoor
open Go.RowKit
set_option linter.unusedVariables false
set_option linter.unusedSimpArgs false

theorem Mark_any (x : Nat) (hx : x < 256) (w : World) : Calls Tryd.prog 51 #[.int .u8 x] w fun e w' => e = .returned (.bool (decide (pop8 x ≤ 4))) ∧ w = w' := by
  have HP := Lib.hid (pop_any x hx w)
  have hb : decide ((pop8 x : Int) ≤ 4) = decide (pop8 x ≤ 4) := decide_eq_decide.2 (by omega)
  generalize pop8 x = p at *
  go_enter Tryd.func51, Tryd.ntmps51
  go_wp2_with fail
  refine HP.out.mono ?_
  rintro e w' ⟨rfl, rfl⟩
  clear HP
  go_wp2
  go_ret
  exact ⟨by rw [← hb]; rfl, rfl⟩
theorem right_any (A : Option Addr) (cp n : Nat) (hn : n = 73 ∨ n = 146 ∨ n = 219 ∨ n = 292 ∨ n = 365 ∨ n = 438 ∨ n = 511 ∨ n = 584) (w : World) : Calls Tryd.prog 50 #[.slice A n cp] w fun e w' => e = .returned (.bool true) ∧ w = w' := by
  rcases hn with rfl | rfl | rfl | rfl | rfl | rfl | rfl | rfl
  all_goals
    go_enter Tryd.func50, Tryd.ntmps50
    go_wp2
    go_ret
    exact ⟨rfl, rfl⟩
/-- How many marks say written, of the first k chunks. -/
def marks (l : List Nat) : Nat → Nat
  | 0 => 0
  | k + 1 => marks l k + (if pop8 (l.getD (72 + 73 * k) 0) ≤ 4 then 1 else 0)
theorem marks_le (l : List Nat) (k : Nat) : marks l k ≤ k := by
  induction k with
  | zero => simp [marks]
  | succ k ih => unfold marks; split <;> omega
/-- A page's state, of c chunks. -/
def stateOf (l : List Nat) (c : Nat) : Nat := if marks l c = 0 then 0 else if marks l c = c then 2 else 1
set_option maxHeartbeats 2000000 in
theorem State_any (b off cp c : Nat) (l : List Nat) (hl : l.length = 73 * c) (h1 : 1 ≤ c) (h8 : c ≤ 8) (h256 : ∀ u ∈ l, u < 256) (w : World) (hc : Cells8 w (some ⟨b, off, none⟩) l) :
    Calls Tryd.prog 32 #[.slice (some ⟨b, off, none⟩) (73 * c) cp] w fun e w' => e = .returned (.int .i64 (stateOf l c : Nat)) ∧ w = w' := by
  have HR := Lib.hid (right_any (some ⟨b, off, none⟩) cp (73 * c) (by omega) w)
  have HC := Lib.hid hc
  have HL := Lib.hid hl
  have H256 := Lib.hid h256
  obtain ⟨n, hn⟩ : ∃ n, n = 73 * c := ⟨_, rfl⟩
  have HN := Lib.hid hn
  rw [← hn] at HR ⊢
  have hq : IntKind.i64.wrap (Int.tdiv (n : Int) 73) = (c : Int) := by
    rw [hn, IntKind.wrap_i64]; rcases (show c = 1 ∨ c = 2 ∨ c = 3 ∨ c = 4 ∨ c = 5 ∨ c = 6 ∨ c = 7 ∨ c = 8 by omega) with rfl | rfl | rfl | rfl | rfl | rfl | rfl | rfl <;> decide
  clear hc hl h256
  have hnb : 73 ≤ n ∧ n ≤ 584 := by omega
  clear hn
  go_enter Tryd.func32, Tryd.ntmps32
  go_wp2_with fail
  refine HR.out.mono ?_
  rintro e w' ⟨rfl, rfl⟩
  clear HR
  go_wp2
  go_loop [3, 4] (fun m i => ∃ k : Nat, k ≤ c ∧ m = .int .i64 (marks l k : Nat) ∧ i = .int .i64 (72 + 73 * k : Nat)) (fun _ i => 700 - (intOf i).toNat)
  case atStart => exact ⟨0, by omega, rfl, rfl⟩
  case round =>
    obtain ⟨k, hk, rfl, rfl⟩ := hrel
    obtain ⟨p, hp⟩ : ∃ p, p = 72 + 73 * k := ⟨_, rfl⟩
    have HP := Lib.hid hp
    have hm := marks_le l k
    by_cases hlt : k < c
    · have hpn : p < n := by have := HN.out; omega
      have hpi : (p : Int) < n := by omega
      have hcell := HC.out.at0 p (by rw [HL.out, ← HN.out]; exact hpn)
      have hx : l.getD p 0 < 256 := getD_lt H256.out p
      have HS : Hid (marks l (k + 1) = marks l k + (if pop8 (l.getD p 0) ≤ 4 then 1 else 0)) := by unfold Hid; rw [hp]; rfl
      have hw : IntKind.i64.wrap ((p : Int) + 73) = ((p + 73 : Nat) : Int) := by rw [IntKind.wrap_i64]; omega
      rw [← hp]
      have HMk := Lib.hid (Mark_any (l.getD p 0) hx w)
      generalize l.getD p 0 = x at *
      generalize marks l k = m at *
      have hwm : IntKind.i64.wrap ((m : Int) + 1) = ((m + 1 : Nat) : Int) := by rw [IntKind.wrap_i64]; omega
      clear hp
      go_wp2_with fail
      refine HMk.out.mono ?_
      rintro e w' ⟨rfl, rfl⟩
      clear HMk
      by_cases h4 : pop8 x ≤ 4
      · rw [if_pos h4] at HS
        rw [decide_eq_true h4]
        go_wp2
        go_round
        case rel => exact ⟨k + 1, by omega, by rw [HS.out]; go_num, by rw [show 72 + 73 * (k + 1) = p + 73 by have := HP.out; omega]; go_num⟩
        case measure => simp [intOf]; omega
      · rw [if_neg h4] at HS
        rw [decide_eq_false h4]
        go_wp2
        go_round
        case rel => exact ⟨k + 1, by omega, by rw [HS.out]; rfl, by rw [show 72 + 73 * (k + 1) = p + 73 by have := HP.out; omega]; go_num⟩
        case measure => simp [intOf]; omega
    · obtain rfl : k = c := by omega
      have hpn : ¬ (p : Int) < n := by have := HN.out; omega
      rw [← hp]
      have HS : Hid (stateOf l k = if marks l k = 0 then 0 else if marks l k = k then 2 else 1) := rfl
      obtain ⟨m, hmm⟩ : ∃ m, m = marks l k := ⟨_, rfl⟩
      rw [← hmm] at HS ⊢
      clear hm
      have HMm := Lib.hid hmm
      clear hmm
      clear hp
      by_cases h0 : m = 0
      · subst h0
        have HS' := HS.out
        rw [if_pos rfl] at HS'
        clear HS
        go_wp2
        go_ret
        exact ⟨rfl, rfl⟩
      · have h0i : ¬ (m : Int) = 0 := by omega
        have HS' := HS.out
        rw [if_neg h0] at HS'
        by_cases hk2 : m = k
        · subst hk2
          rw [if_pos rfl] at HS'
          have hqm : (m : Int) = (n : Int) / 73 := by have := HN.out; omega
          clear HS
          go_wp2
          go_ret
          exact ⟨rfl, rfl⟩
        · have hki : ¬ (m : Int) = k := by omega
          rw [if_neg hk2] at HS'
          have hqm : ¬ (m : Int) = (n : Int) / 73 := by have := HN.out; omega
          clear HS
          go_wp2
          go_ret
          exact ⟨rfl, rfl⟩
end Go.Proofs.YtlidbkofjchnnaaDoor
namespace Go.Proofs.YtlidbkofjchnnaaDoor
open Go.RowKit
set_option linter.unusedVariables false
set_option linter.unusedSimpArgs false

theorem u8_size1 : (Tryd.prog.info? 5).map (·.size) = some 1 := by kernel_rfl
theorem Cells8.take {w : World} {A : Option Addr} {l : List Nat} (h : Cells8 w A l) (k : Nat) : Cells8 w A (l.take k) := fun i hi => by
  rw [List.length_take] at hi
  obtain ⟨b, o, e, h⟩ := h i (by omega)
  refine ⟨b, o, e, ?_⟩
  rw [h]
  congr 3
  rw [List.getD_eq_getElem?_getD, List.getD_eq_getElem?_getD, List.getElem?_take, if_pos (by omega)]
theorem Cells8.of_row {w : World} {b : Nat} {t : TypeId} {l : List Nat} (h : Row w b t (intsV .u8 l).toArray) : Cells8 w (some ⟨b, 0, none⟩) l := fun i hi => ⟨b, 0, rfl, by
  rw [Nat.zero_add, h.cell i, List.getElem?_toArray]
  simp [intsV, List.getD_eq_getElem?_getD, List.getElem?_eq_getElem hi]⟩
theorem mem_take {l : List Nat} {k : Nat} (h : ∀ u ∈ l, u < 256) : ∀ u ∈ l.take k, u < 256 := fun u hu => h u (List.mem_of_mem_take hu)
/-- The data of a page of c chunks, filled up with 0. -/
def pad (d : List Nat) (c : Nat) : List Nat := d ++ List.replicate (64 * c - d.length) 0
theorem pad_length (d : List Nat) (c : Nat) (h : d.length ≤ 64 * c) : (pad d c).length = 64 * c := by unfold pad; rw [List.length_append, List.length_replicate]; omega
theorem pad_lt {d : List Nat} (h : ∀ u ∈ d, u < 256) (c : Nat) : ∀ u ∈ pad d c, u < 256 := by
  intro u hu
  unfold pad at hu
  rw [List.mem_append] at hu
  rcases hu with h1 | h1
  · exact h u h1
  · rw [List.mem_replicate] at h1; omega
theorem made_zero (n : Nat) : madeCells #[Value.int .u8 0] n = (intsV .u8 (List.replicate n 0)).toArray := by
  apply Array.ext'
  simp only [madeCells, intsV, List.map_replicate]
  apply List.ext_getElem
  · simp
  · intro i h1 h2
    simp [Nat.mod_one]
theorem splice_pad (d : List Nat) (c : Nat) (h : d.length ≤ 64 * c) : splice (intsV .u8 (List.replicate (64 * c) 0)) 0 ((intsV .u8 d).take (64 * c)) = intsV .u8 (pad d c) := by
  have hl : (intsV .u8 d).length = d.length := by simp [intsV]
  rw [List.take_of_length_le (by omega)]
  unfold splice pad
  rw [List.take_zero, List.nil_append, Nat.zero_add, hl, intsV_append]
  congr 1
  simp [intsV]
/-- The k-th chunk's bytes. -/
def blk (l : List Nat) (k : Nat) : List Nat := (l.drop (64 * k)).take 64
theorem blk_length (l : List Nat) (k c : Nat) (h : l.length = 64 * c) (hk : k < c) : (blk l k).length = 64 := by unfold blk; rw [List.length_take, List.length_drop, h]; omega
/-- The first k chunks, laid. -/
def lay (l : List Nat) : Nat → List Nat
  | 0 => []
  | k + 1 => lay l k ++ blk l k ++ chks (blk l k) 8 ++ [0]
theorem lay_length (l : List Nat) (c : Nat) (h : l.length = 64 * c) : ∀ k, k ≤ c → (lay l k).length = 73 * k
  | 0, _ => rfl
  | k + 1, hk => by
    unfold lay
    simp only [List.length_append, lay_length l c h k (by omega), blk_length l k c h (by omega), chks_length]
    simp; omega
theorem lay_lt {l : List Nat} (h : ∀ u ∈ l, u < 256) : ∀ k, ∀ u ∈ lay l k, u < 256
  | 0 => by simp [lay]
  | k + 1 => by
    intro u hu
    unfold lay at hu
    simp only [List.mem_append] at hu
    rcases hu with ((h1 | h1) | h1) | h1
    · exact lay_lt h k u h1
    · exact mem_take (mem_drop h) u h1
    · exact chks_lt _ _ u h1
    · simp at h1; omega
/-- A page's bytes. -/
def laid (d : List Nat) (c : Nat) : List Nat := lay (pad d c) c
set_option maxRecDepth 100000 in
set_option maxHeartbeats 4000000 in
theorem Lay_any (A : Option Addr) (c cp : Nat) (d : List Nat) (h1 : 1 ≤ c) (h8 : c ≤ 8) (hd : d.length ≤ 64 * c) (h256 : ∀ u ∈ d, u < 256) (w : World) (hc : Cells8 w A d) (hT : Tab w) :
    Calls Tryd.prog 29 #[.slice A d.length cp, .int .i64 c] w fun e w' => ∃ Ao co, e = .returned (.tuple #[.slice Ao (73 * c) co, .int .i64 0]) ∧ w'.ownsRow w.heap.size 5 1 (.slice Ao (73 * c) co) (73 * c) (intsV .u8 (laid d c)) ∧ Below w.heap.size w w' := by
  obtain ⟨i1, ji, jz0, jz1, jz2⟩ := info_parts u8_info
  have hbk : i1.bytes * (64 * c) ≤ 281474976710656 := by rw [jz2]; omega
  have HBk := Lib.hid hbk
  clear hbk
  have HT := Lib.hid hT
  have HSd : Hid (Src (w.alloc (.cells (madeCells #[.int .u8 0] (64 * c)) 5)) 1 A d.length (intsV .u8 d)) := (Src.bytes hc).keep (fun a v h => (World.cell?_alloc_lt _ _ _ (World.block_lt_of_cell? w a h)).trans h)
  have HR : Hid (Row (w.alloc (.cells (madeCells #[.int .u8 0] (64 * c)) 5)) w.heap.size 5 (intsV .u8 (List.replicate (64 * c) 0)).toArray) := by unfold Hid; rw [← made_zero]; exact Row.fresh _ _ _
  have HB0 : Hid (Below w.heap.size w (w.alloc (.cells (madeCells #[.int .u8 0] (64 * c)) 5))) := (Below.refl _ _).alloc (Nat.le_refl _) _
  have H256 := Lib.hid (pad_lt h256 c)
  have HPl := Lib.hid (pad_length d c hd)
  have HSp := Lib.hid (splice_pad d c hd)
  have HD : Hid (laid d c = lay (pad d c) c) := rfl
  have HLl := Lib.hid (fun k hk => lay_length (pad d c) c (pad_length d c hd) k hk)
  obtain ⟨n, hn⟩ : ∃ n, n = 64 * c := ⟨_, rfl⟩
  obtain ⟨m, hm⟩ : ∃ m, m = d.length := ⟨_, rfl⟩
  have HN := Lib.hid hn
  have HM := Lib.hid hm
  rw [← hn] at HBk HSd HR HB0 HSp
  rw [← hm] at HSd ⊢
  have hg1 : ¬ (n : Int) < m := by omega
  have hw1 : IntKind.i64.wrap (64 * (c : Int)) = (n : Int) := by rw [IntKind.wrap_i64]; omega
  have hmn : m ≤ n := by omega
  have hn5 : 64 ≤ n ∧ n ≤ 512 := by omega
  generalize laid d c = ll at *
  clear hc hT hn hm h256 hd
  go_enter Tryd.func29, Tryd.ntmps29
  go_wp2_with (first | (with_reducible refine wpList_make_row _ (o := ⟨some 25, .makeSlice 46 (.tmp 24) (.tmp 24), _, _, _, _⟩) rfl (.tmp 24) (.tmp 24) 46 rfl 5 i1 _ Tryd.underlying46 ji jz0 jz1 rfl .i64 .i64 n rfl rfl HBk.out (by omega) ?_) | (with_reducible refine wpList_copy_grown (o := ⟨some 28, _, _, _, _, _⟩) rfl (.tmp 26) (.tmp 27) 46 46 rfl 5 Tryd.underlying46 u8_size1 _ n n m _ w.heap.size 0 rfl rfl _ 5 HR.out _ HSd.out (intsV_one .u8 d) ?c2 ?_))
  case c2 => simp [intsV]; omega
  intro w1 hr1 hg1
  have HR1 : Hid (Row w1 w.heap.size 5 (intsV .u8 (pad d c)).toArray) := by
    unfold Hid
    have := hr1.out
    rw [HSp.out] at this
    exact this
  have HB1 : Hid (Below w.heap.size w w1) := below_grown HB0.out hg1.out HB0.out.size (Nat.le_refl _)
  have HT1 := Lib.hid (HT.out.keep (keep_below HB1.out))
  have HC1 : Hid (Cells8 w1 (some ⟨w.heap.size, 0, none⟩) (pad d c)) := Cells8.of_row HR1.out
  generalize pad d c = lp at *
  clear hr1 hg1 HR HB0 HSd HBk HSp HT HR1 hw1
  have hwlt : w.heap.size ≤ w1.heap.size := HB1.out.size
  go_wp2
  go_loopw [7, 8] (fun ov i wr => ∃ (Ao : Option Addr) (co k : Nat), ov = .slice Ao (73 * k) co ∧ k ≤ c ∧ i = .int .i64 (64 * k : Nat) ∧ wr.ownsRow w1.heap.size 5 1 (.slice Ao (73 * k) co) (73 * k) (intsV .u8 (lay lp k)) ∧ Below w1.heap.size w1 wr) (fun _ i _ => 600 - (intOf i).toNat)
  case atStart => exact ⟨none, 0, 0, rfl, by omega, rfl, World.ownsRow_nil _ _ _ _, Below.refl _ _⟩
  case round =>
    obtain ⟨Ao, co, k, rfl, hk, rfl, ho, hb⟩ := hrel
    have HO := Lib.hid ho
    have HB := Lib.hid hb
    clear ho hb
    by_cases hlt : k < c
    · have HS : Hid (lay lp (k + 1) = lay lp k ++ blk lp k ++ chks (blk lp k) 8 ++ [0]) := rfl
      have HCf : Hid (∀ wx, Below w1.heap.size w1 wx → Cells8 wx (some ⟨w.heap.size, 64 * k, none⟩) (blk lp k)) := fun wx hx => by
        have := ((HC1.out.keep (keep_below hx)).drop (64 * k)).take 64
        rwa [Nat.zero_add] at this
      have HTf : Hid (∀ wx, Below w1.heap.size w1 wx → Tab wx) := fun wx hx => HT1.out.keep (keep_below hx)
      have HBl := Lib.hid (blk_length lp k c HPl.out hlt)
      have HBlt : Hid (∀ u ∈ blk lp k, u < 256) := mem_take (mem_drop H256.out)
      generalize blk lp k = bl at *
      obtain ⟨p, hp⟩ : ∃ p, p = 64 * k := ⟨_, rfl⟩
      obtain ⟨q, hq⟩ : ∃ q, q = 73 * k := ⟨_, rfl⟩
      have HP := Lib.hid hp
      have HQ := Lib.hid hq
      have hpn : p + 64 ≤ n := by have := HN.out; omega
      have hpi : (p : Int) < n := by omega
      rw [← hq] at HO
      rw [← hp] at HCf
      rw [← hq, ← hp]
      have hw64 : IntKind.i64.wrap ((p : Int) + 64) = (p : Int) + 64 := by rw [IntKind.wrap_i64]; omega
      have hqb : q ≤ 511 := by omega
      have HSr : Hid (Src wr 1 (some ⟨w.heap.size, p, none⟩) 64 (intsV .u8 bl)) := by
        have := Src.bytes (HCf.out wr HB.out)
        rw [HBl.out] at this
        exact this
      have g1 : Hid (q + 64 ≤ maxLen) := by unfold Hid maxLen; omega
      have g2 : Hid ((q + 64) * 1 ≤ 140737488355328) := by unfold Hid; omega
      clear hp hq
      go_wp2_with (at_builtin; rw [show p + 64 - p = 64 from Nat.add_sub_cancel_left p 64]; go_must (refine wpList_append_src _ rfl _ _ 46 rfl w1.heap.size 5 i1 _ 1 1 Tryd.underlying46 ji jz0 jz1 jz2 rfl (by decide) _ q (intsV .u8 (lay lp k)) rfl HO.out (some ⟨w.heap.size, p, none⟩) 64 64 _ rfl HSr.out (intsV_one .u8 _) g1.out g2.out HB.out.size ?_))
      intro v2 w2 hown2 hgrow2 hat2
      obtain ⟨A2, c2, rfl, _, _⟩ := own_shape hown2
      have HB2 := Lib.hid (below_append HB.out HO.out hgrow2 HB.out.size)
      rw [← intsV_append] at hown2
      have HO2 := Lib.hid hown2
      have HW := Lib.hid (Words_any w.heap.size p 64 bl HBl.out (by omega) HBlt.out w2 (HCf.out w2 HB2.out) (HTf.out w2 HB2.out))
      clear hown2 hgrow2 hat2 HSr HO HB g1 g2
      go_wp2_with fail
      refine HW.out.mono ?_
      rintro e w3 ⟨A3, c3, rfl, hown3, hb3⟩
      have HB3 : Hid (Below w1.heap.size w1 w3) := HB2.out.trans (hb3.mono HB2.out.size)
      have HO3 := Lib.hid (own_below HO2.out hb3)
      have HS3 := Lib.hid (Src.of_own hown3)
      have g1 : Hid (q + 64 + 8 ≤ maxLen) := by unfold Hid maxLen; omega
      have g2 : Hid ((q + 64 + 8) * 1 ≤ 140737488355328) := by unfold Hid; omega
      clear HW hown3 hb3 HB2 HO2
      go_wp2_with (at_builtin; go_must (refine wpList_append_src _ rfl _ _ 46 rfl w1.heap.size 5 i1 _ 1 1 Tryd.underlying46 ji jz0 jz1 jz2 rfl (by decide) _ (q + 64) (intsV .u8 (lay lp k ++ bl)) rfl HO3.out A3 8 c3 _ rfl HS3.out (intsV_one .u8 _) g1.out g2.out HB3.out.size ?_))
      intro v4 w4 hown4 hgrow4 hat4
      obtain ⟨A4, c4, rfl, _, _⟩ := own_shape hown4
      have HB4 := Lib.hid (below_append HB3.out HO3.out hgrow4 HB3.out.size)
      rw [← intsV_append] at hown4
      have HO5 := Lib.hid (own_below hown4 ((Below.refl w4.heap.size w4).alloc (Nat.le_refl _) (.cells #[.int .u8 0] 5)))
      have HS5 : Hid (Src (w4.alloc (.cells #[.int .u8 0] 5)) 1 (some ⟨w4.heap.size, 0, none⟩) 1 [.int .u8 0]) := src_one
      have HB5 : Hid (Below w1.heap.size w1 (w4.alloc (.cells #[.int .u8 0] 5))) := HB4.out.alloc HB4.out.size _
      have g1' : Hid (q + 64 + 8 + 1 ≤ maxLen) := by unfold Hid maxLen; omega
      have g2' : Hid ((q + 64 + 8 + 1) * 1 ≤ 140737488355328) := by unfold Hid; omega
      have H1 : Hid (∀ u ∈ [Value.int .u8 0], u.oneCell' = true) := by unfold Hid; simp [Value.oneCell']
      clear hown4 hgrow4 hat4 HO3 HS3 HB3 HB4 g1 g2
      go_wp2_with (at_builtin; go_must (refine wpList_append_src _ rfl _ _ 46 rfl w1.heap.size 5 i1 _ 1 1 Tryd.underlying46 ji jz0 jz1 jz2 rfl (by decide) _ (q + 64 + 8) (intsV .u8 (lay lp k ++ bl ++ chks bl 8)) rfl HO5.out (some ⟨w4.heap.size, 0, none⟩) 1 1 _ rfl HS5.out H1.out g1'.out g2'.out HB5.out.size ?_))
      intro v6 w6 hown6 hgrow6 hat6
      obtain ⟨A6, c6, rfl, _, _⟩ := own_shape hown6
      have HB6 := Lib.hid (below_append HB5.out HO5.out hgrow6 HB5.out.size)
      rw [show intsV .u8 (lay lp k ++ (bl ++ chks bl 8)) ++ [Value.int .u8 0] = intsV .u8 (lay lp (k + 1)) by rw [HS.out]; simp [intsV], show q + 64 + 8 + 1 = 73 * (k + 1) by have := HQ.out; omega] at hown6
      have HO6 := Lib.hid hown6
      rw [show q + 64 + 8 + 1 = 73 * (k + 1) by have := HQ.out; omega]
      clear hown6 hgrow6 hat6 HO5 HS5 HB5 g1' g2' H1
      go_wp2
      go_roundw
      case rel => exact ⟨A6, c6, k + 1, rfl, by omega, by rw [show 64 * (k + 1) = p + 64 by have := HP.out; omega]; go_num, HO6.out, HB6.out⟩
      case measure => simp [intOf]; omega
    · obtain rfl : k = c := by omega
      have hpn : ¬ ((64 * k : Nat) : Int) < n := by have := HN.out; omega
      have HOe : Hid (wr.ownsRow w.heap.size 5 1 (.slice Ao (73 * k) co) (73 * k) (intsV .u8 ll)) := by unfold Hid; rw [HD.out]; exact own_mono HO.out hwlt
      have HBe : Hid (Below w.heap.size w wr) := HB1.out.trans (HB.out.mono hwlt)
      go_wp2
      refine bodyPost_ret (v := .tuple #[.slice Ao (73 * k) co, .int .i64 0]) (by simp [results, Tryd.results29, go_sem]) rfl ⟨Ao, co, rfl, HOe.out, HBe.out⟩
end Go.Proofs.YtlidbkofjchnnaaDoor
