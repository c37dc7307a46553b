/- ecc: MendAll, of a chunk's 64 bytes. -/
import Derived.Test.YtlidbkofjchnnaaDoorEccF
namespace Go.Proofs.YtlidbkofjchnnaaDoor
open Go.RowKit
set_option linter.unusedVariables false
set_option linter.unusedSimpArgs false

/-- The i-th word put right. -/
def mw (l cs : List Nat) (i : Nat) : Nat × Nat × Nat := mend (gw (l.drop (8 * i)) 8) (cs.getD i 0)
def mBytes (l cs : List Nat) : Nat → List Nat
  | 0 => []
  | k + 1 => mBytes l cs k ++ pb (mw l cs k).1 8
def mCnt (l cs : List Nat) : Nat → Nat
  | 0 => 0
  | k + 1 => mCnt l cs k + (if (mw l cs k).2.2 = 1 then 1 else 0)
def mBad (l cs : List Nat) : Bool := (List.range 8).any fun i => (mw l cs i).2.2 == 2
theorem mBytes_length (l cs : List Nat) (k : Nat) : (mBytes l cs k).length = 8 * k := by
  induction k with
  | zero => rfl
  | succ k ih => unfold mBytes; rw [List.length_append, ih, pb_length]; omega
theorem mBytes_lt (l cs : List Nat) (k : Nat) : ∀ u ∈ mBytes l cs k, u < 256 := by
  induction k with
  | zero => simp [mBytes]
  | succ k ih =>
    intro u hu
    unfold mBytes at hu
    rw [List.mem_append] at hu
    rcases hu with h | h
    · exact ih u h
    · exact pb_lt _ _ u h
theorem mCnt_le (l cs : List Nat) (k : Nat) : mCnt l cs k ≤ k := by
  induction k with
  | zero => simp [mCnt]
  | succ k ih => unfold mCnt; split <;> omega
theorem mend_lt (x c : Nat) (hx : x < 18446744073709551616) : (mend x c).1 < 18446744073709551616 := by
  unfold mend
  split
  · exact hx
  · split
    · rename_i b hb
      have := (colOf_some hb).1
      exact Nat.xor_lt_two_pow (n := 64) hx (Nat.pow_lt_pow_right (by omega) this)
    · split <;> exact hx
theorem mend_how (x c : Nat) : (mend x c).2.2 = 0 ∨ (mend x c).2.2 = 1 ∨ (mend x c).2.2 = 2 := by
  unfold mend
  split
  · simp
  · split
    · simp
    · split <;> simp
theorem mBad_at (l cs : List Nat) (k : Nat) (hk : k < 8) (h : (mw l cs k).2.2 = 2) : mBad l cs = true := by
  unfold mBad
  rw [List.any_eq_true]
  exact ⟨k, List.mem_range.2 hk, by simp [h]⟩
theorem mBad_none (l cs : List Nat) (h : ∀ i, i < 8 → (mw l cs i).2.2 ≠ 2) : mBad l cs = false := by
  unfold mBad
  rw [List.any_eq_false]
  intro i hi
  simp [h i (List.mem_range.1 hi)]
/-- What MendAll leaves. -/
def MendAllPost (l cs : List Nat) (w : World) (e : Ending) (w' : World) : Prop :=
  Below w.heap.size w w' ∧ (mBad l cs = true → e = .returned (.tuple #[.slice none 0 0, .int .i64 0, .bool false])) ∧
    (mBad l cs = false → ∃ A c, e = .returned (.tuple #[.slice A 64 c, .int .i64 (mCnt l cs 8 : Nat), .bool true]) ∧ w'.ownsRow w.heap.size 5 1 (.slice A 64 c) 64 (intsV .u8 (mBytes l cs 8)))
set_option maxRecDepth 100000 in
set_option maxHeartbeats 4000000 in
theorem MendAll_any (b off c b2 off2 c2 : Nat) (l cs : List Nat) (hl : l.length = 64) (hcl : cs.length = 8) (hc64 : 64 ≤ c) (h256 : ∀ u ∈ l, u < 256) (hcs : ∀ u ∈ cs, u < 256) (w : World) (hc : Cells8 w (some ⟨b, off, none⟩) l) (hc2 : Cells8 w (some ⟨b2, off2, none⟩) cs) (hT : Tab w) :
    Calls Tryd.prog 56 #[.slice (some ⟨b, off, none⟩) 64 c, .slice (some ⟨b2, off2, none⟩) 8 c2] w (MendAllPost l cs w) := by
  obtain ⟨i1, ji, jz0, jz1, jz2⟩ := info_parts u8_info
  have HC := Lib.hid hc
  have HC2 := Lib.hid hc2
  have HT := Lib.hid hT
  have HL := Lib.hid hl
  have HCL := Lib.hid hcl
  have H256 := Lib.hid h256
  have Hcs := Lib.hid hcs
  clear hc hc2 hT hl hcl h256 hcs
  have hmk : i1.bytes * 64 ≤ 281474976710656 := by rw [jz2]; omega
  have hml : 64 ≤ maxLen := by unfold maxLen; omega
  have HMk := Lib.hid (And.intro hmk hml)
  clear hmk hml
  go_enter Tryd.func56, Tryd.ntmps56
  go_wp2_with ((with_reducible refine wpList_make_own (o := ⟨some 26, .makeSlice 46 (.const (.int .i64 0)) (.tmp 25), _, _, _, _⟩) _ rfl (.const (.int .i64 0)) (.tmp 25) 46 rfl w.heap.size 5 i1 _ 1 Tryd.underlying46 ji jz0 jz1 .i64 .i64 64 64 rfl rfl rfl HMk.out.1 HMk.out.2 (Nat.le_refl _) ?_); intro w1 ho1 hg1)
  have HO1 := Lib.hid ho1
  have HB1 : Hid (Below w.heap.size w w1) := (Below.refl _ _).grown hg1 (Nat.le_refl _) (by intro k hk; cases hk)
  clear ho1 hg1
  go_wp2
  go_loopw [7, 8, 29] (fun ov nv i wr => ∃ (Ao : Option Addr) (co k : Nat), ov = .slice Ao (8 * k) co ∧ k ≤ 8 ∧ i = .int .i64 k ∧ nv = .int .i64 (mCnt l cs k : Nat) ∧ (∀ j, j < k → (mw l cs j).2.2 ≠ 2) ∧ wr.ownsRow w.heap.size 5 1 (.slice Ao (8 * k) co) (8 * k) (intsV .u8 (mBytes l cs k)) ∧ Below w.heap.size w wr) (fun _ _ i _ => 8 - (intOf i).toNat)
  case atStart => exact ⟨_, 64, 0, rfl, by omega, rfl, rfl, fun j hj => by omega, HO1.out, HB1.out⟩
  case round =>
    obtain ⟨Ao, co, k, rfl, hk, rfl, rfl, hok, ho, hb⟩ := hrel
    have HO := Lib.hid ho
    have HB := Lib.hid hb
    have HOk := Lib.hid hok
    have HTr := Lib.hid (HT.out.keep (keep_below hb))
    have HCr : Hid (Cells8 wr (some ⟨b, off + 8 * k, none⟩) (l.drop (8 * k))) := Cells8.drop (fun i hi => by obtain ⟨b2, o2, e, h⟩ := HC.out i hi; exact ⟨b2, o2, e, keep_below hb _ _ h⟩) _
    clear HO1 HB1 ho hok
    by_cases hlt : k < 8
    · have hcell := keep_below hb _ _ (HC2.out.at0 k (by rw [HCL.out]; exact hlt))
      have hcx : cs.getD k 0 < 256 := getD_lt Hcs.out k
      obtain ⟨n, hn⟩ : ∃ n, n = 8 * k := ⟨_, rfl⟩
      have HN := Lib.hid hn
      have hn1 : n ≤ 56 := by omega
      have HG := Lib.hid (get_any b (off + 8 * k) (c - 8 * k) (64 - 8 * k) (l.drop (8 * k)) (by rw [List.length_drop, HL.out]) (by omega) (by omega) (mem_drop H256.out) wr HCr.out)
      have HMw : Hid (mw l cs k = mend (gw (l.drop (8 * k)) 8) (cs.getD k 0)) := rfl
      have hx64 := gw_64 (l.drop (8 * k)) (mem_drop H256.out)
      have hw8 : IntKind.i64.wrap ((k : Int) * 8) = (n : Int) := by rw [IntKind.wrap_i64, hn]; omega
      have hw64 : IntKind.i64.wrap (64 - (n : Int)) = ((64 - n : Nat) : Int) := by rw [IntKind.wrap_i64]; omega
      have hmin : ¬ ((64 - n : Nat) : Int) < 8 := by omega
      have hmc := mCnt_le l cs k
      have HMc : Hid (mCnt l cs (k + 1) = mCnt l cs k + (if (mw l cs k).2.2 = 1 then 1 else 0)) := rfl
      have HMb : Hid (mBytes l cs (k + 1) = mBytes l cs k ++ pb (mw l cs k).1 8) := rfl
      have hhow := mend_how (gw (l.drop (8 * k)) 8) (cs.getD k 0)
      have hm64 := mend_lt (gw (l.drop (8 * k)) 8) (cs.getD k 0) hx64
      rw [← HMw.out] at hhow hm64
      have HMd := Lib.hid (Mend_any (gw (l.drop (8 * k)) 8) (cs.getD k 0) hx64 hcx wr HTr.out)
      unfold MendPost at HMd
      rw [← HMw.out] at HMd
      rw [← hn] at HG HMd HMw hx64 ⊢
      generalize gw (l.drop n) 8 = x at *
      generalize cs.getD k 0 = y at *
      have HHow := Lib.hid hhow
      clear hn hb hhow
      go_wp2_with fail
      refine HG.out.mono ?_
      rintro e w2 ⟨rfl, rfl⟩
      clear HG
      go_wp2_with fail
      refine HMd.out.mono ?_
      rintro e w2 ⟨rfl, rfl⟩
      have HPut := Lib.hid (put_any (mw l cs k).1 hm64 wr)
      clear HMd HMw
      obtain ⟨b0, b1, b2', b3, b4, b5, b6, b7, hpb⟩ : ∃ b0 b1 b2' b3 b4 b5 b6 b7, pb (mw l cs k).1 8 = [b0, b1, b2', b3, b4, b5, b6, b7] := by
        have := pb_length (mw l cs k).1 8
        match pb (mw l cs k).1 8, this with | [a0, a1, a2, a3, a4, a5, a6, a7], _ => exact ⟨a0, a1, a2, a3, a4, a5, a6, a7, rfl⟩
      have HPb := Lib.hid hpb
      rw [hpb] at HPut HMb
      obtain ⟨arr, harr⟩ : ∃ arr, arr = (#[.int .u8 (b0 : Nat), .int .u8 (b1 : Nat), .int .u8 (b2' : Nat), .int .u8 (b3 : Nat), .int .u8 (b4 : Nat), .int .u8 (b5 : Nat), .int .u8 (b6 : Nat), .int .u8 (b7 : Nat)] : Array Value) := ⟨_, rfl⟩
      have HArr := Lib.hid harr
      rw [show row8 [b0, b1, b2', b3, b4, b5, b6, b7] = #[.int .u8 (b0 : Nat), .int .u8 (b1 : Nat), .int .u8 (b2' : Nat), .int .u8 (b3 : Nat), .int .u8 (b4 : Nat), .int .u8 (b5 : Nat), .int .u8 (b6 : Nat), .int .u8 (b7 : Nat)] from rfl] at HPut
      clear hpb harr
      go_wp2_with fail
      refine HPut.out.mono ?_
      rintro e w3 ⟨rfl, hb3⟩
      have HB3 := Lib.hid hb3
      clear HPut hb3
      obtain ⟨w4, hw4⟩ : ∃ w4, w4 = w3.alloc (.cells #[.int .u8 (b0 : Nat), .int .u8 (b1 : Nat), .int .u8 (b2' : Nat), .int .u8 (b3 : Nat), .int .u8 (b4 : Nat), .int .u8 (b5 : Nat), .int .u8 (b6 : Nat), .int .u8 (b7 : Nat)] 129) := ⟨_, rfl⟩
      have HB4 : Hid (Below wr.heap.size wr w4) := by unfold Hid; rw [hw4]; exact HB3.out.alloc HB3.out.size _
      have HR4 : Hid (Row w4 w3.heap.size 129 #[.int .u8 (b0 : Nat), .int .u8 (b1 : Nat), .int .u8 (b2' : Nat), .int .u8 (b3 : Nat), .int .u8 (b4 : Nat), .int .u8 (b5 : Nat), .int .u8 (b6 : Nat), .int .u8 (b7 : Nat)]) := by unfold Hid; rw [hw4]; exact Row.fresh _ _ _
      have HBw4 : Hid (Below w.heap.size w w4) := HB.out.trans (HB4.out.mono HB.out.size)
      have HO4 := Lib.hid (own_below HO.out HB4.out)
      have HN4 := Lib.hid (nought_any [b0, b1, b2', b3, b4, b5, b6, b7] rfl w4)
      rw [show row8 [b0, b1, b2', b3, b4, b5, b6, b7] = #[.int .u8 (b0 : Nat), .int .u8 (b1 : Nat), .int .u8 (b2' : Nat), .int .u8 (b3 : Nat), .int .u8 (b4 : Nat), .int .u8 (b5 : Nat), .int .u8 (b6 : Nat), .int .u8 (b7 : Nat)] from rfl] at HN4
      obtain ⟨how, hhow⟩ : ∃ how, how = (mw l cs k).2.2 := ⟨_, rfl⟩
      have HHw := Lib.hid hhow
      rw [← hhow] at HHow HMc ⊢
      obtain ⟨m0, hm0⟩ : ∃ m0, m0 = (mw l cs k).1 := ⟨_, rfl⟩
      rw [← hm0] at hm64 ⊢
      obtain ⟨m1, hm1⟩ : ∃ m1, m1 = (mw l cs k).2.1 := ⟨_, rfl⟩
      rw [← hm1]
      obtain ⟨cn, hcn⟩ : ∃ cn, cn = mCnt l cs k := ⟨_, rfl⟩
      rw [← hcn] at HMc hmc ⊢
      have hwc : IntKind.i64.wrap ((cn : Int) + 1) = (cn : Int) + 1 := by rw [IntKind.wrap_i64]; omega
      clear hhow hm0 hm1 hcn hcell HTr HCr hx64 hcx HPb HArr
      have HOk2 : Hid (how ≠ 2 → ∀ j, j < k + 1 → (mw l cs j).2.2 ≠ 2) := fun h j hj => by
        rcases Nat.lt_or_ge j k with h1 | h1
        · exact HOk.out j h1
        · have : j = k := by omega
          rw [this, ← HHw.out]; exact h
      rcases HHow.out with h | h | h
      · subst h
        rw [if_neg (by omega), Nat.add_zero] at HMc
        have HOk3 := Lib.hid (HOk2.out (by omega))
        clear HOk2
        go_wp2_with fail
        rw [← hw4]
        refine HN4.out.mono ?_
        rintro e w5 ⟨rfl, hb5⟩
        have HBw5 : Hid (Below w.heap.size w w5) := HBw4.out.trans (hb5.mono HBw4.out.size)
        have HR5 := Lib.hid (HR4.out.below hb5 HR4.out.lt)
        have HO5 : Hid (w5.ownsRow w.heap.size 5 1 (.slice Ao n co) n (intsV .u8 (mBytes l cs k))) := by unfold Hid; rw [HN.out]; exact own_below HO4.out hb5
        have HS5 : Hid (Src w5 1 (some ⟨w3.heap.size, 0, none⟩) 8 (intsV .u8 [b0, b1, b2', b3, b4, b5, b6, b7])) := ⟨rfl, fun _ => ⟨_, rfl, fun j u hu => by
          rw [addr_add, Nat.zero_add, HR5.out.cell j, List.getElem?_toArray]; exact hu⟩⟩
        have g1 : Hid (n + 8 ≤ maxLen) := by unfold Hid maxLen; omega
        have g2 : Hid ((n + 8) * 1 ≤ 140737488355328) := by unfold Hid; omega
        clear HN4 hb5 HR4 HB4 HO4
        go_wp2_with (at_builtin; go_must (refine wpList_append_src _ rfl _ _ 46 rfl w.heap.size 5 i1 _ 1 1 Tryd.underlying46 ji jz0 jz1 jz2 rfl (by decide) _ n (intsV .u8 (mBytes l cs k)) rfl HO5.out (some ⟨w3.heap.size, 0, none⟩) 8 8 _ rfl HS5.out (intsV_one .u8 _) g1.out g2.out HBw5.out.size ?_))
        intro v9 w9 hown9 hgrow9 hat9
        obtain ⟨A9, c9, rfl, _, _⟩ := own_shape hown9
        have HB9 := Lib.hid (below_append HBw5.out HO5.out hgrow9 HBw5.out.size)
        rw [show intsV .u8 (mBytes l cs k) ++ intsV .u8 [b0, b1, b2', b3, b4, b5, b6, b7] = intsV .u8 (mBytes l cs (k + 1)) by rw [HMb.out, intsV_append], show n + 8 = 8 * (k + 1) by have := HN.out; omega] at hown9
        have HO9 := Lib.hid hown9
        rw [show n + 8 = 8 * (k + 1) by have := HN.out; omega]
        clear hown9 hgrow9 hat9 HO5 HS5 HR5 HBw4 HBw5 g1 g2 HO HB hw4
        go_wp2
        go_roundw
        case rel => exact ⟨A9, c9, k + 1, rfl, by omega, by go_num, by rw [HMc.out]; go_num, HOk3.out, HO9.out, HB9.out⟩
        case measure => simp [intOf]; omega
      · subst h
        rw [if_pos rfl] at HMc
        have HOk3 := Lib.hid (HOk2.out (by omega))
        clear HOk2
        go_wp2_with fail
        rw [← hw4]
        refine HN4.out.mono ?_
        rintro e w5 ⟨rfl, hb5⟩
        have HBw5 : Hid (Below w.heap.size w w5) := HBw4.out.trans (hb5.mono HBw4.out.size)
        have HR5 := Lib.hid (HR4.out.below hb5 HR4.out.lt)
        have HO5 : Hid (w5.ownsRow w.heap.size 5 1 (.slice Ao n co) n (intsV .u8 (mBytes l cs k))) := by unfold Hid; rw [HN.out]; exact own_below HO4.out hb5
        have HS5 : Hid (Src w5 1 (some ⟨w3.heap.size, 0, none⟩) 8 (intsV .u8 [b0, b1, b2', b3, b4, b5, b6, b7])) := ⟨rfl, fun _ => ⟨_, rfl, fun j u hu => by
          rw [addr_add, Nat.zero_add, HR5.out.cell j, List.getElem?_toArray]; exact hu⟩⟩
        have g1 : Hid (n + 8 ≤ maxLen) := by unfold Hid maxLen; omega
        have g2 : Hid ((n + 8) * 1 ≤ 140737488355328) := by unfold Hid; omega
        clear HN4 hb5 HR4 HB4 HO4
        go_wp2_with (at_builtin; go_must (refine wpList_append_src _ rfl _ _ 46 rfl w.heap.size 5 i1 _ 1 1 Tryd.underlying46 ji jz0 jz1 jz2 rfl (by decide) _ n (intsV .u8 (mBytes l cs k)) rfl HO5.out (some ⟨w3.heap.size, 0, none⟩) 8 8 _ rfl HS5.out (intsV_one .u8 _) g1.out g2.out HBw5.out.size ?_))
        intro v9 w9 hown9 hgrow9 hat9
        obtain ⟨A9, c9, rfl, _, _⟩ := own_shape hown9
        have HB9 := Lib.hid (below_append HBw5.out HO5.out hgrow9 HBw5.out.size)
        rw [show intsV .u8 (mBytes l cs k) ++ intsV .u8 [b0, b1, b2', b3, b4, b5, b6, b7] = intsV .u8 (mBytes l cs (k + 1)) by rw [HMb.out, intsV_append], show n + 8 = 8 * (k + 1) by have := HN.out; omega] at hown9
        have HO9 := Lib.hid hown9
        rw [show n + 8 = 8 * (k + 1) by have := HN.out; omega]
        clear hown9 hgrow9 hat9 HO5 HS5 HR5 HBw4 HBw5 g1 g2 HO HB hw4
        go_wp2
        go_roundw
        case rel => exact ⟨A9, c9, k + 1, rfl, by omega, by go_num, by rw [HMc.out]; go_num, HOk3.out, HO9.out, HB9.out⟩
        case measure => simp [intOf]; omega
      · subst h
        have hbad := mBad_at l cs k hlt HHw.out.symm
        have HBad := Lib.hid hbad
        clear hbad HOk2
        go_wp2
        rw [← hw4]
        refine bodyPost_ret (v := .tuple #[.slice none 0 0, .int .i64 0, .bool false]) (by simp [results, Tryd.results56, go_sem]) rfl ⟨HBw4.out, fun _ => rfl, fun h => ?_⟩
        rw [HBad.out] at h; cases h
    · obtain rfl : k = 8 := by omega
      have hnb := mBad_none l cs HOk.out
      have HNb := Lib.hid hnb
      obtain ⟨cn, hcn⟩ : ∃ cn, cn = mCnt l cs 8 := ⟨_, rfl⟩
      have HCn := Lib.hid hcn
      rw [← hcn]
      clear hnb hcn
      go_wp2
      refine bodyPost_ret (v := .tuple #[.slice Ao 64 co, .int .i64 cn, .bool true]) (by simp [results, Tryd.results56, go_sem]) rfl ⟨HB.out, fun h => ?_, fun _ => ⟨Ao, co, by rw [HCn.out], HO.out⟩⟩
      rw [HNb.out] at h; cases h
end Go.Proofs.YtlidbkofjchnnaaDoor
