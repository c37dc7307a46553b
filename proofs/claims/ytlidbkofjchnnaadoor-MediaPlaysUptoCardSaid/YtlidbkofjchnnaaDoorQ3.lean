/- What follows is laid together from several texts of mine, in their order. -/
import Derived.Test.YtlidbkofjchnnaaDoorQ2

namespace Go.Proofs.YtlidbkofjchnnaaDoor
open Go.RowKit
set_option linter.unusedVariables false
set_option linter.unusedSimpArgs false

/-- The k-th chunk's data, its checks. -/
def cd (l : List Nat) (k : Nat) : List Nat := (l.drop (73 * k)).take 64
def cc (l : List Nat) (k : Nat) : List Nat := (l.drop (73 * k + 64)).take 8
def rBytes (l : List Nat) : Nat → List Nat
  | 0 => []
  | k + 1 => rBytes l k ++ mBytes (cd l k) (cc l k) 8
def rCnt (l : List Nat) : Nat → Nat
  | 0 => 0
  | k + 1 => rCnt l k + mCnt (cd l k) (cc l k) 8
def rBad (l : List Nat) (c : Nat) : Bool := (List.range c).any fun k => mBad (cd l k) (cc l k)
theorem rBad_at (l : List Nat) (c k : Nat) (hk : k < c) (h : mBad (cd l k) (cc l k) = true) : rBad l c = true := by
  unfold rBad
  rw [List.any_eq_true]
  exact ⟨k, List.mem_range.2 hk, h⟩
theorem rBad_none (l : List Nat) (c : Nat) (h : ∀ i, i < c → mBad (cd l i) (cc l i) = false) : rBad l c = false := by
  unfold rBad
  rw [List.any_eq_false]
  intro i hi
  simp [h i (List.mem_range.1 hi)]
theorem rBytes_length (l : List Nat) (k : Nat) : (rBytes l k).length = 64 * k := by
  induction k with
  | zero => rfl
  | succ k ih => unfold rBytes; rw [List.length_append, ih, mBytes_length]; omega
theorem rBytes_lt (l : List Nat) (k : Nat) : ∀ u ∈ rBytes l k, u < 256 := by
  induction k with
  | zero => simp [rBytes]
  | succ k ih =>
    intro u hu
    unfold rBytes at hu
    rw [List.mem_append] at hu
    rcases hu with h | h
    · exact ih u h
    · exact mBytes_lt _ _ _ u h
theorem rCnt_le (l : List Nat) (k : Nat) : rCnt l k ≤ 8 * k := by
  induction k with
  | zero => simp [rCnt]
  | succ k ih => unfold rCnt; have := mCnt_le (cd l k) (cc l k) 8; omega
theorem own_take {w : World} {B : Nat} {e : TypeId} {A : Option Addr} {n c m : Nat} {xs : List Value} (h : w.ownsRow B e 1 (.slice A n c) n xs) (hm : m ≤ n) (h1 : 0 < n) : w.ownsRow B e 1 (.slice A m c) m (xs.take m) := by
  obtain ⟨hl, h2⟩ := h
  rcases h2 with ⟨_, rfl⟩ | ⟨g, cap, cur, e1, h0, hb, hc, hm2, hs, ht⟩
  · omega
  · injection e1 with e1 _ e3
    subst e1; subst e3
    refine ⟨by rw [List.length_take]; omega, .inr ⟨g, _, cur, rfl, h0, hb, by omega, hm2, hs, ?_⟩⟩
    rw [← ht, List.take_take]
    congr 1
    omega
/-- What Read leaves. -/
def ReadPost (l : List Nat) (c n : Nat) (w : World) (e : Ending) (w' : World) : Prop :=
  Below w.heap.size w w' ∧ (stateOf l c ≠ 2 → e = .returned (.tuple #[.slice none 0 0, .int .i64 0, .int .i64 (stateOf l c : Nat)])) ∧
    (stateOf l c = 2 → rBad l c = true → e = .returned (.tuple #[.slice none 0 0, .int .i64 0, .int .i64 3])) ∧
    (stateOf l c = 2 → rBad l c = false → ∃ A q, e = .returned (.tuple #[.slice A n q, .int .i64 (rCnt l c : Nat), .int .i64 2]) ∧ w'.ownsRow w.heap.size 5 1 (.slice A n q) n (intsV .u8 ((rBytes l c).take n)))
theorem stateOf_of (l : List Nat) (c : Nat) : stateOf l c = 0 ∨ stateOf l c = 1 ∨ stateOf l c = 2 := by unfold stateOf; split; simp; split <;> simp
set_option maxRecDepth 100000 in
set_option maxHeartbeats 4000000 in
theorem Read_any (b off cp c n : Nat) (l : List Nat) (hl : l.length = 73 * c) (h1 : 1 ≤ c) (h8 : c ≤ 8) (hn1 : n ≤ 64 * c) (hcp : 73 * c ≤ cp) (h256 : ∀ u ∈ l, u < 256) (w : World) (hc : Cells8 w (some ⟨b, off, none⟩) l) (hT : Tab w) :
    Calls Tryd.prog 40 #[.slice (some ⟨b, off, none⟩) (73 * c) cp, .int .i64 n] w (ReadPost l c n w) := by
  obtain ⟨i1, ji, jz0, jz1, jz2⟩ := info_parts u8_info
  have HSt := Lib.hid (State_any b off cp c l hl h1 h8 h256 w hc)
  have HC := Lib.hid hc
  have HT := Lib.hid hT
  have HL := Lib.hid hl
  have H256 := Lib.hid h256
  have HPd : ReadPost l c n w = fun e w' => ReadPost l c n w e w' := rfl
  have hso := stateOf_of l c
  have HSo := Lib.hid hso
  obtain ⟨s, hs⟩ : ∃ s, s = stateOf l c := ⟨_, rfl⟩
  have HS := Lib.hid hs
  obtain ⟨m, hm⟩ : ∃ m, m = 73 * c := ⟨_, rfl⟩
  have HM := Lib.hid hm
  rw [← hs] at HSt HSo
  rw [← hm] at HSt ⊢
  have hq : (m : Int) / 73 = (c : Int) := by omega
  have hwq : IntKind.i64.wrap ((c : Int) * 64) = ((64 * c : Nat) : Int) := by rw [IntKind.wrap_i64]; omega
  have hnm : ¬ ((64 * c : Nat) : Int) < n := by omega
  have hmb : 73 ≤ m ∧ m ≤ 584 ∧ m ≤ cp := by omega
  clear hc hT hl h256 HPd hso hs hm hcp
  go_enter Tryd.func40, Tryd.ntmps40
  go_wp2_with fail
  refine HSt.out.mono ?_
  rintro e w' ⟨rfl, rfl⟩
  clear HSt
  rcases HSo.out with h | h | h
  · subst h
    go_wp2
    refine bodyPost_ret (v := .tuple #[.slice none 0 0, .int .i64 0, .int .i64 0]) (by simp [results, Tryd.results40, go_sem]) rfl ⟨Below.refl _ _, fun _ => by rw [← HS.out]; rfl, fun h => ?_, fun h => ?_⟩
    all_goals rw [← HS.out] at h; cases h
  · subst h
    go_wp2
    refine bodyPost_ret (v := .tuple #[.slice none 0 0, .int .i64 0, .int .i64 1]) (by simp [results, Tryd.results40, go_sem]) rfl ⟨Below.refl _ _, fun _ => by rw [← HS.out]; rfl, fun h => ?_, fun h => ?_⟩
    all_goals rw [← HS.out] at h; cases h
  · subst h
    have hs2 : stateOf l c = 2 := HS.out.symm
    have HS2 := Lib.hid hs2
    clear hs2 HSo
    go_wp2
    go_loopw [8, 9, 10] (fun ov mv i wr => ∃ (Ao : Option Addr) (co k : Nat), ov = .slice Ao (64 * k) co ∧ k ≤ c ∧ mv = .int .i64 (rCnt l k : Nat) ∧ i = .int .i64 (73 * k : Nat) ∧ (∀ j, j < k → mBad (cd l j) (cc l j) = false) ∧ wr.ownsRow w.heap.size 5 1 (.slice Ao (64 * k) co) (64 * k) (intsV .u8 (rBytes l k)) ∧ Below w.heap.size w wr) (fun _ _ i _ => 600 - (intOf i).toNat)
    case atStart => exact ⟨none, 0, 0, rfl, by omega, rfl, rfl, fun j hj => by omega, World.ownsRow_nil _ _ _ _, Below.refl _ _⟩
    case round =>
      obtain ⟨Ao, co, k, rfl, hk, rfl, rfl, hok, ho, hb⟩ := hrel
      have HO := Lib.hid ho
      have HB := Lib.hid hb
      have HOk := Lib.hid hok
      clear ho hb hok
      by_cases hlt : k < c
      · have hcdl : (cd l k).length = 64 := by unfold cd; rw [List.length_take, List.length_drop, HL.out]; omega
        have hccl : (cc l k).length = 8 := by unfold cc; rw [List.length_take, List.length_drop, HL.out]; omega
        have HBy : Hid (rBytes l (k + 1) = rBytes l k ++ mBytes (cd l k) (cc l k) 8) := rfl
        have HCt : Hid (rCnt l (k + 1) = rCnt l k + mCnt (cd l k) (cc l k) 8) := rfl
        have HC1 : Hid (Cells8 wr (some ⟨b, off + 73 * k, none⟩) (cd l k)) := ((HC.out.keep (keep_below HB.out)).drop (73 * k)).take 64
        have HC2 : Hid (Cells8 wr (some ⟨b, off + (73 * k + 64), none⟩) (cc l k)) := ((HC.out.keep (keep_below HB.out)).drop (73 * k + 64)).take 8
        have HMa := Lib.hid (MendAll_any b (off + 73 * k) 64 b (off + (73 * k + 64)) 8 (cd l k) (cc l k) hcdl hccl (by omega) (mem_take (mem_drop H256.out)) (mem_take (mem_drop H256.out)) wr.drew HC1.out HC2.out (HT.out.keep (keep_below HB.out.drew)))
        have HBad : Hid (mBad (cd l k) (cc l k) = true → rBad l c = true) := fun h => rBad_at l c k hlt h
        have hmc := mCnt_le (cd l k) (cc l k) 8
        have hrc := rCnt_le l k
        obtain ⟨xd, hxd⟩ : ∃ xd, xd = cd l k := ⟨_, rfl⟩
        obtain ⟨xc, hxc⟩ : ∃ xc, xc = cc l k := ⟨_, rfl⟩
        have HBk : Hid (mBad (cd l k) (cc l k) = mBad xd xc) := by unfold Hid; rw [hxd, hxc]
        rw [← hxd, ← hxc] at HBy HCt HMa HBad
        rw [← hxd, ← hxc] at hmc
        clear hxd hxc
        obtain ⟨p, hp⟩ : ∃ p, p = 73 * k := ⟨_, rfl⟩
        have HP := Lib.hid hp
        have hpm : p + 73 ≤ m := by have := HM.out; omega
        have hpi : (p : Int) < m := by omega
        have hw64 : IntKind.i64.wrap ((p : Int) + 64) = (p : Int) + 64 := by rw [IntKind.wrap_i64]; omega
        have hw72 : IntKind.i64.wrap ((p : Int) + 72) = (p : Int) + 72 := by rw [IntKind.wrap_i64]; omega
        have hw73 : IntKind.i64.wrap ((p : Int) + 73) = (p : Int) + 73 := by rw [IntKind.wrap_i64]; omega
        rw [← hp] at HMa ⊢
        clear hp hcdl hccl HC1 HC2
        have HBdr : Hid (Below w.heap.size w wr.drew) := HB.out.drew
        have HOd : Hid (wr.drew.ownsRow w.heap.size 5 1 (.slice Ao (64 * k) co) (64 * k) (intsV .u8 (rBytes l k))) := HO.out.drew
        have hwn : wr.heap.size = wr.drew.heap.size := rfl
        rcases hbad : mBad xd xc with _ | _
        · have HMf : Hid (Calls Tryd.prog 56 #[.slice (some ⟨b, off + p, none⟩) 64 64, .slice (some ⟨b, off + (p + 64), none⟩) 8 8] wr.drew fun e w' => ∃ A c, e = .returned (.tuple #[.slice A 64 c, .int .i64 (mCnt xd xc 8 : Nat), .bool true]) ∧ Below w.heap.size w w' ∧ w'.ownsRow wr.drew.heap.size 5 1 (.slice A 64 c) 64 (intsV .u8 (mBytes xd xc 8)) ∧ w'.ownsRow w.heap.size 5 1 (.slice Ao (64 * k) co) (64 * k) (intsV .u8 (rBytes l k))) :=
            HMa.out.mono fun e w' ⟨hb, _, h⟩ => by
              obtain ⟨A, c, rfl, ho⟩ := h hbad
              exact ⟨A, c, rfl, HBdr.out.trans (hb.mono HBdr.out.size), ho, own_below HOd.out hb⟩
          have HBad2 := Lib.hid hbad
          clear HMa HBdr HOd HBad hwn hbad
          obtain ⟨q, hq⟩ : ∃ q, q = 64 * k := ⟨_, rfl⟩
          have HQ := Lib.hid hq
          have hq5 : q ≤ 448 := by omega
          rw [← hq] at HMf HO
          rw [← hq]
          obtain ⟨cn, hcn⟩ : ∃ cn, cn = rCnt l k := ⟨_, rfl⟩
          have HCn := Lib.hid hcn
          rw [← hcn] at hrc
          rw [← hcn]
          obtain ⟨mn, hmn⟩ : ∃ mn, mn = mCnt xd xc 8 := ⟨_, rfl⟩
          have HMn := Lib.hid hmn
          rw [← hmn] at HMf hmc
          have hwc : IntKind.i64.wrap ((cn : Int) + mn) = ((cn + mn : Nat) : Int) := by rw [IntKind.wrap_i64]; omega
          clear hq hcn hmn
          go_wp2
          go_region_held_law (fun w' => True) (fail)
            (first | (go_at_call 56; refine HMf.out.mono ?_; rintro e w' ⟨A3, c3, rfl, hb3, ho3, ho4⟩))
          all_goals
            have HB3 := Lib.hid hb3
            have HO3 := Lib.hid ho4
            have HS3 := Lib.hid (Src.of_own ho3)
            have g1 : Hid (q + 64 ≤ maxLen) := by unfold Hid maxLen; omega
            have g2 : Hid ((q + 64) * 1 ≤ 140737488355328) := by unfold Hid; omega
            clear HMf hb3 ho3 ho4
            go_wp2_with (at_builtin; go_must (refine wpList_append_src _ rfl _ _ 46 rfl w.heap.size 5 i1 _ 1 1 Tryd.underlying46 ji jz0 jz1 jz2 rfl (by decide) _ q (intsV .u8 (rBytes l k)) rfl HO3.out A3 64 c3 _ rfl HS3.out (intsV_one .u8 _) g1.out g2.out HB3.out.size ?_))
            intro v6 w6 hown6 hgrow6 hat6
            obtain ⟨A6, c6, rfl, _, _⟩ := own_shape hown6
            have HB6 := Lib.hid (below_append HB3.out HO3.out hgrow6 HB3.out.size)
            rw [show intsV .u8 (rBytes l k) ++ intsV .u8 (mBytes xd xc 8) = intsV .u8 (rBytes l (k + 1)) by rw [HBy.out, intsV_append], show q + 64 = 64 * (k + 1) by have := HQ.out; omega] at hown6
            have HO6 := Lib.hid hown6
            rw [show q + 64 = 64 * (k + 1) by have := HQ.out; omega]
            have HOk2 : Hid (∀ j, j < k + 1 → mBad (cd l j) (cc l j) = false) := fun j hj => by
              rcases Nat.lt_or_ge j k with h1 | h1
              · exact HOk.out j h1
              · have e : j = k := by omega
                rw [e]; exact HBk.out.trans HBad2.out
            clear hown6 hgrow6 hat6 HO3 HS3 HB3 g1 g2 HO HB HOk HBad2
            go_wp2
            go_roundw
            case rel => exact ⟨A6, c6, k + 1, rfl, by omega, by rw [HCt.out, ← HCn.out, ← HMn.out]; go_num, by rw [show 73 * (k + 1) = p + 73 by have := HP.out; omega]; go_num, HOk2.out, HO6.out, HB6.out⟩
            case measure => simp [intOf]; omega
        · have hrb := HBad.out hbad
          have HRb := Lib.hid hrb
          have HMf : Hid (Calls Tryd.prog 56 #[.slice (some ⟨b, off + p, none⟩) 64 64, .slice (some ⟨b, off + (p + 64), none⟩) 8 8] wr.drew fun e w' => e = .returned (.tuple #[.slice none 0 0, .int .i64 0, .bool false]) ∧ Below w.heap.size w w') :=
            HMa.out.mono fun e w' ⟨hb, h, _⟩ => ⟨h hbad, HBdr.out.trans (hb.mono HBdr.out.size)⟩
          clear HMa HBdr HOd HBad hwn hbad hrb
          go_wp2
          go_region_held_law (fun w' => True) (fail)
            (first | (go_at_call 56; refine HMf.out.mono ?_; rintro e w' ⟨rfl, hb3⟩))
          all_goals
            have HB3 := Lib.hid hb3
            clear hb3 HMf
            go_wp2
            refine bodyPost_ret (v := .tuple #[.slice none 0 0, .int .i64 0, .int .i64 3]) (by simp [results, Tryd.results40, go_sem]) rfl ⟨HB3.out, fun h => absurd HS2.out h, fun _ _ => rfl, fun _ h => ?_⟩
            rw [HRb.out] at h; cases h
      · obtain rfl : k = c := by omega
        have hpn : ¬ ((73 * k : Nat) : Int) < m := by have := HM.out; omega
        have HOe := Lib.hid (own_take HO.out hn1 (by omega))
        rw [show (intsV .u8 (rBytes l k)).take n = intsV .u8 ((rBytes l k).take n) from (List.map_take ..).symm] at HOe
        have hnb := rBad_none l k HOk.out
        have HNb := Lib.hid hnb
        obtain ⟨cn, hcn⟩ : ∃ cn, cn = rCnt l k := ⟨_, rfl⟩
        have HCn := Lib.hid hcn
        rw [← hcn]
        have hcc : 64 * k ≤ co := by have := own_shape HO.out; obtain ⟨A', c', e, h1, h2⟩ := this; injection e with e1 e2 e3; omega
        clear hnb hcn
        go_wp2
        refine bodyPost_ret (v := .tuple #[.slice Ao n co, .int .i64 cn, .int .i64 2]) (by simp [results, Tryd.results40, go_sem]) rfl ⟨HB.out, fun h => absurd HS2.out h, fun _ h => ?_, fun _ _ => ⟨Ao, co, by rw [HCn.out], HOe.out⟩⟩
        rw [HNb.out] at h; cases h
end Go.Proofs.YtlidbkofjchnnaaDoor
