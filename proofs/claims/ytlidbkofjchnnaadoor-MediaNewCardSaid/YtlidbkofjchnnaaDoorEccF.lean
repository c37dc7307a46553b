/- ecc: Words, of a chunk's 64 bytes. -/
import Derived.Test.YtlidbkofjchnnaaDoorEccD
namespace Go.Proofs.YtlidbkofjchnnaaDoor
open Go.RowKit
set_option linter.unusedVariables false
set_option linter.unusedSimpArgs false

theorem u8_info : (Tryd.prog.info? 5).map (fun i => (i.zero, i.size, i.bytes)) = some (some (.int .u8 0), 1, 1) := by kernel_rfl
theorem Cells8.drop {w : World} {b off : Nat} {l : List Nat} (h : Cells8 w (some ⟨b, off, none⟩) l) (k : Nat) : Cells8 w (some ⟨b, off + k, none⟩) (l.drop k) := fun i hi => by
  rw [List.length_drop] at hi
  refine ⟨b, off + k, rfl, ?_⟩
  have := h.at0 (k + i) (by omega)
  rw [← Nat.add_assoc] at this
  rw [this]
  congr 3
  rw [List.getD_eq_getElem?_getD, List.getD_eq_getElem?_getD, List.getElem?_drop]
theorem mem_drop {l : List Nat} {k : Nat} (h : ∀ u ∈ l, u < 256) : ∀ u ∈ l.drop k, u < 256 := fun u hu => h u (List.mem_of_mem_drop hu)
theorem gw_64 (l : List Nat) (h : ∀ u ∈ l, u < 256) : gw l 8 < 18446744073709551616 := by
  have := gw_lt l (getD_lt h) 8
  simpa using this
/-- The checks of the first k words. -/
def chks (l : List Nat) (k : Nat) : List Nat := (List.range k).map fun i => chk (gw (l.drop (8 * i)) 8)
theorem chks_step (l : List Nat) (k : Nat) : chks l (k + 1) = chks l k ++ [chk (gw (l.drop (8 * k)) 8)] := by simp [chks, List.range_succ]
theorem chks_length (l : List Nat) (k : Nat) : (chks l k).length = k := by simp [chks]
theorem chks_lt (l : List Nat) (k : Nat) : ∀ u ∈ chks l k, u < 256 := by
  intro u hu
  obtain ⟨i, _, rfl⟩ := List.mem_map.1 hu
  exact chk_lt _
theorem src_one {w : World} {v : Value} {t : TypeId} : Src (w.alloc (.cells #[v] t)) 1 (some ⟨w.heap.size, 0, none⟩) 1 [v] :=
  ⟨rfl, fun _ => ⟨_, rfl, fun j u hu => by
    have hj : j = 0 := by have := (List.getElem?_eq_some_iff.1 hu).1; simpa using this
    subst hj
    simp at hu; subst hu
    rw [addr_add, Nat.zero_add, (Row.fresh w t #[v]).cell 0]; rfl⟩⟩
theorem below_append {B : Nat} {a w w' : World} {A : Option Addr} {n c : Nat} {e : TypeId} {sz : Nat} {xs : List Value} (h : Below B a w) (ho : w.ownsRow B e sz (.slice A n c) n xs) (hg : w.grownBy w' (Value.slice A n c).ownBlock) (hB : B ≤ w.heap.size) : Below B a w' :=
  h.grown hg hB (fun k hk => (ho.lt k hk).1)
set_option maxRecDepth 100000 in
set_option maxHeartbeats 2000000 in
theorem Words_any (b off c : Nat) (l : List Nat) (hl : l.length = 64) (hc64 : 64 ≤ c) (h256 : ∀ u ∈ l, u < 256) (w : World) (hc : Cells8 w (some ⟨b, off, none⟩) l) (hT : Tab w) :
    Calls Tryd.prog 49 #[.slice (some ⟨b, off, none⟩) 64 c] w fun e w' => ∃ Ao co, e = .returned (.slice Ao 8 co) ∧ w'.ownsRow w.heap.size 5 1 (.slice Ao 8 co) 8 (intsV .u8 (chks l 8)) ∧ Below w.heap.size w w' := by
  obtain ⟨i1, ji, jz0, jz1, jz2⟩ := info_parts u8_info
  have HC := Lib.hid hc
  have HT := Lib.hid hT
  have HL := Lib.hid hl
  have H256 := Lib.hid h256
  clear hc hT hl h256
  go_enter Tryd.func49, Tryd.ntmps49
  go_wp2
  go_loopw [3, 4] (fun ov i wr => ∃ (Ao : Option Addr) (co k : Nat), ov = .slice Ao k co ∧ k ≤ 8 ∧ i = .int .i64 (8 * k : Nat) ∧ wr.ownsRow w.heap.size 5 1 (.slice Ao k co) k (intsV .u8 (chks l k)) ∧ Below w.heap.size w wr) (fun _ i _ => 64 - (intOf i).toNat)
  case atStart => exact ⟨none, 0, 0, rfl, by omega, rfl, World.ownsRow_nil _ _ _ _, Below.refl _ _⟩
  case round =>
    obtain ⟨Ao, co, k, rfl, hk, rfl, ho, hb⟩ := hrel
    have HO := Lib.hid ho
    have HB := Lib.hid hb
    have hCr : Cells8 wr (some ⟨b, off + 8 * k, none⟩) (l.drop (8 * k)) := Cells8.drop (fun i hi => by obtain ⟨b2, o2, e, h⟩ := HC.out i hi; exact ⟨b2, o2, e, keep_below hb _ _ h⟩) _
    have hTr : Tab wr := HT.out.keep (keep_below hb)
    have HTr := Lib.hid hTr
    have HCr := Lib.hid hCr
    clear ho hb hCr hTr
    by_cases hlt : k < 8
    · obtain ⟨n, hn⟩ : ∃ n, n = 8 * k := ⟨_, rfl⟩
      have HN := Lib.hid hn
      have hn1 : n ≤ 56 := by omega
      have HG := Lib.hid (get_any b (off + 8 * k) (c - 8 * k) (64 - 8 * k) (l.drop (8 * k)) (by rw [List.length_drop, HL.out]) (by omega) (by omega) (mem_drop H256.out) wr HCr.out)
      rw [← hn] at HG ⊢
      clear hn
      have hw8 : IntKind.i64.wrap ((n : Int) + 8) = (n : Int) + 8 := by rw [IntKind.wrap_i64]; omega
      have HS : Hid (chks l (k + 1) = chks l k ++ [chk (gw (l.drop n) 8)]) := by unfold Hid; rw [chks_step, ← HN.out]
      have HCk := Lib.hid (Check_any (gw (l.drop n) 8) (gw_64 _ (mem_drop H256.out)) wr HTr.out)
      have hcl := chk_lt (gw (l.drop n) 8)
      generalize gw (l.drop n) 8 = x at *
      generalize chk x = y at *
      go_wp2_with fail
      refine HG.out.mono ?_
      rintro e w1 ⟨rfl, rfl⟩
      clear HG
      go_wp2_with fail
      refine HCk.out.mono ?_
      rintro e w1 ⟨rfl, rfl⟩
      clear HCk
      have HOa := Lib.hid (own_below HO.out ((Below.refl wr.heap.size wr).alloc (Nat.le_refl _) (.cells #[.int .u8 (y : Nat)] 5)))
      have HSa : Hid (Src (wr.alloc (.cells #[.int .u8 (y : Nat)] 5)) 1 (some ⟨wr.heap.size, 0, none⟩) 1 [.int .u8 (y : Nat)]) := src_one
      have HBa : Hid (Below w.heap.size w (wr.alloc (.cells #[.int .u8 (y : Nat)] 5))) := HB.out.alloc HB.out.size _
      have g1 : Hid (k + 1 ≤ maxLen) := by unfold Hid maxLen; omega
      have g2 : Hid ((k + 1) * 1 ≤ 140737488355328) := by unfold Hid; omega
      have H1 : Hid (∀ u ∈ [Value.int .u8 (y : Nat)], u.oneCell' = true) := by unfold Hid; simp [Value.oneCell']
      go_wp2_with (at_builtin; go_must (refine wpList_append_src _ rfl _ _ 46 rfl w.heap.size 5 i1 _ 1 1 Tryd.underlying46 ji jz0 jz1 jz2 rfl (by decide) _ k (intsV .u8 (chks l k)) rfl HOa.out (some ⟨wr.heap.size, 0, none⟩) 1 1 _ rfl HSa.out H1.out g1.out g2.out HBa.out.size ?_))
      intro v9 w9 hown9 hgrow9 hat9
      obtain ⟨A9, c9, rfl, _, _⟩ := own_shape hown9
      have HB9 := Lib.hid (below_append HBa.out HOa.out hgrow9 HBa.out.size)
      rw [show intsV .u8 (chks l k) ++ [Value.int .u8 (y : Nat)] = intsV .u8 (chks l (k + 1)) by rw [HS.out, intsV_append]; rfl] at hown9
      have HO9 := Lib.hid hown9
      clear hown9 hgrow9 hat9 HOa HSa HBa g1 g2 H1 HTr HCr
      go_wp2
      go_roundw
      case rel => exact ⟨A9, c9, k + 1, rfl, by omega, by rw [show 8 * (k + 1) = n + 8 by have := HN.out; omega]; go_num, HO9.out, HB9.out⟩
      case measure => simp [intOf]; omega
    · obtain rfl : k = 8 := by omega
      go_wp2
      go_ret
      exact ⟨_, _, rfl, HO.out, HB.out⟩
end Go.Proofs.YtlidbkofjchnnaaDoor
