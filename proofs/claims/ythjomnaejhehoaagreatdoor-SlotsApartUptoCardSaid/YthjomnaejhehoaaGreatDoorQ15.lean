/- What follows is laid together from several texts of mine, in their order. -/
import Derived.Test.YthjomnaejhehoaaGreatDoorQ13
import Derived.Test.YthjomnaejhehoaaGreatDoorQ14
import Derived.Lib.SlBytesConst
import Derived.ArgAppend
import Derived.Test.YthjomnaejhehoaaGreatDoorQ12

namespace Go.Proofs.YthjomnaejhehoaaGreatDoor
open Go.RowKit Go.MapKept Go.ChangeMaps
set_option linter.unusedVariables false
set_option linter.unusedSimpArgs false

theorem own_ge {w : World} {B : Nat} {e : TypeId} {s : Nat} {v : Value} {n : Nat} {xs : List Value} (h : w.ownsRow B e s v n xs) : ∀ k, v.ownBlock = some k → B ≤ k := fun k hk => by
  rcases h.2 with ⟨rfl, _⟩ | ⟨g, cap, cur, rfl, hb, _⟩
  · cases hk
  · have e : g = k := by injection hk
    omega
theorem own_apart {w : World} {B B' : Nat} {e e' : TypeId} {s s' : Nat} {v u : Value} {n m : Nat} {xs ys : List Value} (h : w.ownsRow B e s v n xs) (h' : w.ownsRow B' e' s' u m ys) (hne : e ≠ e') : v.ownBlock = none ∨ v.ownBlock ≠ u.ownBlock := by
  rcases h.2 with ⟨rfl, _⟩ | ⟨g, cap, cur, rfl, _, h1, _⟩
  · left; rfl
  · right
    rcases h'.2 with ⟨rfl, _⟩ | ⟨g', cap', cur', rfl, _, h2, _⟩
    · intro e; cases e
    · intro e1
      have e2 : g = g' := by injection e1
      subst e2
      rw [h1] at h2
      injection h2 with h2
      injection h2 with _ h3 _
      exact hne h3
theorem ValsIs.lookT {w : World} {B Q : Nat} {V : Vals} (h : ValsIs w B Q V) {k : Nat} (hk : k < 32) : ∃ v, SlIs w B v (valOf V k) ∧ ∀ w' T, Turns w w' T → Q ∉ T → (Instr.lookup 101 (.map (some Q)) (.int .i64 k) false).run Tryz.prog w' = .ok v w' := by
  obtain ⟨f, h1, h2, h3⟩ := h
  refine ⟨(f (.int .i64 k)).getD (.slice none 0 0), ?_, fun w' T ht hQ => ((h1.turns ht hQ).look intKeyed mb_under (zero_bytes w') (int_key (k := k) (by omega))).1⟩
  unfold valOf
  cases hv : V k with
  | none =>
    have hf : f (.int .i64 k) = none := by
      cases hf : f (.int .i64 k) with
      | none => rfl
      | some v =>
        obtain ⟨k', l, _, h4, h5, _⟩ := h2 _ _ hf
        obtain rfl := nk_inj h5
        rw [hv] at h4; cases h4
    rw [hf]
    exact World.ownsRow_nil _ _ _ _
  | some l =>
    obtain ⟨_, v, hf⟩ := h3 k l hv
    obtain ⟨k', l', _, h4, h5, h6⟩ := h2 _ _ hf
    obtain rfl := nk_inj h5
    rw [hv] at h4; injection h4 with h4; subst h4
    rw [hf]
    exact h6
theorem src_row {w : World} {t : TypeId} {cs : List Value} : Src (w.alloc (.cells cs.toArray t)) 1 (some ⟨w.heap.size, 0, none⟩) cs.length cs :=
  ⟨by omega, fun _ => ⟨_, rfl, fun j u hu => by
    rw [addr_add, Nat.zero_add, (Row.fresh w t cs.toArray).cell]
    simpa using hu⟩⟩
theorem conv_const (w : World) (C : Array Value) (n c : Nat) : (convert 22 22 (.slice (some ⟨w.heap.size, 0, none⟩) n c)).run Tryz.prog (w.alloc (.cells C 5)) = .ok (.slice (some ⟨w.heap.size, 0, none⟩) n c) (w.alloc (.cells C 5 (C.size, C.size + 1))) :=
  Lib.run_convert_bytes_const w _ _ C n c Tryz.underlying22 Tryz.underlying5
theorem page_mid (q : Nat) (V : Vals) : magicB ++ leB q 8 ++ [(keysOf V).length, 0] = headB q V := rfl
/-- The head and the first of the records. -/
def preB (q : Nat) (V : Vals) (j : Nat) : List Nat := headB q V ++ recsB V ((keysOf V).take j)
theorem preB_length (q : Nat) (V : Vals) (j : Nat) : (preB q V j).length = 14 + (recsB V ((keysOf V).take j)).length := by rw [preB, List.length_append, headB_length]
theorem preB_succ (q : Nat) (V : Vals) (j : Nat) (hj : j < (keysOf V).length) : preB q V (j + 1) = preB q V j ++ [(keysOf V).getD j 0, (valOf V ((keysOf V).getD j 0)).length % 256, (valOf V ((keysOf V).getD j 0)).length / 256 % 256] ++ valOf V ((keysOf V).getD j 0) := by
  have e : (keysOf V).getD j 0 = (keysOf V)[j] := by rw [List.getD_eq_getElem?_getD, List.getElem?_eq_getElem hj]; rfl
  have et : (keysOf V).take (j + 1) = (keysOf V).take j ++ [(keysOf V).getD j 0] := by rw [e, List.take_succ_eq_append_getElem hj]
  unfold preB
  rw [et, recsB_append]
  simp [recsB, recB]
set_option maxRecDepth 100000 in
set_option maxHeartbeats 4000000 in
theorem bytes_any {w : World} {B M Q F L n : Nat} {P : Nat → Nat} {S : Fl} {bad : Nat → Bool} {md : Int} (h : MedIs w B M Q F L P S n bad md) (St : Nat) (hc : w.cell? ⟨St, 0, none⟩ = some (.pointer (some ⟨M, 0, none⟩)))
    (B' Vb : Nat) (V : Vals) (hv : ValsIs w B' Vb V) (hV : OkV V) (hF : FitV n V) (hn : n ≤ 512) (q : Nat) (hq : q < 18446744073709551616) :
    Calls Tryz.prog 61 #[.pointer (some ⟨St, 0, none⟩), .int .u64 q, .map (some Vb)] w fun e w' => ∃ A c, e = .returned (.slice A n c) ∧ w'.ownsRow w.heap.size 5 1 (.slice A n c) n (intsV .u8 (pageB n q V)) ∧ Below w.heap.size w w' := by
  obtain ⟨i0, hi, hz0, hz1, hz2⟩ := info_parts u8_info
  obtain ⟨wB, hwB⟩ : ∃ wB, wB = w.alloc (.cells #[.int .u8 83, .int .u8 76, .int .u8 79, .int .u8 84] 5 (4, 5)) := ⟨_, rfl⟩
  have HO1 : Hid (∀ j u, (intsV .u8 magicB)[j]? = some u → wB.cell? ((⟨w.heap.size, 0, none⟩ : Addr).add j) = some u) := fun j u hu => by
    rw [addr_add, Nat.zero_add, hwB, cell_of_row _ _ _ _ _ _ (heap_alloc_new w _)]
    simpa [intsV, magicB] using hu
  have HB1 : Hid (Below w.heap.size w wB) := by unfold Hid; rw [hwB]; (repeat (first | (with_reducible refine Below.drew ?_) | (with_reducible refine below_drewN0 ?_ _) | ((with_reducible refine Below.setCell ?_ ?_ _); rotate_left; focus (first | omega | (simp; done) | (simp; omega) | (simp at *; omega))) | ((with_reducible refine Below.alloc ?_ ?_ _); rotate_left; focus (first | omega | (simp; done) | (simp; omega) | (simp at *; omega))) | (with_reducible exact Below.refl _ _)))
  have HH := Lib.hid h
  have HC := Lib.hid hc
  have HVs := Lib.hid hv
  have HF := Lib.hid hF
  have HVo := Lib.hid hV
  have hkl := keysOf_len V
  have hcs := conv_const
  clear h hc hv hF hV
  go_enter Tryz.func61, Tryz.ntmps61
  go_wp2
  rw [← hwB]
  clear hwB hcs
  go_loopw [7, 14] (fun b i wr => ∃ k : Nat, k ≤ 8 ∧ i = .int .i64 k ∧ ((k = 0 ∧ b = .slice (some ⟨w.heap.size, 0, none⟩) 4 4 ∧ wr = wB) ∨ (0 < k ∧ wr.ownsRow w.heap.size 5 1 b (4 + k) (intsV .u8 (magicB ++ leB q k)))) ∧ Below w.heap.size w wr) (fun _ i _ => 8 - (intOf i).toNat)
  case atStart => exact ⟨0, by omega, rfl, .inl ⟨rfl, rfl, rfl⟩, HB1.out⟩
  case round =>
    obtain ⟨k, hk, rfl, ho, hb⟩ := hrel
    have HB := Lib.hid hb
    clear hb HB1
    by_cases hlt : k < 8
    · have hw8 : IntKind.i64.wrap (8 * (k : Int)) = ((8 * k : Nat) : Int) := by rw [IntKind.wrap_i64]; omega
      have hsz := HB.out.size
      have HY : Hid ((q : Int) / 2 ^ (8 * k) % 256 = ((q / 2 ^ (8 * k) % 256 : Nat) : Int)) := by unfold Hid; simp
      rcases ho with ⟨hk0, rfl, rfl⟩ | ⟨hk0, ho⟩
      · subst hk0
        go_wp2_with (at_builtin; refine wpList_append_grows _ rfl (.tmp 17) (.tmp 23) 22 rfl 5 i0 (.int .u8 0) 1 1 Tryz.underlying22 hi hz0 hz1 hz2 rfl (by decide) (some ⟨w.heap.size, 0, none⟩) 4 4 (intsV .u8 magicB) rfl (by simp) rfl (fun b hb j u hu => by injection hb with hb; subst hb; exact keep_below ((Below.refl _ _).alloc (Nat.le_refl _) _) _ _ (HO1.out j u hu)) ⟨_, 0, none⟩ 1 1 [_] rfl rfl (cell_one_new _ _ _) (fun u hu => by rw [List.mem_singleton.1 hu]; rfl) (by omega) (by unfold maxLen; omega) (by omega) ?_; intro v' w2 hown hgrow)
        have h2 : w2.ownsRow w.heap.size 5 1 v' (4 + 1) (intsV .u8 (magicB ++ leB q 1)) := by
          have h := own_mono hown (base' := w.heap.size) (by simp; omega)
          have e : intsV .u8 (magicB ++ leB q 1) = intsV .u8 magicB ++ [.int .u8 ((q : Int) % 256)] := by simp [intsV, leB]
          rw [e]; exact h
        have h3 : Below w.heap.size w w2 := (HB.out.alloc hsz _).grown hgrow (by simp; omega) (fun k hk => by cases hk)
        have H2 := Lib.hid h2
        have H3 := Lib.hid h3
        clear h2 h3 hown hgrow
        go_roundw
        case rel => exact ⟨1, by omega, by go_num, .inr ⟨by omega, H2.out⟩, H3.out⟩
        case measure => simp [intOf]
      · have HO := Lib.hid ho
        clear ho
        go_wp2_with (at_builtin; refine wpList_append_src _ rfl (.tmp 17) (.tmp 23) 22 rfl w.heap.size 5 i0 (.int .u8 0) 1 1 Tryz.underlying22 hi hz0 hz1 hz2 rfl (by decide) u7 (4 + k) (intsV .u8 (magicB ++ leB q k)) rfl (own_below HO.out ((Below.refl _ _).alloc (Nat.le_refl _) _)) (some ⟨wr.heap.size, 0, none⟩) 1 1 _ rfl src_one (fun u hu => by rw [List.mem_singleton.1 hu]; rfl) (by unfold maxLen; omega) (by omega) (by simp; omega) ?_; intro v' w2 hown hgrow hat)
        have h2 : w2.ownsRow w.heap.size 5 1 v' (4 + (k + 1)) (intsV .u8 (magicB ++ leB q (k + 1))) := by
          have e : intsV .u8 (magicB ++ leB q (k + 1)) = intsV .u8 (magicB ++ leB q k) ++ [.int .u8 ((q : Int) / 2 ^ (8 * k) % 256)] := by rw [HY.out, leB_succ, ← List.append_assoc, intsV_append]; rfl
          rw [e]; exact hown
        have h3 : Below w.heap.size w w2 := (HB.out.alloc hsz _).grown hgrow (by simp; omega) (own_ge HO.out)
        have H2 := Lib.hid h2
        have H3 := Lib.hid h3
        clear h2 h3 hown hgrow hat
        go_roundw
        case rel => exact ⟨k + 1, by omega, by go_num, .inr ⟨by omega, H2.out⟩, H3.out⟩
        case measure => simp [intOf]; omega
    · obtain rfl : k = 8 := by omega
      have ho8 : wr.ownsRow w.heap.size 5 1 u7 12 (intsV .u8 (magicB ++ leB q 8)) := by
        rcases ho with ⟨h, _⟩ | ⟨_, h⟩
        · omega
        · exact h
      have HO := Lib.hid ho8
      clear ho ho8
      have hVr := HVs.out.turns (w' := wr) ((Turns.refl w []).trans (Turns.refl w []) (by simp) |> fun _ => ⟨HB.out.os, HB.out.tape, HB.out.output, HB.out.size, fun k hk _ => HB.out.block k hk⟩) (by simp) (NoU8.nil w)
      have HVr := Lib.hid hVr
      have hln := hVr.len
      clear hVr
      obtain ⟨cnt, hcn⟩ : ∃ cnt, cnt = (keysOf V).length := ⟨_, rfl⟩
      have HCn := Lib.hid hcn
      rw [← hcn] at hln hkl
      have hc8 : (cnt : Int) % 256 = cnt := by omega
      have hsz := HB.out.size
      clear hcn
      go_wp2_with (at_builtin; refine wpList_append_src _ rfl (.tmp 26) (.tmp 30) 22 rfl w.heap.size 5 i0 (.int .u8 0) 1 1 Tryz.underlying22 hi hz0 hz1 hz2 rfl (by decide) u7 12 (intsV .u8 (magicB ++ leB q 8)) rfl (own_below HO.out ((Below.refl _ _).alloc (Nat.le_refl _) _)) (some ⟨wr.heap.size, 0, none⟩) 2 2 _ rfl src_row (fun u hu => by simp at hu; rcases hu with rfl | rfl <;> rfl) (by unfold maxLen; omega) (by omega) (by simp; omega) ?_; intro v' w2 hown hgrow hat)
      have h2 : w2.ownsRow w.heap.size 5 1 v' 14 (intsV .u8 (preB q V 0)) := by
        have e : intsV .u8 (preB q V 0) = intsV .u8 (magicB ++ leB q 8) ++ [.int .u8 (cnt : Int), .int .u8 0] := by
          rw [preB, List.take_zero, show recsB V [] = [] from rfl, List.append_nil, headB, intsV_append, HCn.out]; rfl
        rw [e]; exact hown
      have h3 : Below w.heap.size w w2 := (HB.out.alloc hsz _).grown hgrow (by simp; omega) (own_ge HO.out)
      have hVb : Vb < w.heap.size := HVs.out.lt
      have hV2 : ValsIs w2 B' Vb V := HVs.out.turns (T := []) ⟨h3.os, h3.tape, h3.output, h3.size, fun k hk _ => h3.block k hk⟩ (by simp) (NoU8.nil w)
      have H2 := Lib.hid h2
      have H3 := Lib.hid h3
      have HSo := Lib.hid (sortedA_any hV2)
      have HBk : Hid (Below w2.heap.size w2 (w2.alloc (.cells #[.map (some Vb)] 101))) := by unfold Hid; (repeat (first | (with_reducible refine Below.drew ?_) | (with_reducible refine below_drewN0 ?_ _) | ((with_reducible refine Below.setCell ?_ ?_ _); rotate_left; focus (first | omega | (simp; done) | (simp; omega) | (simp at *; omega))) | ((with_reducible refine Below.alloc ?_ ?_ _); rotate_left; focus (first | omega | (simp; done) | (simp; omega) | (simp at *; omega))) | (with_reducible exact Below.refl _ _)))
      clear h2 h3 hown hgrow hat hV2 HO HVr hln HB
      refine (keysA_any _ _).mono ?_
      rintro e w3 ⟨rfl, rfl⟩
      go_wp2_with fail
      refine HSo.out.mono ?_
      rintro e w3 ⟨vk, rfl, hrow, hbk⟩
      obtain ⟨Ak, ck, rfl, hck, _⟩ := own_shape hrow
      have hb23 : Below w2.heap.size w2 w3 := HBk.out.trans (hbk.mono (by omega))
      have HK3 := Lib.hid (own_mono hrow (show w.heap.size ≤ w2.heap.size + 1 by have := H3.out.size; omega))
      have HO3 := Lib.hid (own_below H2.out hb23)
      have HB3 : Hid (Below w.heap.size w w3) := H3.out.trans (hb23.mono H3.out.size)
      rw [← HCn.out] at HK3
      clear HSo hrow hbk hb23 H2 H3 HBk
      rw [← HCn.out]
      go_wp2
      go_loopw [7, 36] (fun b i wr => ∃ j : Nat, j ≤ cnt ∧ i = .int .i64 j ∧ wr.ownsRow w.heap.size 5 1 b (14 + (recsB V ((keysOf V).take j)).length) (intsV .u8 (preB q V j)) ∧ wr.ownsRow w.heap.size 3 1 (.slice Ak cnt ck) cnt (natsV (keysOf V)) ∧ Below w.heap.size w wr) (fun _ i _ => cnt - (intOf i).toNat)
      case atStart => exact ⟨0, by omega, rfl, HO3.out, HK3.out, HB3.out⟩
      case round =>
        clear hsz hc8
        obtain ⟨j, hj, rfl, ho, hk3, hb⟩ := hrel
        have HO := Lib.hid ho
        have HKs := Lib.hid hk3
        have HB := Lib.hid hb
        have hsz := hb.size
        clear ho hk3 hb HO3 HK3 HB3
        have hFb : 14 + lenV V + 3 * cnt + 2 ≤ n := by have := HF.out; unfold FitV at this; rw [← HCn.out] at this; omega
        have hLt : (recsB V (keysOf V)).length = lenV V + 3 * cnt := by rw [recsB_length, ← HCn.out, lenV]
        by_cases hjn : j < cnt
        · have hjk : j < (keysOf V).length := by rw [← HCn.out]; exact hjn
          obtain ⟨k, hk0⟩ : ∃ k, k = (keysOf V).getD j 0 := ⟨_, rfl⟩
          have HK := Lib.hid hk0
          have hk32 : k < 32 := by rw [hk0]; exact (keysOf_at V j hjk).1
          obtain ⟨v, hsv, hlk⟩ := HVs.out.lookT hk32
          obtain ⟨Av, cv, rfl, hcv, _⟩ := own_shape hsv
          obtain ⟨ln, hln⟩ : ∃ ln, ln = (valOf V k).length := ⟨_, rfl⟩
          have HLn := Lib.hid hln
          obtain ⟨p, hp⟩ : ∃ p, p = 14 + (recsB V ((keysOf V).take j)).length := ⟨_, rfl⟩
          have HP := Lib.hid hp
          have hpn : p + 3 + ln + 2 ≤ n := by
            have h1 := recsB_take_succ V j hjk
            have h2 := recsB_take_le V (j + 1)
            rw [← hk0, ← hln] at h1
            omega
          rw [← hp] at HO
          rw [← hln] at hlk hcv
          obtain ⟨gb, cb, rfl, hgb, hgl, hpc, hcm⟩ := own_at HO.out (by omega)
          obtain ⟨gk, ck', ek, hgk, hgkl, _, _⟩ := own_at HKs.out (by omega)
          injection ek with ek1 _ ek3
          subst ek1
          subst ek3
          have ck0 : wr.cell? ⟨gk, j, none⟩ = some (.int .i64 k) := by
            have h1 := HKs.out.cells (g := gk) rfl j _ (natsV_get (keysOf V) j hjk)
            rw [addr_add, Nat.zero_add, ← hk0] at h1
            exact h1
          have hto : ∀ W, Below w.heap.size w W → Turns w W [] := fun W h => ⟨h.os, h.tape, h.output, h.size, fun k hk _ => h.block k hk⟩
          have hl0 := hlk wr [] (hto _ HB.out) (by simp)
          have hl1 : ∀ t : Kept wr [gb], (Instr.lookup 101 (.map (some Vb)) (.int .i64 k) false).run Tryz.prog t.u = .ok (.slice Av ln cv) t.u := fun t => hlk t.u [] (hto _ (t.h.below HB.out hsz (by simpa using hgb))) (by simp)
          have HSv := Lib.hid hsv
          have hjc : (j : Int) < cnt := by omega
          have hk8 : (k : Int) % 256 = k := by omega
          have HNe : Hid (gk ≠ gb) := by
            obtain ⟨_, _, h1, _⟩ := own_row HKs.out
            obtain ⟨_, _, h2, _⟩ := own_row HO.out
            exact Row.ne_type h1 h2 (by decide)
          clear hk0 hlk hln hp hsv hLt hFb hto
          go_wp2
          (refine region_kept ([gb]) [0, 1, 2, 3, 4, 5, 6, 7, 10, 11, 12] [8, 9, 13, 14] (by kernel_rfl) (by kernel_rfl) (fun _ _ _ _ _ h => h) ?_; simp only [List.filterMap_cons, List.getElem?_cons_zero, List.getElem?_cons_succ, List.filterMap_nil]; (repeat ((show wpQuiet _ _ _ _ (_ :: _) _); go_big_quiet_step (fail))); refine wpQuiet_nil ?_)
          clear hl0 hl1
          refine wpSeqS_step ?_
          go_wp2_with fail
          obtain ⟨wA, hwA⟩ : ∃ wA, wA = (wr.alloc (.cells #[.int .u8 (k : Nat), .int .u8 ((ln : Int) % 256), .int .u8 ((ln : Int) / 256)] 5)).drew := ⟨_, rfl⟩
          have HBA : Hid (Below wr.heap.size wr wA) := by unfold Hid; rw [hwA]; (repeat (first | (with_reducible refine Below.drew ?_) | (with_reducible refine below_drewN0 ?_ _) | ((with_reducible refine Below.setCell ?_ ?_ _); rotate_left; focus (first | omega | (simp; done) | (simp; omega) | (simp at *; omega))) | ((with_reducible refine Below.alloc ?_ ?_ _); rotate_left; focus (first | omega | (simp; done) | (simp; omega) | (simp at *; omega))) | (with_reducible exact Below.refl _ _)))
          have HSA : Hid (Src wA 1 (some ⟨wr.heap.size, 0, none⟩) 3 [.int .u8 (k : Nat), .int .u8 ((ln : Int) % 256), .int .u8 ((ln : Int) / 256)]) := by
            unfold Hid; rw [hwA]
            exact (src_row (w := wr) (t := 5) (cs := [.int .u8 (k : Nat), .int .u8 ((ln : Int) % 256), .int .u8 ((ln : Int) / 256)])).keep (fun _ _ h => h)
          rw [← hwA]
          clear hwA
          refine outQ_normal (Turns.of_below HBA.out _) ?_
          have HOA := Lib.hid (own_below HO.out HBA.out)
          refine wpSeqS_step (wpList_append_src _ rfl (.tmp 44) (.tmp 52) 22 rfl w.heap.size 5 i0 (.int .u8 0) 1 1 Tryz.underlying22 hi hz0 hz1 hz2 rfl (by decide) (.slice (some ⟨gb, 0, none⟩) p cb) p (intsV .u8 (preB q V j)) rfl HOA.out (some ⟨wr.heap.size, 0, none⟩) 3 3 _ rfl HSA.out (fun u hu => by simp at hu; rcases hu with rfl | rfl | rfl <;> rfl) (by unfold maxLen; omega) (by omega) (by have := HBA.out.size; omega) ?_)
          intro v6 w6 hown hgrow hat
          have HT6 : Hid (Turns wr w6 [gb]) := (Turns.of_below HBA.out _).trans (Turns.of_grown hgrow) (fun g hg => .inl hg)
          obtain ⟨g6, c6, rfl, hg6, hg6l, _, _⟩ := own_at hown (by omega)
          have HG6 : Hid (g6 = gb ∨ wr.heap.size ≤ g6) := by
            rcases hat with h | h
            · left; injection h
            · right
              have e : g6 = wA.heap.size := by injection h
              have := HBA.out.size
              omega
          have HO6 := Lib.hid hown
          have HB6 : Hid (Below w.heap.size w w6) := HT6.out.below HB.out hsz (by simpa using hgb)
          have HS6 : Hid (Src w6 1 Av ln (intsV .u8 (valOf V k))) := by
            have h1 := own_below (w' := w6) HSv.out ⟨HB6.out.os, HB6.out.tape, HB6.out.output, HB6.out.size, HB6.out.block⟩
            rw [← HLn.out] at h1
            exact Src.of_own h1
          clear hown hgrow hat HOA HSA
          refine wpList_nil (outQ_normal HT6.out ?_)
          refine wpSeqS_step (wpList_append_src _ rfl (.tmp 53) (.tmp 56) 22 rfl w.heap.size 5 i0 (.int .u8 0) 1 1 Tryz.underlying22 hi hz0 hz1 hz2 rfl (by decide) _ (p + 3) _ rfl HO6.out Av ln cv (intsV .u8 (valOf V k)) rfl HS6.out (intsV_one .u8 _) (by unfold maxLen; omega) (by omega) HB6.out.size ?_)
          intro v7 w7 hown hgrow hat
          have HT7 : Hid (Turns wr w7 [gb]) := HT6.out.trans (Turns.of_grown hgrow) (fun g hg => by
            rw [List.mem_singleton.1 hg]
            rcases HG6.out with h | h
            · left; rw [h]; simp
            · right; exact h)
          have HB7 : Hid (Below w.heap.size w w7) := HT7.out.below HB.out hsz (by simpa using hgb)
          have HK7 := Lib.hid (HT7.out.own HKs.out (fun g hg => by
            have e : gk = g := by injection hg
            subst e
            simpa using HNe.out))
          have HO7 : Hid (w7.ownsRow w.heap.size 5 1 v7 (14 + (recsB V ((keysOf V).take (j + 1))).length) (intsV .u8 (preB q V (j + 1)))) := by
            have e1 : 14 + (recsB V ((keysOf V).take (j + 1))).length = p + 3 + ln := by rw [recsB_take_succ V j hjk, ← HK.out, ← HLn.out, HP.out]; omega
            have e2 : intsV .u8 (preB q V (j + 1)) = intsV .u8 (preB q V j) ++ [.int .u8 (k : Nat), .int .u8 ((ln : Int) % 256), .int .u8 ((ln : Int) / 256)] ++ intsV .u8 (valOf V k) := by
              have hl2 : ln / 256 % 256 = ln / 256 := by omega
              rw [preB_succ q V j hjk, ← HK.out, ← HLn.out, hl2, intsV_append, intsV_append]
              rfl
            unfold Hid
            rw [e1, e2]; exact hown
          clear hown hgrow hat HO6 HS6
          refine wpList_nil (outQ_normal HT7.out ?_)
          refine wpSeqS_last ?_
          go_wp2
          go_roundw
          case rel => exact ⟨j + 1, by omega, by go_num, HO7.out, HK7.out, HB7.out⟩
          case measure => simp [intOf]; omega
        · obtain rfl : j = cnt := by omega
          have e0 : 14 + (recsB V ((keysOf V).take j)).length = (bodyB q V).length := by
            rw [HCn.out, List.take_length, bodyB, List.length_append, headB_length]
          have e1 : preB q V j = bodyB q V := by rw [preB, HCn.out, List.take_length]; rfl
          have ho := HO.out
          rw [e0, e1] at ho
          have hbn : (bodyB q V).length ≤ n := by rw [bodyB_length, ← HCn.out]; omega
          obtain ⟨ml, hml⟩ : ∃ ml, ml = (bodyB q V).length := ⟨_, rfl⟩
          have HMl := Lib.hid hml
          rw [← hml] at ho hbn
          obtain ⟨m, hm⟩ : ∃ m, m = n - ml := ⟨_, rfl⟩
          have HM := Lib.hid hm
          have hmi : (n : Int) - (ml : Int) = (m : Int) := by omega
          obtain ⟨Ab, cb, rfl, _, _⟩ := own_shape ho
          obtain ⟨v7, w7, hrun, hown, hgrow, hat⟩ := run_append_zeros (P := Tryz.prog) wr w.heap.size 22 3 22 5 i0 (.int .u8 0) .i64 .i64 1 1 Tryz.underlying22 Tryz.underlying3 hi hz0 hz1 hz2 rfl (by decide) _ ml _ ho m (by rw [zerosL_one _ rfl]; intro u hu; rw [(List.mem_replicate.1 hu).2]; rfl) (by unfold maxLen; omega) (by omega) hsz
          have HRun := Lib.hid hrun
          have hown' : w7.ownsRow w.heap.size 5 1 v7 n (intsV .u8 (pageB n q V)) := by
            have e2 : intsV .u8 (pageB n q V) = intsV .u8 (bodyB q V) ++ zerosL (.int .u8 0) m := by
              rw [zerosL_one _ rfl, pageB, intsV_append, ← HMl.out, ← HM.out]
              congr 1
              simp [intsV]
            have e3 : ml + m = n := by omega
            rw [e2, ← e3]; exact hown
          have HO7 := Lib.hid hown'
          have HB7 : Hid (Below w.heap.size w w7) := HB.out.grown hgrow hsz (own_ge ho)
          obtain ⟨A7, c7, rfl, _, _⟩ := own_shape hown'
          have c0 := keep_below HB.out _ _ HC.out
          have HBy := Lib.hid (MBytes_any (HH.out.below HB.out))
          clear hm hml e0 e1 ho hrun hown hown' hgrow hat HO HKs hLt hFb
          go_wp2_with fail
          refine HBy.out.mono ?_
          rintro e w8 ⟨rfl, rfl⟩
          go_wp2_with (at_builtin; refine Lib.wpList_append_run _ rfl (.tmp 59) (.tmp 67) 22 3 rfl _ _ rfl rfl _ _ HRun.out ?_)
          go_ret
          exact ⟨_, _, rfl, HO7.out, HB7.out⟩
end Go.Proofs.YthjomnaejhehoaaGreatDoor

namespace Go.Proofs.YthjomnaejhehoaaGreatDoor
open Go.RowKit Go.MapKept Go.ChangeMaps
set_option linter.unusedVariables false
set_option linter.unusedSimpArgs false

theorem int_info : (Tryz.prog.info? 3).map (fun i => (i.zero, i.size, i.bytes)) = some (some (.int .i64 0), 1, 8) := by kernel_rfl
theorem natsV_one (l : List Nat) : ∀ u ∈ natsV l, u.oneCell' = true := fun u hu => by
  obtain ⟨k, _, rfl⟩ := List.mem_map.1 hu
  rfl
theorem natsV_append (a b : List Nat) : natsV (a ++ b) = natsV a ++ natsV b := by simp [natsV]
set_option maxRecDepth 100000 in
set_option maxHeartbeats 1000000 in
theorem Grow_nil (m : Nat) (h0 : 0 < m) (hm : m ≤ 100000) (w : World) :
    Calls Tryz.prog 84 #[.slice none 0 0, .int .i64 m] w fun e w' => ∃ g c, e = .returned (.slice (some ⟨g, 0, none⟩) 0 c) ∧ w'.ownsRow w.heap.size 3 1 (.slice (some ⟨g, 0, none⟩) 0 c) 0 [] ∧ Below w.heap.size w w' := by
  obtain ⟨i0, hi, hz0, hz1, hz2⟩ := info_parts int_info
  obtain ⟨v7, w7, hrun, hown, hgrow, hat⟩ := run_append_zeros (P := Tryz.prog) w w.heap.size 26 3 26 3 i0 (.int .i64 0) .i64 .i64 1 8 Tryz.underlying26 Tryz.underlying3 hi hz0 hz1 hz2 rfl (by decide) (.slice none 0 0) 0 [] (World.ownsRow_nil _ _ _ _) m (by rw [zerosL_one _ rfl]; intro u hu; rw [(List.mem_replicate.1 hu).2]; rfl) (by unfold maxLen; omega) (by omega) (Nat.le_refl _)
  rw [Nat.zero_add] at hown
  obtain ⟨g, c, rfl, hg, _, hmc, hcm⟩ := own_at hown h0
  have HRun := Lib.hid hrun
  have HO : Hid (w7.ownsRow w.heap.size 3 1 (.slice (some ⟨g, 0, none⟩) 0 c) 0 []) := by
    obtain ⟨hB, cur, hr, hs, _, _, _⟩ := own_row hown
    exact ⟨rfl, .inr ⟨g, c, cur, rfl, hB, hr, Nat.zero_le _, hcm, hs, by simp⟩⟩
  have HB : Hid (Below w.heap.size w w7) := (Below.refl _ _).grown hgrow (Nat.le_refl _) (fun k hk => by cases hk)
  clear hrun hown hgrow hat
  go_enter Tryz.func84, Tryz.ntmps84
  go_wp2_with (at_builtin; refine Lib.wpList_append_run _ rfl (.tmp 20) (.tmp 21) 26 3 rfl _ _ rfl rfl _ _ HRun.out ?_)
  go_ret
  exact ⟨_, _, rfl, HO.out, HB.out⟩
set_option maxRecDepth 100000 in
set_option maxHeartbeats 4000000 in
theorem Concat_two (Z : Nat) (A1 A2 : Option Addr) (n1 n2 c1 c2 : Nat) (l1 l2 : List Nat) (h1 : l1.length = n1) (h2 : l2.length = n2) (hn : 0 < n1 + n2) (hn1 : n1 ≤ 1024) (hn2 : n2 ≤ 1024) (w : World)
    (hz0 : w.cell? ⟨Z, 0, none⟩ = some (.slice A1 n1 c1)) (hz1 : w.cell? ⟨Z, 1, none⟩ = some (.slice A2 n2 c2)) (s1 : Src w 1 A1 n1 (natsV l1)) (s2 : Src w 1 A2 n2 (natsV l2)) :
    Calls Tryz.prog 73 #[.slice (some ⟨Z, 0, none⟩) 2 2] w fun e w' => ∃ g c, e = .returned (.slice (some ⟨g, 0, none⟩) (n1 + n2) c) ∧ w'.ownsRow w.heap.size 3 1 (.slice (some ⟨g, 0, none⟩) (n1 + n2) c) (n1 + n2) (natsV (l1 ++ l2)) ∧ Below w.heap.size w w' := by
  obtain ⟨i0, hi, hz0', hz1', hz2'⟩ := info_parts int_info
  have HS1 := Lib.hid s1
  have HS2 := Lib.hid s2
  have hgr := Grow_nil (n1 + n2) hn (by omega) w
  rw [show ((n1 + n2 : Nat) : Int) = (n1 : Int) + (n2 : Int) by omega] at hgr
  have HGr := Lib.hid hgr
  have HLs := Lib.hid (And.intro h1 h2)
  have HZ := Lib.hid (And.intro hz0 hz1)
  clear s1 s2 h1 h2 hgr
  go_enter Tryz.func73, Tryz.ntmps73
  go_wp2
  go_loop [3, 11] (fun s i => (s = .int .i64 0 ∧ i = .int .i64 0) ∨ (s = .int .i64 n1 ∧ i = .int .i64 1) ∨ (s = .int .i64 ((n1 : Int) + (n2 : Int)) ∧ i = .int .i64 2)) (fun _ i => 2 - (intOf i).toNat)
  case atStart => exact .inl ⟨rfl, rfl⟩
  case round =>
    rcases hrel with ⟨rfl, rfl⟩ | ⟨rfl, rfl⟩ | ⟨rfl, rfl⟩
    · go_wp2
      go_round
      case rel => exact .inr (.inl ⟨rfl, rfl⟩)
      case measure => simp [intOf]
    · go_wp2
      go_round
      case rel => exact .inr (.inr ⟨rfl, rfl⟩)
      case measure => simp [intOf]
    · clear hz0 hz1
      go_wp2_with fail
      refine HGr.out.mono ?_
      rintro e w1 ⟨g, c, rfl, ho, hb⟩
      have HO1 := Lib.hid ho
      have HB1 := Lib.hid hb
      clear ho hb HGr
      go_wp2
      go_loopw [6, 27] (fun v i wr => ∃ k : Nat, i = .int .i64 k ∧ Below w.heap.size w wr ∧ ((k = 0 ∧ wr.ownsRow w.heap.size 3 1 v 0 []) ∨ (k = 1 ∧ wr.ownsRow w.heap.size 3 1 v n1 (natsV l1)) ∨ (k = 2 ∧ wr.ownsRow w.heap.size 3 1 v (n1 + n2) (natsV (l1 ++ l2))))) (fun _ i _ => 2 - (intOf i).toNat)
      case atStart => exact ⟨0, rfl, HB1.out, .inl ⟨rfl, HO1.out⟩⟩
      case round =>
        obtain ⟨k, rfl, hb, hk⟩ := hrel
        have HB := Lib.hid hb
        have hsz := hb.size
        clear hb HO1 HB1
        have q0 := keep_below HB.out _ _ HZ.out.1
        have q1 := keep_below HB.out _ _ HZ.out.2
        rcases hk with ⟨rfl, ho⟩ | ⟨rfl, ho⟩ | ⟨rfl, ho⟩
        · have HO := Lib.hid ho
          have HSr := Lib.hid (HS1.out.keep (keep_below HB.out))
          clear ho
          go_wp2_with (at_builtin; refine wpList_append_src _ rfl (.tmp 31) (.tmp 32) 26 rfl w.heap.size 3 i0 (.int .i64 0) 1 8 Tryz.underlying26 hi hz0' hz1' hz2' rfl (by decide) _ 0 [] rfl HO.out A1 n1 c1 (natsV l1) rfl HSr.out (natsV_one l1) (by unfold maxLen; omega) (by omega) hsz ?_; intro v' w2 hown hgrow hat)
          rw [Nat.zero_add, List.nil_append] at hown
          have HO2 := Lib.hid hown
          have HB2 : Hid (Below w.heap.size w w2) := HB.out.grown hgrow hsz (own_ge HO.out)
          clear hown hgrow hat
          go_roundw
          case rel => exact ⟨1, rfl, HB2.out, .inr (.inl ⟨rfl, HO2.out⟩)⟩
          case measure => simp [intOf]
        · have HO := Lib.hid ho
          have HSr := Lib.hid (HS2.out.keep (keep_below HB.out))
          clear ho
          go_wp2_with (at_builtin; refine wpList_append_src _ rfl (.tmp 31) (.tmp 32) 26 rfl w.heap.size 3 i0 (.int .i64 0) 1 8 Tryz.underlying26 hi hz0' hz1' hz2' rfl (by decide) _ n1 (natsV l1) rfl HO.out A2 n2 c2 (natsV l2) rfl HSr.out (natsV_one l2) (by unfold maxLen; omega) (by omega) hsz ?_; intro v' w2 hown hgrow hat)
          rw [← natsV_append] at hown
          have HO2 := Lib.hid hown
          have HB2 : Hid (Below w.heap.size w w2) := HB.out.grown hgrow hsz (own_ge HO.out)
          clear hown hgrow hat
          go_roundw
          case rel => exact ⟨2, rfl, HB2.out, .inr (.inr ⟨rfl, HO2.out⟩)⟩
          case measure => simp [intOf]
        · obtain ⟨g, c, rfl, _⟩ := own_at ho hn
          have HO := Lib.hid ho
          clear ho
          go_wp2
          go_ret
          exact ⟨_, _, rfl, HO.out, HB.out⟩
end Go.Proofs.YthjomnaejhehoaaGreatDoor
namespace Go.Proofs.YthjomnaejhehoaaGreatDoor
open Go.RowKit Go.MapKept Go.ChangeMaps
set_option linter.unusedVariables false
set_option linter.unusedSimpArgs false

theorem idxFrom_bd (x : Int) : ∀ (zs : List Int) (i : Nat), Lib.idxFrom zs x i = -1 ∨ ∃ j : Nat, i ≤ j ∧ j < i + zs.length ∧ Lib.idxFrom zs x i = j
  | [], i => .inl rfl
  | z :: zs, i => by
    unfold Lib.idxFrom
    by_cases h : z = x
    · right; exact ⟨i, by omega, by simp, by simp [h]⟩
    · rcases idxFrom_bd x zs (i + 1) with h1 | ⟨j, h1, h2, h3⟩
      · left; simp [h, h1]
      · right; exact ⟨j, by omega, by simp; omega, by simp [h, h3]⟩
def intsL (l : List Nat) : List Int := l.map fun (k : Nat) => (k : Int)
def posOf (l : List Nat) (a : Int) : Nat := (Lib.idxOf (intsL l) a).toNat
def ordOf (l : List Nat) (a : Int) : List Nat := l.drop (posOf l a) ++ l.take (posOf l a)
theorem ordOf_perm (l : List Nat) (a : Int) : (ordOf l a).Perm l := by
  unfold ordOf
  refine List.perm_append_comm.trans ?_
  rw [List.take_append_drop]
theorem ordOf_length (l : List Nat) (a : Int) : (ordOf l a).length = l.length := (ordOf_perm l a).length_eq
theorem posOf_lt (l : List Nat) (a : Int) (h : 0 < l.length) : posOf l a < l.length := by
  unfold posOf Lib.idxOf
  rcases idxFrom_bd a (intsL l) 0 with h1 | ⟨j, _, h2, h3⟩
  · rw [h1]; exact h
  · rw [h3]; simp [intsL] at h2; simpa using h2
theorem Index_any (b n c : Nat) (l : List Nat) (x : Int) (hl : l.length = n) (hn : n ≤ 1024) (w : World) (hc : ∀ j, j < n → w.cell? ⟨b, j, none⟩ = some (.int .i64 (l.getD j 0 : Nat))) :
    Calls Tryz.prog 72 #[.slice (some ⟨b, 0, none⟩) n c, .int .i64 x] w fun e w' => e = .returned (.int .i64 (Lib.idxOf (intsL l) x)) ∧ w' = w := by
  have hlen : (intsL l).length = n := by simp [intsL, hl]
  have h := Go.Proofs.AnyG.slices_Index_int Tryz.indexA b 0 n c (intsL l) x w (by omega) (by omega) (fun j hj => by
    rw [Nat.zero_add, hc j (by omega)]
    congr 3
    rw [List.getD_eq_getElem?_getD, List.getD_eq_getElem?_getD]
    simp [intsL]
    rw [List.getElem?_eq_getElem (by omega)]; rfl)
  rw [← hlen, List.take_length, hlen] at h
  exact h
set_option maxRecDepth 100000 in
set_option maxHeartbeats 2000000 in
theorem order_any {w : World} {B St Bk Vb M : Nat} {l : List Nat} {c : Nat} {a : Int} {q : Nat} {V : Vals} (h : StIs w B St Bk Vb M l c a q V) (hne : 0 < l.length) :
    Calls Tryz.prog 62 #[.pointer (some ⟨St, 0, none⟩)] w fun e w' => ∃ g c', e = .returned (.slice (some ⟨g, 0, none⟩) l.length c') ∧ w'.ownsRow w.heap.size 3 1 (.slice (some ⟨g, 0, none⟩) l.length c') l.length (natsV (ordOf l a)) ∧ Below w.heap.size w w' := by
  obtain ⟨_, c1, c2, _, _⟩ := h.cells
  obtain ⟨cur, hr, hlc, hcm, hcell⟩ := h.bl_row
  have hfew := h.few
  have HIx : Hid (∀ k, Calls Tryz.prog 72 #[.slice (some ⟨Bk, 0, none⟩) l.length c, .int .i64 a] (w.drewN k) fun e w' => e = .returned (.int .i64 (Lib.idxOf (intsL l) a)) ∧ w' = w.drewN k) := fun k => Index_any Bk l.length c l a rfl hfew (w.drewN k) hcell
  have hpos := posOf_lt l a hne
  obtain ⟨i, hi⟩ : ∃ i, i = posOf l a := ⟨_, rfl⟩
  have HI := Lib.hid hi
  rw [← hi] at hpos
  obtain ⟨n, hn⟩ : ∃ n, n = l.length := ⟨_, rfl⟩
  have HN := Lib.hid hn
  obtain ⟨x, hx⟩ : ∃ x, x = Lib.idxOf (intsL l) a := ⟨_, rfl⟩
  have hxi : x = -1 ∧ i = 0 ∨ x = (i : Int) := by
    rcases idxFrom_bd a (intsL l) 0 with h1 | ⟨j, _, h2, h3⟩
    · left
      have e : x = -1 := hx.trans h1
      exact ⟨e, by rw [hi, posOf, ← hx, e]; rfl⟩
    · right
      have e : x = (j : Int) := hx.trans h3
      rw [hi, posOf, ← hx, e]; simp
  rw [← hx] at HIx
  rw [← hn] at HIx hpos hlc hfew c1 ⊢
  have HSr : Hid (∀ k, k ≤ n → ∀ w', (∀ p v, w.cell? p = some v → w'.cell? p = some v) → Src w' 1 (some ⟨Bk, k, none⟩) (n - k) (natsV (l.drop k))) := fun k hk w' hkeep => by
    refine ⟨by rw [natsV_length, List.length_drop, ← hn]; omega, fun _ => ⟨_, rfl, fun j u hu => ?_⟩⟩
    have hj : j < (l.drop k).length := by
      have := (List.getElem?_eq_some_iff.1 hu).1
      rwa [natsV_length] at this
    rw [natsV_get _ j hj] at hu
    injection hu with hu
    subst hu
    rw [addr_add]
    refine hkeep _ _ ?_
    rw [List.length_drop] at hj
    rw [hcell (k + j) (by omega)]
    congr 3
    rw [List.getD_eq_getElem?_getD, List.getD_eq_getElem?_getD, List.getElem?_drop]
  have HSt : Hid (∀ k, k ≤ n → ∀ w', (∀ p v, w.cell? p = some v → w'.cell? p = some v) → Src w' 1 (some ⟨Bk, 0, none⟩) k (natsV (l.take k))) := fun k hk w' hkeep => by
    refine ⟨by rw [natsV_length, List.length_take, ← hn]; omega, fun _ => ⟨_, rfl, fun j u hu => ?_⟩⟩
    have hj : j < (l.take k).length := by
      have := (List.getElem?_eq_some_iff.1 hu).1
      rwa [natsV_length] at this
    rw [natsV_get _ j hj] at hu
    injection hu with hu
    subst hu
    rw [addr_add, Nat.zero_add]
    refine hkeep _ _ ?_
    rw [List.length_take] at hj
    rw [hcell j (by omega)]
    congr 3
    rw [List.getD_eq_getElem?_getD, List.getD_eq_getElem?_getD, List.getElem?_take, if_pos (by omega)]
  have hsc : i < c := by omega
  have hmax : max x 0 = (i : Int) := by omega
  have HX := Lib.hid hxi
  clear h hr hi hn hx hcell hxi
  go_enter Tryz.func62, Tryz.ntmps62
  go_wp2
  go_quiet ((go_at_call 72; exact Calls.quiet_of_same (HIx.out _)))
  go_wp2
  have k1 : ∀ t : Kept (w.drewN nq) [], t.u.cell? ⟨St, 1, none⟩ = some (.slice (some ⟨Bk, 0, none⟩) n c) := fun t => t.h.cell (show (w.drewN nq).cell? _ = _ from c1) (by simp)
  (refine region_kept ([]) [0, 1, 2, 3, 4, 5, 6, 7, 8, 9, 10, 11] [12, 13, 14] (by kernel_rfl) (by kernel_rfl) (fun _ _ _ _ _ h => h) ?_; simp only [List.filterMap_cons, List.getElem?_cons_zero, List.getElem?_cons_succ, List.filterMap_nil]; (repeat ((show wpQuiet _ _ _ _ (_ :: _) _); go_big_quiet_step (fail))); refine wpQuiet_nil ?_)
  clear k1
  refine wpSeqS_step ?_
  go_wp2_with fail
  obtain ⟨wA, hwA⟩ : ∃ wA, wA = (w.drewN (nq + 1)).alloc (.cells #[.slice (some ⟨Bk, i, none⟩) (n - i) (c - i), .slice (some ⟨Bk, 0, none⟩) i c] 26) := ⟨_, rfl⟩
  have HBA : Hid (Below w.heap.size w wA) := by unfold Hid; rw [hwA]; exact (below_drewN0 (Below.refl _ _) _).alloc (Nat.le_refl _) _
  have hrA : Row wA w.heap.size 26 #[.slice (some ⟨Bk, i, none⟩) (n - i) (c - i), .slice (some ⟨Bk, 0, none⟩) i c] := by rw [hwA]; exact Row.fresh _ _ _
  have HTA : Hid (Turns (w.drewN nq) wA []) := by unfold Hid; rw [hwA]; exact ((Turns.refl (w.drewN nq) []).drewN 1).alloc _
  have hk := keep_below HBA.out
  have HCo := Lib.hid (Concat_two w.heap.size (some ⟨Bk, i, none⟩) (some ⟨Bk, 0, none⟩) (n - i) i (c - i) c (l.drop i) (l.take i) (by rw [List.length_drop, ← HN.out]) (by rw [List.length_take, ← HN.out]; omega) (by omega) (by omega) (by omega) wA (hrA.cell 0) (hrA.cell 1) (HSr.out i (by omega) wA hk) (HSt.out i (by omega) wA hk))
  have hni : n - i + i = n := by omega
  have hord : l.drop i ++ l.take i = ordOf l a := by rw [ordOf, ← HI.out]
  rw [hni, hord] at HCo
  rw [← hwA]
  clear hwA hrA hk hni hord
  refine outQ_normal HTA.out ?_
  refine wpSeqS_step ?_
  go_wp2_with fail
  refine HCo.out.mono ?_
  rintro e w2 ⟨g, c', rfl, ho, hb⟩
  have HO := Lib.hid (own_mono ho HBA.out.size)
  have HB : Hid (Below w.heap.size w w2) := HBA.out.trans (hb.mono HBA.out.size)
  have HT2 : Hid (Turns (w.drewN nq) w2 []) := HTA.out.then_below hb
  clear HCo ho hb
  go_wp2_with fail
  refine outQ_normal HT2.out ?_
  refine wpSeqS_last ?_
  go_wp2
  go_ret
  exact ⟨_, _, rfl, HO.out, HB.out⟩
end Go.Proofs.YthjomnaejhehoaaGreatDoor

namespace Go.Proofs.YthjomnaejhehoaaGreatDoor
open Go.RowKit
set_option linter.unusedVariables false
set_option linter.unusedSimpArgs false

/-- What a page reads as. -/
def Fl.rd (S : Fl) (n k p : Nat) : Option (List Nat) := if howOf (S.raw k p) S.chunks = 2 then some ((rBytes (S.raw k p) S.chunks).take n) else none
def newP (S : Fl) (n k : Nat) : Nat → Option (List Nat)
  | 0 => none
  | m + 1 => match S.rd n k m with
    | some d => some d
    | none => newP S n k m
def Fl.newest (S : Fl) (n k : Nat) : Option (List Nat) := if (S.b k).half then none else newP S n k (S.b k).next
/-- A block's newest page is of these records, or there is none. -/
def NwIs (S : Fl) (n k : Nat) : Option (Nat × Vals) → Prop
  | none => S.newest n k = none
  | some x => S.newest n k = some (pageB n x.1 x.2) ∧ x.1 < 9223372036854775808 ∧ OkV x.2 ∧ FitV n x.2
theorem newP_congr {S S' : Fl} {n k : Nat} : ∀ m, (∀ p, p < m → S'.rd n k p = S.rd n k p) → newP S' n k m = newP S n k m
  | 0, _ => rfl
  | m + 1, h => by rw [newP, newP, h m (by omega), newP_congr m (fun p hp => h p (by omega))]
theorem rd_congr {S S' : Fl} {n k p : Nat} (h : (S'.b k).pg p = (S.b k).pg p) (hc : S'.chunks = S.chunks) : S'.rd n k p = S.rd n k p := by
  unfold Fl.rd Fl.raw
  rw [h, hc]
theorem newest_congr {S S' : Fl} {n k : Nat} (h : S'.b k = S.b k) (hc : S'.chunks = S.chunks) : S'.newest n k = S.newest n k := by
  unfold Fl.newest
  rw [h, newP_congr _ (fun p _ => rd_congr (by rw [h]) hc)]
theorem NwIs.congr {S S' : Fl} {n k : Nat} {x : Option (Nat × Vals)} (hx : NwIs S n k x) (h : S'.newest n k = S.newest n k) : NwIs S' n k x := by
  cases x with
  | none => exact (show S'.newest n k = none by rw [h]; exact hx)
  | some x => exact ⟨by rw [h]; exact hx.1, hx.2⟩
/-! How it turns. -/
theorem erased_b (S : Fl) (k : Nat) (one : Bool) : (S.erased k one).b k = { S.b k with pg := fun _ => none, next := 0, half := false, one := one } := by
  show (S.setB k _).b k = _
  rw [Fl.setB_self]
theorem erased_ne (S : Fl) {k i : Nat} (one : Bool) (h : i ≠ k) : (S.erased k one).b i = S.b i := by
  show (S.setB k _).b i = _
  rw [Fl.setB_ne _ _ h]
theorem newest_erased (S : Fl) (n k : Nat) (one : Bool) : (S.erased k one).newest n k = none := by
  unfold Fl.newest
  rw [erased_b]
  simp [newP]
theorem cutE_ne (S : Fl) {k i : Nat} (h : i ≠ k) : (S.cutE k).b i = S.b i := by
  unfold Fl.cutE
  split
  · rfl
  · show (S.setB k _).b i = _
    rw [Fl.setB_ne _ _ h]
theorem cutE_chunks (S : Fl) (k : Nat) : (S.cutE k).chunks = S.chunks := by unfold Fl.cutE; split <;> rfl
theorem cutE_nb (S : Fl) (k : Nat) : (S.cutE k).nb = S.nb := by unfold Fl.cutE; split <;> rfl
theorem cutE_pages (S : Fl) (k : Nat) : (S.cutE k).pages = S.pages := by unfold Fl.cutE; split <;> rfl
theorem cutE_failed (S : Fl) (k i : Nat) : ((S.cutE k).b i).failed = (S.b i).failed := by
  by_cases h : i = k
  · subst h
    unfold Fl.cutE
    split
    · rfl
    · show ((S.setB i _).b i).failed = _
      rw [Fl.setB_self]
  · rw [cutE_ne S h]
theorem newest_cutE (S : Fl) (n k : Nat) : (S.cutE k).newest n k = S.newest n k ∨ (S.cutE k).newest n k = none := by
  unfold Fl.cutE
  split
  · exact .inl (newest_congr rfl rfl)
  · right
    unfold Fl.newest
    have e : (({ S.halfE k with off := true, armed := 0 } : Fl).b k).half = true := by
      show ((S.setB k _).b k).half = true
      rw [Fl.setB_self]
    rw [e]; rfl
theorem wrote_ne (S : Fl) {k i : Nat} (r : List Nat) (h : i ≠ k) : (S.wrote k r).b i = S.b i := by
  show (S.setB k _).b i = _
  rw [Fl.setB_ne _ _ h]
theorem wrote_failed (S : Fl) (k i : Nat) (r : List Nat) : ((S.wrote k r).b i).failed = (S.b i).failed := by
  by_cases h : i = k
  · subst h
    show ((S.setB i (progB S i r S.chunks)).b i).failed = _
    rw [Fl.setB_self]
    unfold progB
    split <;> rfl
  · rw [wrote_ne S r h]
theorem torn_ne (S : Fl) {k i : Nat} (r : List Nat) (h : i ≠ k) : (S.torn k r).b i = S.b i := by
  show (S.setB k _).b i = _
  rw [Fl.setB_ne _ _ h]
theorem torn_failed (S : Fl) (k i : Nat) (r : List Nat) : ((S.torn k r).b i).failed = (S.b i).failed := by
  by_cases h : i = k
  · subst h
    show ((S.setB i (progB S i r (S.armed - 1))).b i).failed = _
    rw [Fl.setB_self]
    unfold progB
    split <;> rfl
  · rw [torn_ne S r h]
theorem erased_failed (S : Fl) (k i : Nat) (one : Bool) : ((S.erased k one).b i).failed = (S.b i).failed := by
  by_cases h : i = k
  · subst h; rw [erased_b]
  · rw [erased_ne S one h]
theorem newest_wrote (S : Fl) (n k : Nat) (d : List Nat) (hc : 1 ≤ S.chunks) (hd : d.length = n) (hn : n ≤ 64 * S.chunks) (h256 : ∀ u ∈ d, u < 256) (hh : (S.b k).half = false) : (S.wrote k (laid d S.chunks)).newest n k = some d := by
  have hr := laid_raw (d := d) (c := S.chunks) (by omega) h256
  have hb := wrote_b S k (laid d S.chunks) hc hr.1
  have hch : (S.wrote k (laid d S.chunks)).chunks = S.chunks := rfl
  unfold Fl.newest
  rw [hb]
  simp only [hh]
  rw [if_neg (by simp), newP]
  have e : (S.wrote k (laid d S.chunks)).rd n k (S.b k).next = some d := by
    unfold Fl.rd
    rw [wrote_raw S k _ hc hr.1, hch, laid_how hc (by omega), if_pos rfl]
    congr 1
    rw [← hd]
    exact laid_read (by omega) h256
  rw [e]
theorem newest_torn (S : Fl) (n k : Nat) (d : List Nat) (hd : d.length ≤ 64 * S.chunks) (ha : S.armed ≤ S.chunks) : (S.torn k (laid d S.chunks)).newest n k = S.newest n k := by
  have hb : (S.torn k (laid d S.chunks)).b k = progB S k (laid d S.chunks) (S.armed - 1) := by
    show (S.setB k _).b k = _
    rw [Fl.setB_self]
  have hch : (S.torn k (laid d S.chunks)).chunks = S.chunks := rfl
  by_cases h0 : S.armed - 1 = 0
  · refine newest_congr ?_ hch
    rw [hb, h0, progB, if_pos rfl]
  · unfold Fl.newest
    have hpg : ∀ p, p < (S.b k).next → ((S.torn k (laid d S.chunks)).b k).pg p = (S.b k).pg p := fun p hp => by
      rw [hb, progB, if_neg h0]
      simp only
      rw [if_neg (by omega)]
    have hold : newP (S.torn k (laid d S.chunks)) n k (S.b k).next = newP S n k (S.b k).next := newP_congr _ (fun p hp => rd_congr (hpg p hp) hch)
    have hnew : (S.torn k (laid d S.chunks)).rd n k (S.b k).next = none := by
      have e : (S.torn k (laid d S.chunks)).raw k (S.b k).next = part (laid d S.chunks) S.chunks (S.armed - 1) := by
        unfold Fl.raw
        rw [hb, progB, if_neg h0]
        simp
      have hst := part_state (d := d) (c := S.chunks) (j := S.armed - 1) hd (by omega) (by omega)
      unfold Fl.rd
      rw [e, hch]
      unfold howOf
      rw [hst]
      simp
    have hnx : ((S.torn k (laid d S.chunks)).b k).next = (S.b k).next + 1 := by rw [hb, progB, if_neg h0]
    have hhf : ((S.torn k (laid d S.chunks)).b k).half = (S.b k).half := by rw [hb, progB, if_neg h0]
    rw [hnx, hhf, newP, hnew, hold]
/-! A store over a flash. -/
structure Sl (S : Fl) (n : Nat) (bad : Nat → Bool) (l : List Nat) (a q : Nat) (V : Vals) (G : Nat → Option (Nat × Vals)) : Prop where
  mem : a ∈ l
  lt : ∀ k ∈ l, k < S.nb
  new : ∀ k ∈ l, NwIs S n k (G k)
  at' : G a = some (q, V)
  less : ∀ k ∈ l, k ≠ a → ∀ q' V', G k = some (q', V') → q' < q
  bad : ∀ k, bad k = true → (S.b k).failed = true
  half : (S.b a).half = false
def updG (G : Nat → Option (Nat × Vals)) (k : Nat) (x : Option (Nat × Vals)) : Nat → Option (Nat × Vals) := fun i => if i = k then x else G i
theorem half_of_new {S : Fl} {n k : Nat} {x : Nat × Vals} (h : NwIs S n k (some x)) : (S.b k).half = false := by
  cases hh : (S.b k).half with
  | false => rfl
  | true =>
    have h1 := h.1
    unfold Fl.newest at h1
    rw [hh] at h1
    simp at h1
section
variable {S : Fl} {n : Nat} {bad : Nat → Bool} {l : List Nat} {a q : Nat} {V : Vals} {G : Nat → Option (Nat × Vals)}
theorem Sl.okV (h : Sl S n bad l a q V G) : OkV V ∧ FitV n V ∧ q < 9223372036854775808 := by
  have h1 := h.new a h.mem
  rw [h.at'] at h1
  exact ⟨h1.2.2.1, h1.2.2.2, h1.2.1⟩
/-- What lies in its blocks is as it was. -/
theorem Sl.same {S' : Fl} {bad' : Nat → Bool} (h : Sl S n bad l a q V G) (hb : ∀ k, S'.b k = S.b k) (hc : S'.chunks = S.chunks) (hn : S'.nb = S.nb) (hbad : ∀ k, bad' k = true → (S.b k).failed = true) : Sl S' n bad' l a q V G :=
  ⟨h.mem, by rw [hn]; exact h.lt, fun k hk => (h.new k hk).congr (newest_congr (hb k) hc), h.at', h.less, fun k hk => by rw [hb]; exact hbad k hk, by rw [hb]; exact h.half⟩
/-- Another block of it than the newest turned: what it holds is as it was, or none. -/
theorem Sl.other {S' : Fl} {bad' : Nat → Bool} {k : Nat} (h : Sl S n bad l a q V G) (hk : k ≠ a) (hb : ∀ i, i ≠ k → S'.b i = S.b i) (hc : S'.chunks = S.chunks) (hn : S'.nb = S.nb) (hbad : ∀ i, bad' i = true → (S'.b i).failed = true) (hnew : S'.newest n k = S.newest n k ∨ S'.newest n k = none) : ∃ G', Sl S' n bad' l a q V G' := by
  rcases hnew with e | e
  · exact ⟨G, h.mem, by rw [hn]; exact h.lt, fun i hi => by
      by_cases ei : i = k
      · subst ei; exact (h.new i hi).congr e
      · exact (h.new i hi).congr (newest_congr (hb i ei) hc), h.at', h.less, hbad, by rw [hb a (Ne.symm hk)]; exact h.half⟩
  · refine ⟨updG G k none, h.mem, by rw [hn]; exact h.lt, fun i hi => ?_, ?_, fun i hi hia q' V' hg => ?_, hbad, by rw [hb a (Ne.symm hk)]; exact h.half⟩
    · unfold updG
      by_cases ei : i = k
      · rw [if_pos ei, ei]; exact e
      · rw [if_neg ei]; exact (h.new i hi).congr (newest_congr (hb i ei) hc)
    · unfold updG; rw [if_neg (Ne.symm hk)]; exact h.at'
    · unfold updG at hg
      by_cases ei : i = k
      · rw [if_pos ei] at hg; cases hg
      · rw [if_neg ei] at hg; exact h.less i hi hia q' V' hg
/-- A block of it holds the newest page now. -/
theorem Sl.newer {S' : Fl} {bad' : Nat → Bool} {k : Nat} {V' : Vals} (h : Sl S n bad l a q V G) (hk : k ∈ l) (hb : ∀ i, i ≠ k → S'.b i = S.b i) (hc : S'.chunks = S.chunks) (hn : S'.nb = S.nb) (hbad : ∀ i, bad' i = true → (S'.b i).failed = true)
    (hnew : S'.newest n k = some (pageB n (q + 1) V')) (hV : OkV V') (hF : FitV n V') (hq : q + 1 < 9223372036854775808) : ∃ G', Sl S' n bad' l k (q + 1) V' G' := by
  have hnk : NwIs S' n k (some (q + 1, V')) := ⟨hnew, hq, hV, hF⟩
  refine ⟨updG G k (some (q + 1, V')), hk, by rw [hn]; exact h.lt, fun i hi => ?_, by simp [updG], fun i hi hik q' V'' hg => ?_, hbad, half_of_new hnk⟩
  · unfold updG
    by_cases ei : i = k
    · rw [if_pos ei, ei]; exact hnk
    · rw [if_neg ei]; exact (h.new i hi).congr (newest_congr (hb i ei) hc)
  · unfold updG at hg
    rw [if_neg hik] at hg
    by_cases eia : i = a
    · rw [eia, h.at'] at hg; injection hg with hg; injection hg with e1 e2; omega
    · have := h.less i hi eia q' V'' hg; omega
end
end Go.Proofs.YthjomnaejhehoaaGreatDoor
