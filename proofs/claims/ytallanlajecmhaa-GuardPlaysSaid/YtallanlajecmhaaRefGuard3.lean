/- locketref14.Lasting; Load of both. -/
import Derived.Test.YtallanlajecmhaaRefGuard2
namespace Go.Proofs.Ytallanlajecmhaa
open Go.RowKit
set_option linter.unusedVariables false
set_option linter.unusedSimpArgs false

theorem lastK_snoc (l : List Nat) (x : Nat) : lastK (l ++ [x]) = lastK l ++ [if x = 2 then 0 else x] := by simp [lastK]
set_option maxHeartbeats 1000000 in
theorem refLasting_any {n : Nat} (h0 : 0 < n) (hn : n ≤ 256) (G L c : Nat) (ks : List Nat) (B : Nat) (w : World) (h : RHeld w B G L c ks) (hk : Kinds n ks) :
    Calls Try.prog 33 #[.pointer (some ⟨G, 0, none⟩)] w fun e w' => ∃ L' c', e = .returned (.slice (some ⟨L', 0, none⟩) ks.length c') ∧ w'.ownsRow w.heap.size 5 1 (.slice (some ⟨L', 0, none⟩) ks.length c') ks.length (intsV .u8 (lastK ks)) ∧ Below w.heap.size w w' := by
  obtain ⟨i0, hi, hz0, hz1, hz2⟩ := info_parts u8_info
  have hlen : ks.length ≤ 256 := by rw [hk.1]; exact hn
  have hl0 : 0 < ks.length := by rw [hk.1]; exact h0
  have hgc := h.cellG
  have hG := h.gLt
  have hL := h.hL.2.1
  have HC : Hid (∀ i, i < ks.length → w.cell? ⟨L, i, none⟩ = some (.int .i64 (ks.getD i 0 : Nat))) := h.cell
  have HK := Lib.hid hk
  clear h hk
  go_enter Try.func33, Try.ntmps33
  go_wp2
  go_loopw [3, 4] (fun v i wr => ∃ k : Nat, k ≤ ks.length ∧ i = .int .i64 k ∧ wr.ownsRow w.heap.size 5 1 v k (intsV .u8 (lastK (ks.take k))) ∧ Below w.heap.size w wr) (fun _ i _ => ks.length - (intOf i).toNat)
  case atStart => exact ⟨0, by omega, rfl, World.ownsRow_nil _ _ _ _, Below.refl _ _⟩
  case round =>
    obtain ⟨k, hk, rfl, hown, hb⟩ := hrel
    have hgc' : wr.cell? ⟨G, 0, none⟩ = some (.slice (some ⟨L, 0, none⟩) ks.length c) := (hb.cell (p := ⟨G, 0, none⟩) hG).trans hgc
    have HB := Lib.hid hb
    by_cases hkl : k < ks.length
    · have hc : wr.cell? ⟨L, k, none⟩ = some (.int .i64 (ks.getD k 0 : Nat)) := (hb.cell (p := ⟨L, k, none⟩) hL).trans (HC.out k hkl)
      have hx : ks.getD k 0 < 4 := HK.out.2 _ (getD_mem _ _ hkl)
      have HT : Hid (lastK (ks.take (k + 1)) = lastK (ks.take k) ++ [if ks.getD k 0 = 2 then 0 else ks.getD k 0]) := by unfold Hid; rw [take_getD ks k hkl, lastK_snoc]
      have hsz := hb.size
      clear hb hgc HC HK
      generalize ks.getD k 0 = x at *
      by_cases h2 : x = 2
      · subst h2
        rw [if_pos rfl] at HT
        go_wp2_with (at_builtin; refine wpList_append_src _ rfl _ _ 44 rfl w.heap.size 5 i0 (.int .u8 0) 1 1 Try.underlying44 hi hz0 hz1 hz2 rfl (by decide) _ _ _ rfl (hown.alloc _) (some ⟨wr.heap.size, 0, none⟩) 1 1 [.int .u8 ((0 : Nat) : Int)] rfl ?c1 ?c2 ?c3 ?c4 ?c5 ?_)
        case c1 =>
          refine Src.of_at rfl (fun j u hu => ?_)
          match j, hu with
          | 0, hu => simp at hu; subst hu; simp [Addr.add, go_sem]
        case c2 => first | rfl | (intro u hu; simp at hu; subst hu; rfl)
        case c3 => unfold maxLen; omega
        case c4 => omega
        case c5 => simp; omega
        · intro v' w2 hown' hgrow hat
          have Hown := Lib.hid hown'
          have Hgrow := Lib.hid hgrow
          have Holt := Lib.hid hown.lt
          clear hown hown' hgrow hat
          go_wp2_with fail
          go_roundw
          case rel =>
            refine ⟨k + 1, by omega, by go_num, ?_, ?_⟩
            · rw [HT.out, intsV_append]; exact Hown.out
            · have h1 : Below w.heap.size w (wr.alloc (.cells #[.int .u8 0] 5)) := HB.out.alloc HB.out.size _
              exact h1.grown Hgrow.out h1.size (fun g hg => (Holt.out g hg).1)
          case measure => simp [intOf]; omega
      · rw [if_neg h2] at HT
        have hw : IntKind.u8.wrap (x : Int) = (x : Int) := by rw [IntKind.wrap_u8]; omega
        go_wp2_with (at_builtin; refine wpList_append_src _ rfl _ _ 44 rfl w.heap.size 5 i0 (.int .u8 0) 1 1 Try.underlying44 hi hz0 hz1 hz2 rfl (by decide) _ _ _ rfl (hown.alloc _) (some ⟨wr.heap.size, 0, none⟩) 1 1 [.int .u8 (x : Int)] rfl ?d1 ?d2 ?d3 ?d4 ?d5 ?_)
        case d1 =>
          refine Src.of_at rfl (fun j u hu => ?_)
          match j, hu with
          | 0, hu => simp at hu; subst hu; simp [Addr.add, go_sem, hw]
        case d2 => first | rfl | (intro u hu; simp at hu; subst hu; rfl)
        case d3 => unfold maxLen; omega
        case d4 => omega
        case d5 => simp; omega
        · intro v' w2 hown' hgrow hat
          have Hown := Lib.hid hown'
          have Hgrow := Lib.hid hgrow
          have Holt := Lib.hid hown.lt
          clear hown hown' hgrow hat
          go_wp2_with fail
          go_roundw
          case rel =>
            refine ⟨k + 1, by omega, by go_num, ?_, ?_⟩
            · rw [HT.out, intsV_append]; exact Hown.out
            · refine Below.grown ?_ Hgrow.out ?_ (fun g hg => (Holt.out g hg).1)
              · exact HB.out.alloc HB.out.size _
              · have := HB.out.size; simp; omega
          case measure => simp [intOf]; omega
    · obtain rfl : k = ks.length := by omega
      rw [List.take_length] at hown
      obtain ⟨L', c', rfl, _, _, _, _⟩ := own_at hown hl0
      have HO := Lib.hid hown
      clear hown hb
      go_wp2
      go_ret
      exact ⟨_, _, rfl, HO.out, HB.out⟩
end Go.Proofs.Ytallanlajecmhaa
