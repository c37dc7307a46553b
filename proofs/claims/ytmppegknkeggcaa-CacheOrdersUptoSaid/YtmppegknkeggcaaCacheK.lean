/- vcache: Flush. -/
import Derived.Test.YtmppegknkeggcaaCacheJ
namespace Go.Proofs.Ytmppegknkeggcaa
open Go.RowKit
set_option linter.unusedVariables false
set_option linter.unusedSimpArgs false

/-- What a flush leaves. -/
def FlushPost (w : World) (B C mb most : Nat) (A : Option Addr) (items : List It) (g : Int) (e : Ending) (w' : World) : Prop :=
  ∃ Ao co, e = .returned (.slice Ao items.length co) ∧ CHeld w' B C mb most none 0 [] g ∧ w'.ownsRow w.heap.size 32 3 (.slice Ao items.length co) items.length (wrsV items) ∧ (∀ x ∈ items, DatIs w' B (.slice x.A x.l.length x.c) x.l) ∧ Turns w w' [C, mb]
theorem wrsV_take (items : List It) (k : Nat) (x : It) (hx : items[k]? = some x) : wrsV (items.take (k + 1)) = wrsV (items.take k) ++ [.int .i64 x.a, .int .i64 x.s, .slice x.A x.l.length x.c] := by
  rw [List.take_add_one, hx]
  simp [wrsV]
set_option maxHeartbeats 2000000 in
theorem Flush_any (B C mb most c : Nat) (A : Option Addr) (items : List It) (g : Int) (w : World) (h : CHeld w B C mb most A c items g) :
    Calls Try.prog 12 #[.pointer (some ⟨C, 0, none⟩)] w (FlushPost w B C mb most A items g) := by
  have H := Lib.hid h
  obtain ⟨f0, f1, f2, f3⟩ := h.cells
  obtain ⟨n, hn⟩ : ∃ n, n = items.length := ⟨_, rfl⟩
  have HN := Lib.hid hn
  have hfew := h.few
  rw [← hn] at f1 hfew
  clear h f0 f2 f3 hn
  go_enter Try.func12, Try.ntmps12
  go_wp2
  go_loopw [3, 11] (fun ov i wr => ∃ (Ao : Option Addr) (co k : Nat), ov = .slice Ao k co ∧ k ≤ n ∧ i = .int .i64 k ∧ wr.ownsRow w.heap.size 32 3 (.slice Ao k co) k (wrsV (items.take k)) ∧ Turns w wr []) (fun _ i _ => n - (intOf i).toNat)
  case atStart => exact ⟨none, 0, 0, rfl, by omega, rfl, World.ownsRow_nil _ _ _ _, Turns.refl _ _⟩
  case round =>
    obtain ⟨Ao, co, k, rfl, hk, rfl, ho, ht⟩ := hrel
    have HO := Lib.hid ho
    have HT := Lib.hid ht
    clear ho ht
    by_cases hlt : k < n
    · obtain ⟨x, hx⟩ : ∃ x, items[k]? = some x := ⟨_, List.getElem?_eq_getElem (by rw [← HN.out]; omega)⟩
      have HXx := Lib.hid hx
      have hown := H.out.own
      rw [← HN.out] at hown
      have hown2 := OwnI.turns hown HT.out (by simp)
      obtain ⟨L, e, c0, c1, c2, c3⟩ := OwnI.at4 hown2 k x hx
      subst e
      obtain ⟨i1, ji, jz0, jz1, jz2⟩ := info_parts write_info
      obtain ⟨W1, hW1⟩ : ∃ W1, W1 = (wr.alloc (.cells #[.int .i64 x.a, .int .i64 x.s, .slice x.A x.l.length x.c, .int .i64 x.g] 61)).alloc (.cells #[.int .i64 x.a, .int .i64 x.s, .slice x.A x.l.length x.c] 32) := ⟨_, rfl⟩
      have HW1 := Lib.hid hW1
      have HB1 : Hid (Below wr.heap.size wr W1) := by unfold Hid; rw [hW1]; (repeat (first | (with_reducible refine Below.drew ?_) | (with_reducible refine below_drewN0 ?_ _) | ((with_reducible refine Below.setCell ?_ ?_ _); rotate_left; focus (first | omega | (simp; done) | (simp; omega) | (simp at *; omega))) | ((with_reducible refine Below.alloc ?_ ?_ _); rotate_left; focus (first | omega | (simp; done) | (simp; omega) | (simp at *; omega))) | (with_reducible exact Below.refl _ _)))
      have HOa := Lib.hid (own_below HO.out HB1.out)
      have HSa : Hid (Src W1 3 (some ⟨wr.heap.size + 1, 0, none⟩) 1 [.int .i64 x.a, .int .i64 x.s, .slice x.A x.l.length x.c]) := by
        have := src_new (w := wr.alloc (.cells #[.int .i64 x.a, .int .i64 x.s, .slice x.A x.l.length x.c, .int .i64 x.g] 61)) (t := 32) (cs := [.int .i64 x.a, .int .i64 x.s, .slice x.A x.l.length x.c]) (sz := 3) rfl
        rw [World.size_alloc] at this
        unfold Hid; rw [hW1]; exact this
      have g1 : Hid (k + 1 ≤ maxLen) := by unfold Hid maxLen; omega
      have g2 : Hid ((k + 1) * 40 ≤ 140737488355328) := by unfold Hid; omega
      have g3 : Hid (w.heap.size ≤ W1.heap.size) := Nat.le_trans HT.out.size HB1.out.size
      have H1 : Hid (∀ u ∈ [Value.int .i64 x.a, Value.int .i64 x.s, Value.slice x.A x.l.length x.c], u.oneCell' = true) := wrsV_one [x]
      clear hown hown2 hx
      subst hW1
      go_wp2_with (at_builtin; go_must (refine wpList_append_src _ rfl _ _ 36 rfl w.heap.size 32 i1 _ 3 40 Try.underlying36 ji jz0 jz1 jz2 rfl (by decide) _ k (wrsV (items.take k)) rfl HOa.out (some ⟨wr.heap.size + 1, 0, none⟩) 1 1 _ rfl HSa.out H1.out g1.out g2.out g3.out ?_))
      intro v9 w9 hown9 hgrow9 hat9
      obtain ⟨L9, c9, rfl, hL9, _, hc9, hm9⟩ := own_at hown9 (by omega)
      rw [← wrsV_take items k x HXx.out] at hown9
      have HO9 := Lib.hid hown9
      have HT9 : Hid (Turns w w9 []) := by
        have hTa := (Turns.of_below HB1.out (blk Ao)).trans (turns_append hgrow9) (fun k hk => .inl hk)
        exact HT.out.trans hTa (fun k hk => .inr (own_blk HO.out k hk).1)
      clear hown9 hgrow9 hat9 HOa HSa H1 g1 g2 g3 HB1 HW1 HO HT
      go_wp2
      go_roundw
      case rel => exact ⟨_, c9, k + 1, rfl, by omega, by go_num, HO9.out, HT9.out⟩
      case measure => simp [intOf]; omega
    · obtain rfl : k = n := by omega
      have HX := Lib.hid (Clear_any B C mb most c A items g wr (H.out.turns HT.out (by simp)))
      go_wp2_with fail
      refine HX.out.mono ?_
      rintro e w3 ⟨⟨v, rfl⟩, h3, ht3⟩
      have H3 := Lib.hid h3
      have HT3 := Lib.hid ht3
      clear HX h3 ht3
      go_wp2
      go_ret
      have hCl := H.out.row.lt
      have hml := H.out.cnt.lt
      have hall : items.take k = items := by rw [HN.out]; exact List.take_length
      have ho := HO.out
      rw [hall] at ho
      refine ⟨Ao, co, by rw [← HN.out]; rfl, H3.out, ?_, fun x hx => ?_, (HT.out.mono (by simp)).trans HT3.out (fun k hk => .inl hk)⟩
      · rw [← HN.out]
        refine HT3.out.own ho (fun q hq hm => ?_)
        have h1 : q ∈ blk Ao := by
          cases Ao with
          | none => simp [Value.ownBlock] at hq
          | some a => simp [Value.ownBlock] at hq; simp [blk, hq]
        have h2 := (own_blk ho q h1).1
        simp only [List.mem_cons, List.not_mem_nil, or_false] at hm
        omega
      · refine ((H.out.dat x hx).turns HT.out (by simp)).turns HT3.out (fun q hq cur hr => ?_)
        have hcw := H.out.turns HT.out (by simp)
        refine hcw.no_bytes q ?_ cur hr
        simp only [List.mem_cons, List.not_mem_nil, or_false] at hq ⊢
        rcases hq with h1 | h1
        · exact .inl h1
        · exact .inr (.inl h1)
end Go.Proofs.Ytmppegknkeggcaa
