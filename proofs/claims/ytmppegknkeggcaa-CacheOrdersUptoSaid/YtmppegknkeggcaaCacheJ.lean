/- vcache: Clear, Drop, Barrier. -/
import Derived.Test.YtmppegknkeggcaaCacheI
namespace Go.Proofs.Ytmppegknkeggcaa
open Go.RowKit
set_option linter.unusedVariables false
set_option linter.unusedSimpArgs false

theorem Clear_any (B C mb most c : Nat) (A : Option Addr) (items : List It) (g : Int) (w : World) (h : CHeld w B C mb most A c items g) :
    Calls Try.prog 25 #[.pointer (some ⟨C, 0, none⟩)] w fun e w' => (∃ v, e = .returned v) ∧ CHeld w' B C mb most none 0 [] g ∧ Turns w w' [C, mb] := by
  have H := Lib.hid h
  have r1 := h.row.cell 1
  have r2 := h.row.frozen 1
  simp at r1
  obtain ⟨w1, hw1⟩ : ∃ w1, w1 = w.setCell ⟨C, 1, none⟩ (.slice none 0 0) := ⟨_, rfl⟩
  have HR1 : Hid (Row w1 C 55 #[.int .i64 (most : Nat), .slice none 0 0, .int .i64 g, .map (some mb)]) := by
    unfold Hid; rw [hw1]; have := h.row.put 1 (.slice none 0 0); simpa using this
  have HT1 : Hid (Turns w w1 [C]) := by unfold Hid; rw [hw1]; exact (Turns.refl _ _).setCell (by simp) _
  have HM1 := Lib.hid (h.cnt.turns HT1.out (by simpa using Ne.symm h.apart.1))
  obtain ⟨w2, rr, hc2, g2⟩ := HM1.out.clear 0
  have HC2 := Lib.hid hc2
  have HT2 : Hid (Turns w w2 [C, mb]) := (HT1.out.mono (by simp)).trans (Turns.of_grown g2) (by simp)
  have HR2 : Hid (Row w2 C 55 #[.int .i64 (most : Nat), .slice none 0 0, .int .i64 g, .map (some mb)]) := (g2.block _ HR1.out.lt (by simpa using h.apart.1)).trans HR1.out
  have r3 : w1.cell? ⟨C, 3, none⟩ = some (.map (some mb)) := HR1.out.cell 3
  have hC := h.hC
  clear h hc2 g2 HM1 HR1 HT1
  subst hw1
  go_enter Try.func25, Try.ntmps25
  go_wp2
  go_end0
  exact ⟨⟨_, rfl⟩, ⟨hC, HR2.out, World.ownsRow_nil _ _ _ _, by simp, by simp, H.out.hm, by rw [cntI_nil]; exact HC2.out, by simp⟩, HT2.out⟩

def dropP (a s : Int) (x : It) : Bool := decide (x.a = a ∧ x.s = s)
theorem Drop_any (B C mb most c : Nat) (A : Option Addr) (items : List It) (g a s : Int) (w : World) (h : CHeld w B C mb most A c items g) (ha : W64 a) (hs : W64 s) :
    Calls Try.prog 18 #[.pointer (some ⟨C, 0, none⟩), .int .i64 a, .int .i64 s] w fun e w' => e = .returned (.bool (decide (0 < cntI items a s))) ∧ CHeld w' B C mb most A c (items.filter fun x => !dropP a s x) g ∧ Turns w w' (C :: mb :: blk A) := by
  obtain ⟨wK, hwK⟩ : ∃ wK, wK = w.alloc (.cells #[.int .i64 a, .int .i64 s] 57) := ⟨_, rfl⟩
  have HBK : Hid (Below w.heap.size w wK) := by unfold Hid; rw [hwK]; (repeat (first | (with_reducible refine Below.drew ?_) | (with_reducible refine below_drewN0 ?_ _) | ((with_reducible refine Below.setCell ?_ ?_ _); rotate_left; focus (first | omega | (simp; done) | (simp; omega) | (simp at *; omega))) | ((with_reducible refine Below.alloc ?_ ?_ _); rotate_left; focus (first | omega | (simp; done) | (simp; omega) | (simp at *; omega))) | (with_reducible exact Below.refl _ _)))
  have HRK : Hid (Row wK w.heap.size 57 #[.int .i64 a, .int .i64 s]) := by unfold Hid; rw [hwK]; exact Row.fresh _ _ _
  have HK := Lib.hid (h.below HBK.out)
  have HnS : Hid (w.heap.size ∉ C :: mb :: blk A) := fun hm => by
    have hC := h.row.lt
    have hm' := h.cnt.lt
    simp only [List.mem_cons] at hm
    rcases hm with e | e | hm
    · omega
    · omega
    · obtain ⟨_, cur, hr⟩ := h.own.block_row _ hm; have := hr.lt; omega
  have hlk : ∀ k, (Instr.lookup 52 (.map (some mb)) (.agg #[.int .i64 a, .int .i64 s]) false).run Try.prog (wK.drewN k) = .ok (.int .i64 (cntI items a s)) (wK.drewN k) := fun k => CntIs.look (w := wK.drewN k) HK.out.cnt ha hs
  obtain ⟨_, _, _, q3⟩ := HK.out.cells
  have p2 := HRK.out.cell 0
  have p3 := HRK.out.cell 1
  simp at p2 p3
  obtain ⟨q, hq⟩ : ∃ q, q = cntI items a s := ⟨_, rfl⟩
  have HQ := Lib.hid hq
  rw [← hq] at hlk
  clear h ha hs hq
  go_enter Try.func18, Try.ntmps18
  go_wp2
  rw [← hwK]
  clear hwK
  go_wp2
  go_quiet (fail)
  have HG : Hid (Gone (wK.drewN nq) (mb :: blk A) 29 [.pointer (some ⟨w.heap.size, 0, none⟩)] (dropP a s)) :=
    ⟨enters_drop1, fun W ht x => Drop1_any x _ a s W (ht.cell (p := ⟨w.heap.size, 0, none⟩) p2 (fun hm => HnS.out (List.mem_cons_of_mem _ hm))) (ht.cell (p := ⟨w.heap.size, 1, none⟩) p3 (fun hm => HnS.out (List.mem_cons_of_mem _ hm)))⟩
  have HRm := Lib.hid (remove_any 29 [.pointer (some ⟨w.heap.size, 0, none⟩)] (dropP a s) B C mb most c A items g (wK.drewN nq) (HK.out.below (below_drewN0 (Below.refl _ _) _)) HG.out)
  clear HG hlk p2 p3 q3
  go_wp2_with fail
  refine HRm.out.mono ?_
  rintro e w3 ⟨⟨v, rfl⟩, h3, ht3⟩
  have H3 := Lib.hid h3
  have HT3 : Hid (Turns w w3 (C :: mb :: blk A)) := (Turns.of_below (below_drewN0 HBK.out nq) _).trans ht3 (fun k hk => .inl hk)
  clear HRm h3 ht3
  go_wp2_with fail
  go_ret
  exact ⟨by rw [← HQ.out]; rfl, H3.out, HT3.out⟩

def barG (items : List It) (g : Int) : Int := match items.getLast? with | some x => if x.g = g then g + 1 else g | none => g
theorem Barrier_any (B C mb most c : Nat) (A : Option Addr) (items : List It) (g : Int) (w : World) (h : CHeld w B C mb most A c items g) (hg : 0 ≤ g ∧ g ≤ 1000000) :
    Calls Try.prog 11 #[.pointer (some ⟨C, 0, none⟩)] w fun e w' => (∃ v, e = .returned v) ∧ CHeld w' B C mb most A c items (barG items g) ∧ Turns w w' [C] := by
  have H := Lib.hid h
  obtain ⟨f0, f1, f2, f3⟩ := h.cells
  obtain ⟨n, hn⟩ : ∃ n, n = items.length := ⟨_, rfl⟩
  have HN := Lib.hid hn
  have hown := h.own
  have hfew := h.few
  have hfz := h.row.frozen 2
  rw [← hn] at f1 hown hfew
  clear h f0 f3 hn
  by_cases h0 : n = 0
  · have d1 : decide (0 < n) = false := by simp [h0]
    have d2 : decide ((0 : Int) < (n : Int)) = false := by simp [h0]
    have HBG : Hid (barG items g = g) := by
      have e : items = [] := List.eq_nil_of_length_eq_zero (by rw [← HN.out]; exact h0)
      unfold Hid barG; rw [e]; rfl
    clear hown h0
    go_enter Try.func11, Try.ntmps11
    go_wp2
    go_quiet (fail)
    go_wp2
    go_end0
    exact ⟨⟨_, rfl⟩, by rw [HBG.out]; exact H.out.below (below_drewN0 (Below.refl _ _) _), (Turns.refl _ _).drewN _⟩
  · obtain ⟨x, hx⟩ : ∃ x, items[n - 1]? = some x := ⟨_, List.getElem?_eq_getElem (by rw [← HN.out]; omega)⟩
    obtain ⟨L, e, _, _, _, c3⟩ := OwnI.at4 hown (n - 1) x hx
    subst e
    have HLast : Hid (items.getLast? = some x) := by unfold Hid; rw [List.getLast?_eq_getElem?, ← HN.out]; exact hx
    have d1 : decide (0 < n) = true := by simp; omega
    have d2 : decide ((0 : Int) < (n : Int)) = true := by simp; omega
    have d3 : ((n : Int) - 1).toNat = n - 1 := by omega
    clear hown hx
    have hn1 : 1 ≤ n := by omega
    by_cases hxg : x.g = g
    · have HBG : Hid (barG items g = g + 1) := by unfold Hid barG; rw [HLast.out]; simp [hxg]
      go_enter Try.func11, Try.ntmps11
      go_wp2
      go_quiet (fail)
      go_wp2
      go_end0
      have ht0 : Turns w (w.drewN nq) [] := (Turns.refl _ _).drewN _
      have hr0 := ht0.row H.out.row (by simp)
      have hr1 := hr0.put 2 (.int .i64 (g + 1))
      have ht1 : Turns w ((w.drewN nq).setCell ⟨C, 2, none⟩ (.int .i64 (g + 1))) [C] := (ht0.mono (by simp)).setCell (by simp) _
      have hap := H.out.apart
      refine ⟨⟨_, rfl⟩, ?_, ht1⟩
      rw [HBG.out]
      exact ⟨H.out.hC, by simpa using hr1, OwnI.turns H.out.own ht1 (fun k hk hm => by simp at hm; subst hm; exact hap.2.1 hk), fun y hy => (H.out.dat y hy).turns ht1 (fun k hk cur hr => by simp at hk; subst hk; exact H.out.row.ne_type hr (by decide) rfl), H.out.wf, H.out.hm, H.out.cnt.turns ht1 (by simpa using Ne.symm hap.1), H.out.few⟩
    · have HBG : Hid (barG items g = g) := by unfold Hid barG; rw [HLast.out]; simp [hxg]
      go_enter Try.func11, Try.ntmps11
      go_wp2
      go_quiet (fail)
      go_wp2
      go_end0
      exact ⟨⟨_, rfl⟩, by rw [HBG.out]; exact H.out.below (below_drewN0 (Below.refl _ _) _), (Turns.refl _ _).drewN _⟩
end Go.Proofs.Ytmppegknkeggcaa
