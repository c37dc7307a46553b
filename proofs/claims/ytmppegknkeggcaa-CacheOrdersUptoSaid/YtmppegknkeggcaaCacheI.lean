/- vcache: Put. -/
import Derived.Test.YtmppegknkeggcaaCacheH
import Derived.Test.YtmppegknkeggcaaSeq
namespace Go.Proofs.Ytmppegknkeggcaa
open Go.RowKit
set_option linter.unusedVariables false
set_option linter.unusedSimpArgs false

/-- Which writes a put lets be gone. -/
def goneP (a s g : Int) (x : It) : Bool := decide (x.g = g ∧ x.a = a ∧ x.s = s)
theorem gone_none (items : List It) (a s g : Int) (h : cntI items a s = 0) : (items.filter fun x => !goneP a s g x) = items := by
  rw [List.filter_eq_self]
  intro x hx
  have h0 : (items.filter fun x => decide (x.a = a ∧ x.s = s)) = [] := List.eq_nil_of_length_eq_zero (by unfold cntI at h; omega)
  cases hp : goneP a s g x with
  | false => rfl
  | true =>
    simp [goneP] at hp
    have : x ∈ items.filter fun x => decide (x.a = a ∧ x.s = s) := List.mem_filter.2 ⟨hx, by simp [hp]⟩
    rw [h0] at this; cases this

theorem turns_append {w w' : World} {A : Option Addr} {n c : Nat} (h : w.grownBy w' (Value.slice A n c).ownBlock) : Turns w w' (blk A) := by
  cases A with
  | none => exact ⟨h.os, h.tape, h.output, h.size, fun k hk _ => h.block k hk (by simp [Value.ownBlock])⟩
  | some a => exact ⟨h.os, h.tape, h.output, h.size, fun k hk hn => h.block k hk (by simp [Value.ownBlock]; intro e; exact hn (by simp [blk, e]))⟩
theorem blk_append {A A' : Option Addr} {n c n' c' N : Nat} (h : (Value.slice A' n' c').ownBlock = (Value.slice A n c).ownBlock ∨ (Value.slice A' n' c').ownBlock = some N) : ∀ k ∈ blk A', k ∈ blk A ∨ k = N := by
  intro k hk
  cases A' with
  | none => simp [blk] at hk
  | some a' =>
    simp [blk] at hk; subst hk
    rcases h with h | h
    · cases A with
      | none => simp [Value.ownBlock] at h
      | some a => simp [Value.ownBlock] at h; left; simp [blk, h]
    · simp [Value.ownBlock] at h; right; exact h
theorem src_new {w : World} {t : TypeId} {cs : List Value} {sz : Nat} (h : cs.length = 1 * sz) : Src (w.alloc (.cells cs.toArray t)) sz (some ⟨w.heap.size, 0, none⟩) 1 cs :=
  Src.of_at h (fun j u hu => by
    rw [addr_add, Nat.zero_add, (Row.fresh w t cs.toArray).cell]
    simpa using hu)
theorem cntI_tail (x : It) (r : List It) : updC (cntI (x :: r)) x.a x.s (cntI (x :: r) x.a x.s + -1) = cntI r := by
  funext a s
  have e : ∀ a s, cntI (x :: r) a s = cntI [x] a s + cntI r a s := fun a s => cntI_append [x] r a s
  unfold updC
  rw [e, e, cntI_one, cntI_one]
  by_cases h : a = x.a ∧ s = x.s
  · rw [if_pos h, h.1, h.2, if_pos ⟨rfl, rfl⟩]; omega
  · rw [if_neg h, if_neg h]; omega
theorem OwnI.srcTail {w : World} {B L n c : Nat} {x : It} {r : List It} (h : OwnI w B (.slice (some ⟨L, 0, none⟩) n c) n (x :: r)) : Src w 4 (some ⟨L, 4, none⟩) (n - 1) (itsV r) := by
  have hl := h.len
  simp only [List.length_cons] at hl
  refine Src.of_at (by rw [itsV_length]; omega) (fun j u hu => ?_)
  have := (show w.ownsRow B 61 4 _ n (itsV (x :: r)) from h).cells (g := L) rfl (4 + j) u (by
    rw [show itsV (x :: r) = x.cells ++ itsV r from rfl, List.getElem?_append_right (by simp), show 4 + j - x.cells.length = j by simp]; exact hu)
  rw [addr_add] at this ⊢
  rwa [Nat.zero_add] at this
theorem own_blk {w : World} {B n c sz : Nat} {t : TypeId} {A : Option Addr} {xs : List Value} (h : w.ownsRow B t sz (.slice A n c) n xs) : ∀ k ∈ blk A, B ≤ k ∧ ∃ cur, Row w k t cur := by
  intro k hk
  rcases h.2 with ⟨e, _⟩ | ⟨g', cap, cur, e, hB, hr, _⟩
  · injection e with e _ _
    subst e; simp [blk] at hk
  · injection e with e _ _
    subst e
    simp [blk] at hk; subst hk
    exact ⟨hB, cur, hr⟩
/-- What a put leaves. -/
def PutPost (w : World) (B C mb most : Nat) (A : Option Addr) (items : List It) (g a s : Int) (l : List Nat) (e : Ending) (w' : World) : Prop :=
  ∃ Ao co A' c' out rest x', e = .returned (.slice Ao (List.length out) co) ∧ (x'.a = a ∧ x'.s = s ∧ x'.l = l ∧ x'.g = g) ∧ (items.filter fun x => !goneP a s g x) ++ [x'] = out ++ rest ∧ (rest.length ≤ most ∧ (out = [] ∨ rest.length = most)) ∧
    CHeld w' B C mb most A' c' rest g ∧ (∀ k ∈ blk A', k ∈ blk A ∨ w.heap.size ≤ k) ∧ w'.ownsRow w.heap.size 32 3 (.slice Ao out.length co) out.length (wrsV out) ∧ (∀ x ∈ out, DatIs w' B (.slice x.A x.l.length x.c) x.l) ∧ Turns w w' (C :: mb :: blk A)
theorem DatIs.mono {w : World} {B B' : Nat} {d : Value} {l : List Nat} (h : DatIs w B d l) (hB : B' ≤ B) : DatIs w B' d l := ⟨h.small, h.short, own_mono h.own hB⟩
theorem cntI_snoc (items : List It) (x : It) : updC (cntI items) x.a x.s (cntI items x.a x.s + 1) = cntI (items ++ [x]) := by
  funext a s
  rw [cntI_append, cntI_one]
  unfold updC
  by_cases h : a = x.a ∧ s = x.s
  · rw [if_pos h, if_pos h, h.1, h.2]
  · rw [if_neg h, if_neg h]; omega
theorem OwnI.turns {w w' : World} {B n c : Nat} {A : Option Addr} {items : List It} {S : List Nat} (h : OwnI w B (.slice A n c) n items) (ht : Turns w w' S) (hS : ∀ k ∈ blk A, k ∉ S) : OwnI w' B (.slice A n c) n items :=
  ht.own h (fun k hk => by
    rcases h.head with ⟨e, _⟩ | ⟨L, e⟩
    · rw [e] at hk; cases hk
    · rw [e] at hk; injection hk with hk; exact hS k (by simp [blk, e, ← hk]))
set_option maxRecDepth 100000 in
set_option maxHeartbeats 4000000 in
theorem Put_any (B C mb most c : Nat) (A : Option Addr) (items : List It) (g a s : Int) (A0 : Option Addr) (l : List Nat) (c0 : Nat) (w : World) (h : CHeld w B C mb most A c items g) (hn : items.length ≤ 900)
    (ha : W64 a) (hs : W64 s) (h256 : ∀ x ∈ l, x < 256) (hl : l.length ≤ reachBytes) (hsrc : ∀ W, Turns w W (C :: mb :: blk A) → Src W 1 A0 l.length (intsV .u8 l)) :
    Calls Try.prog 10 #[.pointer (some ⟨C, 0, none⟩), .agg #[.int .i64 a, .int .i64 s, .slice A0 l.length c0]] w (PutPost w B C mb most A items g a s l) := by
  obtain ⟨wB, hwB⟩ : ∃ wB, wB = (w.alloc (.cells #[.pointer (some ⟨C, 0, none⟩)] 25)).alloc (.cells #[.int .i64 a, .int .i64 s, .slice A0 l.length c0] 32) := ⟨_, rfl⟩
  have HB0 : Hid (Below w.heap.size w wB) := by unfold Hid; rw [hwB]; (repeat (first | (with_reducible refine Below.drew ?_) | (with_reducible refine below_drewN0 ?_ _) | ((with_reducible refine Below.setCell ?_ ?_ _); rotate_left; focus (first | omega | (simp; done) | (simp; omega) | (simp at *; omega))) | ((with_reducible refine Below.alloc ?_ ?_ _); rotate_left; focus (first | omega | (simp; done) | (simp; omega) | (simp at *; omega))) | (with_reducible exact Below.refl _ _)))
  have HR1 : Hid (Row wB w.heap.size 25 #[.pointer (some ⟨C, 0, none⟩)]) := by unfold Hid; rw [hwB]; exact (Row.fresh w _ _).alloc _
  have HR2 : Hid (Row wB (w.heap.size + 1) 32 #[.int .i64 a, .int .i64 s, .slice A0 l.length c0]) := by
    unfold Hid; rw [hwB]
    have := Row.fresh (w.alloc (.cells #[.pointer (some ⟨C, 0, none⟩)] 25)) 32 #[.int .i64 a, .int .i64 s, .slice A0 l.length c0]
    rw [World.size_alloc] at this
    exact this
  have H := Lib.hid h
  have HS := Lib.hid hsrc
  have Hl := Lib.hid hl
  have H256 := Lib.hid h256
  have Hwa := Lib.hid ha
  have Hws := Lib.hid hs
  have hszB : wB.heap.size = w.heap.size + 2 := by rw [hwB]; simp
  have HszB := Lib.hid hszB
  clear h hsrc hl h256 ha hs hszB
  go_enter Try.func10, Try.ntmps10
  go_wp2_with fail
  rw [← hwB]
  clear hwB
  refine (of_any a s _ wB).mono ?_
  rintro e w1 ⟨rfl, hb1⟩
  obtain ⟨wK, hwK⟩ : ∃ wK, wK = w1.alloc (.cells #[.int .i64 a, .int .i64 s] 57) := ⟨_, rfl⟩
  have hbK : Below wB.heap.size wB wK := by rw [hwK]; exact hb1.alloc hb1.size _
  have HBK : Hid (Below w.heap.size w wK) := HB0.out.trans (hbK.mono HB0.out.size)
  have HRK1 : Hid (Row wK w.heap.size 25 #[.pointer (some ⟨C, 0, none⟩)]) := HR1.out.below hbK HR1.out.lt
  have HRK2 : Hid (Row wK (w.heap.size + 1) 32 #[.int .i64 a, .int .i64 s, .slice A0 l.length c0]) := HR2.out.below hbK HR2.out.lt
  have HRK3 : Hid (Row wK w1.heap.size 57 #[.int .i64 a, .int .i64 s]) := by unfold Hid; rw [hwK]; exact Row.fresh _ _ _
  have HK := Lib.hid (H.out.below HBK.out)
  have hk1 : w.heap.size + 2 ≤ w1.heap.size := by have := hb1.size; rw [HszB.out] at this; exact this
  clear hb1 HB0 HR1 HR2 hbK HszB
  go_wp2_with fail
  rw [← hwK]
  clear hwK
  have HLk : Hid (∀ k, (Instr.lookup 52 (.map (some mb)) (.agg #[.int .i64 a, .int .i64 s]) false).run Try.prog (wK.drewN k) = .ok (.int .i64 (cntI items a s)) (wK.drewN k)) := fun k => CntIs.look (w := wK.drewN k) HK.out.cnt Hwa.out Hws.out
  have hClt : C < w.heap.size := H.out.row.lt
  have hmlt : mb < w.heap.size := H.out.cnt.lt
  have hblt : ∀ k ∈ blk A, k < w.heap.size := fun k hk => by obtain ⟨_, cur, hr⟩ := H.out.own.block_row k hk; exact hr.lt
  have HnS : Hid (∀ k, w.heap.size ≤ k → k ∉ C :: mb :: blk A) := fun k hk hm => by
    simp only [List.mem_cons] at hm
    rcases hm with rfl | rfl | hm
    · omega
    · omega
    · have := hblt _ hm; omega
  have Hblt := Lib.hid hblt
  obtain ⟨_, _, _, q3⟩ := HK.out.cells
  have p1 := HRK1.out.cell 0
  have p2 := HRK3.out.cell 0
  have p3 := HRK3.out.cell 1
  simp at p1 p2 p3
  clear hblt
  have hcnn := cntI_nonneg items a s
  obtain ⟨items1, HI1⟩ : ∃ items1, Hid (items1 = items.filter fun x => !goneP a s g x) := ⟨_, rfl⟩
  have hlk := HLk.out
  by_cases hz : cntI items a s = 0
  case' pos =>
    rw [hz] at hlk
    go_quiet (fail)
    clear hlk
    go_wp2
    obtain ⟨w3, hw3⟩ : ∃ w3, w3 = wK.drewN nq := ⟨_, rfl⟩
    have H3 : Hid (CHeld w3 B C mb most A c items1 g) := by
      unfold Hid; rw [HI1.out, gone_none items a s g hz, hw3]; exact HK.out.below (below_drewN0 (Below.refl _ _) _)
    have HT3 : Hid (Turns wK w3 (C :: mb :: blk A)) := by unfold Hid; rw [hw3]; exact (Turns.refl _ _).drewN _
    rw [← hw3]
    clear hw3 hz p1 p2 p3 q3 HK HLk hcnn
    skip
  case' neg =>
    have hz1 : 0 < cntI items a s := by omega
    have hz2 : decide (0 < cntI items a s) = true := by simp; exact hz1
    go_quiet (fail)
    clear hlk
    have HG : Hid (Gone (wK.drewN nq) (mb :: blk A) 21 [.pointer (some ⟨w.heap.size, 0, none⟩), .pointer (some ⟨w1.heap.size, 0, none⟩)] (goneP a s g)) :=
      ⟨enters_put1, fun W ht x => Put1_any x _ _ C a s g W (ht.cell (p := ⟨w.heap.size, 0, none⟩) p1 (fun hm => HnS.out _ (Nat.le_refl _) (List.mem_cons_of_mem _ hm))) (ht.cell (p := ⟨C, 2, none⟩) HK.out.cells.2.2.1 (fun hm => by
        have := HK.out.apart
        simp only [List.mem_cons] at hm
        exact hm.elim this.1 this.2.1)) (ht.cell (p := ⟨w1.heap.size, 0, none⟩) p2 (fun hm => HnS.out _ (show w.heap.size ≤ w1.heap.size by omega) (List.mem_cons_of_mem _ hm))) (ht.cell (p := ⟨w1.heap.size, 1, none⟩) p3 (fun hm => HnS.out _ (show w.heap.size ≤ w1.heap.size by omega) (List.mem_cons_of_mem _ hm)))⟩
    have HRm := Lib.hid (remove_any 21 [.pointer (some ⟨w.heap.size, 0, none⟩), .pointer (some ⟨w1.heap.size, 0, none⟩)] (goneP a s g) B C mb most c A items g (wK.drewN nq) (HK.out.below (below_drewN0 (Below.refl _ _) _)) HG.out)
    clear HG
    go_wp2_with fail
    refine HRm.out.mono ?_
    rintro e w3 ⟨⟨v, rfl⟩, h3, ht3⟩
    rw [← HI1.out] at h3
    have H3 := Lib.hid h3
    have HT3 : Hid (Turns wK w3 (C :: mb :: blk A)) := ((Turns.refl wK _).drewN nq).trans ht3 (fun k hk => .inl hk)
    clear HRm h3 ht3 hz hz1 hz2 p1 p2 p3 q3 HK HLk hcnn
    go_wp2
    skip
  all_goals
    obtain ⟨_, e1, e2, _⟩ := H3.out.cells
    have hap := H3.out.apart
    have k1 : ∀ t : Kept w3 (blk A), t.u.cell? ⟨w.heap.size, 0, none⟩ = some (.pointer (some ⟨C, 0, none⟩)) := fun t => by
      have h1 := HT3.out.row HRK1.out (HnS.out _ (Nat.le_refl _))
      rw [(t.h.row h1 (fun hm => HnS.out _ (Nat.le_refl _) (List.mem_cons_of_mem _ (List.mem_cons_of_mem _ hm)))).cell]; rfl
    have k2 : ∀ t : Kept w3 (blk A), t.u.cell? ⟨C, 1, none⟩ = some (.slice A items1.length c) := fun t => t.h.cell (p := ⟨C, 1, none⟩) e1 hap.2.1
    have k3 : ∀ t : Kept w3 (blk A), t.u.cell? ⟨C, 2, none⟩ = some (.int .i64 g) := fun t => t.h.cell (p := ⟨C, 2, none⟩) e2 hap.2.1
    have HW3 : Hid (∀ t : Kept w3 (blk A), Row t.u (w.heap.size + 1) 32 #[.int .i64 a, .int .i64 s, .slice A0 l.length c0]) := fun t =>
      t.h.row (HT3.out.row HRK2.out (HnS.out _ (by omega))) (fun hm => HnS.out _ (by omega) (List.mem_cons_of_mem _ (List.mem_cons_of_mem _ hm)))
    have k4 : ∀ t : Kept w3 (blk A), t.u.cell? ⟨w.heap.size + 1, 0, none⟩ = some (.int .i64 a) := fun t => by rw [(HW3.out t).cell]; rfl
    have k5 : ∀ t : Kept w3 (blk A), t.u.cell? ⟨w.heap.size + 1, 1, none⟩ = some (.int .i64 s) := fun t => by rw [(HW3.out t).cell]; rfl
    have k6 : ∀ t : Kept w3 (blk A), t.u.cell? ⟨w.heap.size + 1, 2, none⟩ = some (.slice A0 l.length c0) := fun t => by rw [(HW3.out t).cell]; rfl
    clear e1 e2
    (refine region_kept (blk A) [0, 1, 2, 3, 4, 5, 7, 8, 9, 10] [6, 11, 12, 13, 14, 15, 16] (by kernel_rfl) (by kernel_rfl) (fun _ _ _ _ _ h => h) ?_; simp only [List.filterMap_cons, List.getElem?_cons_zero, List.getElem?_cons_succ, List.filterMap_nil]; (repeat ((show wpQuiet _ _ _ _ (_ :: _) _); go_big_quiet_step (fail))); refine wpQuiet_nil ?_)
    clear k1 k2 k3 k4 k5 k6
    have HTw3 : Hid (Turns w w3 (C :: mb :: blk A)) := (Turns.of_below HBK.out _).trans HT3.out (fun k hk => .inl hk)
    have HTwin := Lib.hid (twin_any a s A0 c0 l H256.out Hl.out w3.drew (HS.out _ HTw3.out.drew))
    refine wpSeqS_step ?_
    go_wp2_with fail
    refine HTwin.out.mono ?_
    rintro e w4 ⟨d, rfl, hd, hb4⟩
    obtain ⟨A4, c4, rfl, _, _⟩ := hd.shape
    have HD4 := Lib.hid hd
    have HB4 : Hid (Below w3.heap.size w3 w4) := (Below.refl _ _).drew.trans hb4
    clear HTwin hd hb4
    go_wp2_with fail
    refine outQ_normal (Turns.of_below HB4.out _) ?_
    refine wpSeqS_step ?_
    go_wp2_with fail
    refine outQ_normal (Turns.of_below HB4.out _) ?_
    refine wpSeqS_step ?_
    go_wp2_with fail
    refine outQ_normal ((Turns.of_below HB4.out _).alloc _) ?_
    obtain ⟨i0, hi, hz0, hz1, hz2⟩ := info_parts item_info
    have hfew1 : items1.length ≤ 900 := by rw [HI1.out]; exact Nat.le_trans (List.length_filter_le _ _) hn
    have HB5 : Hid (Below w3.heap.size w3 (w4.alloc (.cells #[.int .i64 a, .int .i64 s, .slice A4 l.length c4, .int .i64 g] 61))) := HB4.out.alloc HB4.out.size _
    have HO5 := Lib.hid (own_below H3.out.own HB5.out)
    have HS5 := Lib.hid (src_new (w := w4) (t := 61) (cs := [.int .i64 a, .int .i64 s, .slice A4 l.length c4, .int .i64 g]) (sz := 4) rfl)
    have hBle : B ≤ w3.heap.size := by have := H3.out.hC; have := H3.out.row.lt; omega
    refine wpSeqS_step (wpList_append_src _ rfl (.tmp 23) (.tmp 31) 53 rfl B 61 i0 _ 4 48 Try.underlying53 hi hz0 hz1 hz2 rfl (by decide) _ items1.length (itsV items1) rfl HO5.out (some ⟨w4.heap.size, 0, none⟩) 1 1 _ rfl HS5.out (itsV_one [⟨a, s, A4, c4, l, g⟩]) (by unfold maxLen; omega) (by omega) (by have := HB5.out.size; omega) ?_)
    intro v6 w6 hown hgrow hat
    obtain ⟨L6, c6, rfl, hL6, _, hc6, hm6⟩ := own_at hown (by omega)
    have HT6 : Hid (Turns w3 w6 (blk A)) := (Turns.of_below HB5.out _).trans (turns_append hgrow) (fun k hk => .inl hk)
    refine wpList_nil (outQ_normal HT6.out ?_)
    have HA6 : Hid (∀ k ∈ blk (some ⟨L6, 0, none⟩), k ∈ blk A ∨ k = (w4.alloc (.cells #[.int .i64 a, .int .i64 s, .slice A4 l.length c4, .int .i64 g] 61)).heap.size) := blk_append hat
    have HO6 : Hid (OwnI w6 B (.slice (some ⟨L6, 0, none⟩) (items1.length + 1) c6) (items1.length + 1) (items1 ++ [⟨a, s, A4, c4, l, g⟩])) := by
      unfold Hid OwnI; rw [show itsV (items1 ++ [⟨a, s, A4, c4, l, g⟩]) = itsV items1 ++ [.int .i64 a, .int .i64 s, .slice A4 l.length c4, .int .i64 g] by simp [itsV]]; exact hown
    have HD6 := Lib.hid (HD4.out.turns ((Turns.refl _ _).alloc _ |>.trans (turns_append hgrow) (fun k hk => .inl hk)) (fun k hk cur hr => by
      obtain ⟨_, cur2, hr2⟩ := H3.out.own.block_row k hk
      exact (hr2.below HB4.out hr2.lt).ne_type hr (by decide) rfl))
    clear hown hgrow hat HS5 HO5
    refine wpSeqS_step ?_
    go_wp2_with fail
    refine outQ_normal HT6.out ?_
    refine wpSeqS_step ?_
    go_wp2_with fail
    refine outQ_normal HT6.out ?_
    refine wpSeqS_last ?_
    have hT := HT3.out.trans HT6.out (fun k hk => .inl (List.mem_cons_of_mem _ (List.mem_cons_of_mem _ hk)))
    have HR61 := Lib.hid (hT.row HRK1.out (HnS.out _ (Nat.le_refl _)))
    have HR63 := Lib.hid (hT.row HRK3.out (HnS.out _ (by omega)))
    have HRC := Lib.hid (HT6.out.row H3.out.row hap.2.1)
    have HCn6 := Lib.hid (H3.out.cnt.turns HT6.out hap.2.2)
    have r1 := HR61.out.cell 0
    have r2 := HR63.out.cell 0
    have r3 := HR63.out.cell 1
    have r4 := HRC.out.cell 1
    have r5 := HRC.out.frozen 1
    simp at r1 r2 r3 r4
    have hn1 : w.heap.size ≠ C := by omega
    have hn2 : w1.heap.size ≠ C := by omega
    have HRC7 : Hid (Row (w6.setCell ⟨C, 1, none⟩ (.slice (some ⟨L6, 0, none⟩) (items1.length + 1) c6)) C 55 #[.int .i64 (most : Nat), .slice (some ⟨L6, 0, none⟩) (items1.length + 1) c6, .int .i64 g, .map (some mb)]) := by
      unfold Hid
      have := HRC.out.put 1 (.slice (some ⟨L6, 0, none⟩) (items1.length + 1) c6)
      simpa using this
    have hTs : Turns w6 (w6.setCell ⟨C, 1, none⟩ (.slice (some ⟨L6, 0, none⟩) (items1.length + 1) c6)) [C] := (Turns.refl _ _).setCell (by simp) _
    have HTs := Lib.hid hTs
    have HCn7 := Lib.hid (HCn6.out.turns hTs (by simpa using Ne.symm hap.1))
    have hcb := cntI_le items1 a s
    have HCt := Lib.hid (count_any C mb _ _ _ (cntI items1) a s 1 Hwa.out Hws.out (by omega) ⟨cntI_nonneg items1 a s, by omega⟩ hap.1 _ HRC7.out HCn7.out)
    clear hT hTs
    go_wp2_with fail
    refine HCt.out.mono ?_
    rintro e w8 ⟨⟨v8, rfl⟩, hc8, ht8⟩
    obtain ⟨x1, hx1⟩ : ∃ x1 : It, x1 = ⟨a, s, A4, c4, l, g⟩ := ⟨_, rfl⟩
    have HX1 := Lib.hid hx1
    rw [← hx1] at HO6
    have hT7 : Turns w6 w8 [C, mb] := (HTs.out.mono (by simp)).trans ht8 (by simp)
    have HNB : Hid (∀ k ∈ [C, mb], ∀ cur, ¬ Row w6 k 5 cur) := by
      intro k hk cur hr
      simp only [List.mem_cons, List.not_mem_nil, or_false] at hk
      rcases hk with rfl | rfl
      · exact HRC.out.ne_type hr (by decide) rfl
      · exact HCn6.out.not_row _ _ hr
    have HL6 : Hid (∀ k ∈ blk (some ⟨L6, 0, none⟩), k ∉ [C, mb]) := by
      intro k hk hm
      obtain ⟨_, cur, hr⟩ := HO6.out.block_row k hk
      simp only [List.mem_cons, List.not_mem_nil, or_false] at hm
      rcases hm with rfl | rfl
      · exact HRC.out.ne_type hr (by decide) rfl
      · exact HCn6.out.not_row _ _ hr
    have HT8 : Hid (Turns w w8 (C :: mb :: blk A)) := (HTw3.out.trans HT6.out (fun k hk => .inl (List.mem_cons_of_mem _ (List.mem_cons_of_mem _ hk)))).trans hT7 (by simp)
    have HX8 : Hid (CHeld w8 B C mb most (some ⟨L6, 0, none⟩) c6 (items1 ++ [x1]) g) := by
      have hlen : (items1 ++ [x1]).length = items1.length + 1 := by simp
      refine ⟨H3.out.hC, ?_, ?_, fun x hx => ?_, fun x hx => ?_, H3.out.hm, ?_, by rw [hlen]; omega⟩
      · rw [hlen]; exact ht8.row HRC7.out (by simpa using hap.1)
      · rw [hlen]; exact OwnI.turns HO6.out hT7 HL6.out
      · rw [List.mem_append, List.mem_singleton] at hx
        rcases hx with hx | rfl
        · exact ((H3.out.dat x hx).turns HT6.out (fun k hk => H3.out.no_bytes k (List.mem_cons_of_mem _ (List.mem_cons_of_mem _ hk)))).turns hT7 HNB.out
        · rw [HX1.out]; exact (HD6.out.turns hT7 HNB.out).mono hBle
      · rw [List.mem_append, List.mem_singleton] at hx
        rcases hx with hx | rfl
        · exact H3.out.wf x hx
        · rw [HX1.out]; exact ⟨Hwa.out, Hws.out⟩
      · rw [← cntI_snoc, HX1.out]; exact hc8
    have HA8 : Hid (∀ k ∈ blk (some ⟨L6, 0, none⟩), k ∈ blk A ∨ w.heap.size ≤ k) := fun k hk => by
      rcases HA6.out k hk with h1 | h1
      · exact .inl h1
      · right; rw [h1]; have := HB4.out.size; have := HT3.out.size; have := HBK.out.size; simp; omega
    have HB8 : Hid (Row w8 w.heap.size 25 #[.pointer (some ⟨C, 0, none⟩)]) := hT7.row HR61.out (by simp; omega)
    have hlen8 : (items1 ++ [x1]).length = items1.length + 1 := by simp
    obtain ⟨items2, hi2⟩ : ∃ items2, items2 = items1 ++ [x1] := ⟨_, rfl⟩
    rw [← hi2] at HX8 hlen8
    have HI2 := Lib.hid hi2
    have h901 : items2.length ≤ 901 := by omega
    have HXf : Hid (x1.a = a ∧ x1.s = s ∧ x1.l = l ∧ x1.g = g) := by unfold Hid; rw [HX1.out]; simp
    clear hc8 ht8 hT7 HNB HL6 HX1 hx1 hi2 hlen8 HCt HCn7 HTs HRC7 hcb r1 r2 r3 r4 r5 HCn6 HRC HR63 HR61 HD6 HO6 HT6 HA6 HB5 HB4 HD4 HTw3 HW3 hap HT3 H3 hfew1 HRK1 HRK2 HRK3 HBK
    go_wp2
    go_loopw [6] (fun ov wr => ∃ Ao co A' c' out rest, ov = .slice Ao (List.length out) co ∧ items2 = out ++ rest ∧ (out = [] ∨ most ≤ rest.length) ∧ CHeld wr B C mb most A' c' rest g ∧ (∀ k ∈ blk A', k ∈ blk A ∨ w.heap.size ≤ k) ∧ Row wr w.heap.size 25 #[.pointer (some ⟨C, 0, none⟩)] ∧
        wr.ownsRow w.heap.size 32 3 ov out.length (wrsV out) ∧ (∀ x ∈ out, DatIs wr B (.slice x.A x.l.length x.c) x.l) ∧ Turns w wr (C :: mb :: blk A)) (fun _ wr => match wr.cell? ⟨C, 1, none⟩ with | some (.slice _ n _) => n | _ => 0)
    case atStart => exact ⟨none, 0, _, _, [], items2, rfl, rfl, .inl rfl, HX8.out, HA8.out, HB8.out, World.ownsRow_nil _ _ _ _, by simp, HT8.out⟩
    case round =>
      clear HX8 HA8 HB8 HT8
      obtain ⟨Ao, co, A', c', out, rest, rfl, heq, hor, hc, hA', hb, ho, hd, ht⟩ := hrel
      have HC := Lib.hid hc
      have HE := Lib.hid heq
      have HO := Lib.hid ho
      have HDo := Lib.hid hd
      have HT := Lib.hid ht
      have HA' := Lib.hid hA'
      have HBx := Lib.hid hb
      have HOr := Lib.hid hor
      obtain ⟨f0, f1, f2, f3⟩ := hc.cells
      have b0 := hb.cell 0
      simp at b0
      obtain ⟨n, hn2⟩ : ∃ n, n = rest.length := ⟨_, rfl⟩
      have HN := Lib.hid hn2
      obtain ⟨m, hm2⟩ : ∃ m, m = out.length := ⟨_, rfl⟩
      have HM := Lib.hid hm2
      have hmn : m + n ≤ 901 := by rw [hm2, hn2, ← List.length_append, ← heq]; exact h901
      rw [← hn2] at f1
      have HF1 := Lib.hid f1
      rw [← hm2] at ho
      have HO := Lib.hid ho
      rw [← hm2]
      clear hc heq hd ht hA' hb hor hn2 hm2 ho f2 f3
      by_cases hgt : most < n
      · go_wp2
        go_quiet (fail)
        obtain ⟨x, hx⟩ : ∃ x, rest[0]? = some x := ⟨_, List.getElem?_eq_getElem (by rw [← HN.out]; omega)⟩
        have HXx := Lib.hid hx
        have hown := HC.out.own
        rw [← HN.out] at hown
        obtain ⟨L', e, c0', c1', c2', _⟩ := OwnI.at4 hown 0 x hx
        subst e
        simp only [Nat.zero_mul, Nat.zero_add] at c0' c1' c2'
        obtain ⟨i1, ji, jz0, jz1, jz2⟩ := info_parts write_info
        have HOa := Lib.hid (own_below HO.out ((below_drewN0 (Below.refl wr.heap.size wr) nq).alloc (Nat.le_refl _) (.cells #[.int .i64 x.a, .int .i64 x.s, .slice x.A x.l.length x.c] 32)))
        have HSa := Lib.hid (src_new (w := wr.drewN nq) (t := 32) (cs := [.int .i64 x.a, .int .i64 x.s, .slice x.A x.l.length x.c]) (sz := 3) rfl)
        have hwle : w.heap.size ≤ wr.heap.size := HT.out.size
        have g1 : Hid (m + 1 ≤ maxLen) := by unfold Hid maxLen; omega
        have g2 : Hid ((m + 1) * 40 ≤ 140737488355328) := by unfold Hid; omega
        have g3 : Hid (w.heap.size ≤ ((wr.drewN nq).alloc (.cells #[.int .i64 x.a, .int .i64 x.s, .slice x.A x.l.length x.c] 32)).heap.size) := by unfold Hid; simp; omega
        have H1 : Hid (∀ u ∈ [Value.int .i64 x.a, Value.int .i64 x.s, Value.slice x.A x.l.length x.c], u.oneCell' = true) := wrsV_one [x]
        clear hx hown
        go_wp2_with (at_builtin; go_must (refine wpList_append_src _ rfl _ _ 36 rfl w.heap.size 32 i1 _ 3 40 Try.underlying36 ji jz0 jz1 jz2 rfl (by decide) _ m (wrsV out) rfl HOa.out (some ⟨wr.heap.size, 0, none⟩) 1 1 _ rfl HSa.out H1.out g1.out g2.out g3.out ?_))
        intro v9 w9 hown9 hgrow9 hat9
        obtain ⟨L9, c9, rfl, hL9, _, hc9, hm9⟩ := own_at hown9 (by omega)
        have hTa : Turns wr w9 (blk Ao) := (((Turns.refl wr (blk Ao)).drewN nq).alloc _).trans (turns_append hgrow9) (fun k hk => .inl hk)
        have hbo := own_blk HO.out
        have HT9 : Hid (Turns w w9 (C :: mb :: blk A)) := HT.out.trans hTa (fun k hk => .inr (hbo k hk).1)
        have HC9 : Hid (CHeld w9 B C mb most (some ⟨L', 0, none⟩) c' rest g) := HC.out.turns hTa (fun k hk => by
          obtain ⟨_, cur, hr⟩ := hbo k hk
          refine ⟨fun hm => ?_, fun cur2 hr2 => hr.ne_type hr2 (by decide) rfl⟩
          simp only [List.mem_cons] at hm
          rcases hm with rfl | rfl | hm
          · exact HC.out.row.ne_type hr (by decide) rfl
          · exact HC.out.cnt.not_row _ _ hr
          · obtain ⟨_, cur3, hr3⟩ := HC.out.own.block_row k hm
            exact hr3.ne_type hr (by decide) rfl)
        have HB9 : Hid (Row w9 w.heap.size 25 #[.pointer (some ⟨C, 0, none⟩)]) := hTa.row HBx.out (fun hm => by
          obtain ⟨_, cur, hr⟩ := hbo _ hm
          exact HBx.out.ne_type hr (by decide) rfl)
        have HD9 : Hid (∀ y ∈ out ++ [x], DatIs w9 B (.slice y.A y.l.length y.c) y.l) := by
          have hnb : ∀ k ∈ blk Ao, ∀ cur, ¬ Row wr k 5 cur := fun k hk cur2 hr2 => by
            obtain ⟨_, cur, hr⟩ := hbo k hk
            exact hr.ne_type hr2 (by decide) rfl
          intro y hy
          rw [List.mem_append, List.mem_singleton] at hy
          rcases hy with hy | rfl
          · exact (HDo.out y hy).turns hTa hnb
          · exact (HC.out.dat y (List.mem_of_getElem? HXx.out)).turns hTa hnb
        have HO9 : Hid (w9.ownsRow w.heap.size 32 3 (.slice (some ⟨L9, 0, none⟩) (m + 1) c9) (m + 1) (wrsV (out ++ [x]))) := by
          unfold Hid; rw [show wrsV (out ++ [x]) = wrsV out ++ [.int .i64 x.a, .int .i64 x.s, .slice x.A x.l.length x.c] by simp [wrsV]]; exact hown9
        obtain ⟨rest', hre⟩ : ∃ rest', rest = x :: rest' := by
          cases rest with
          | nil => have := HXx.out; simp at this
          | cons y r => have := HXx.out; simp at this; exact ⟨r, by rw [this]⟩
        have HRe := Lib.hid hre
        have hap := HC.out.apart
        have hn0 : 1 ≤ n := by omega
        have hnc : n ≤ c' := by have := HC.out.own.2; rw [← HN.out] at this; rcases this with ⟨e, _⟩ | ⟨_, _, _, e, _, _, h3, _⟩; (injection e with e _ _; cases e); (injection e with _ _ e; omega)
        clear hown9 hgrow9 hat9 hTa hbo HOa HSa H1 g1 g2 g3 c0' c1' c2' f0 f1 b0 HC HO HDo HT HBx hre
        go_wp2_with fail
        obtain ⟨fC, f1, _, _⟩ := HC9.out.cells
        rw [← HN.out] at f1
        have hown9 := HC9.out.own
        rw [← HN.out] at hown9
        obtain ⟨L2, e, f2, f3, f4, _⟩ := OwnI.at4 hown9 0 x (by rw [HRe.out]; rfl)
        injection e with e
        injection e with e
        subst e
        simp only [Nat.zero_mul, Nat.zero_add] at f2 f3 f4
        have b9 := HB9.out.cell 0
        simp at b9
        have k1 : ∀ t : Kept w9 [], t.u.cell? ⟨w.heap.size, 0, none⟩ = some (.pointer (some ⟨C, 0, none⟩)) := fun t => t.h.cell (p := ⟨w.heap.size, 0, none⟩) b9 (by simp)
        have k2 : ∀ t : Kept w9 [], t.u.cell? ⟨C, 1, none⟩ = some (.slice (some ⟨L', 0, none⟩) n c') := fun t => t.h.cell (p := ⟨C, 1, none⟩) f1 (by simp)
        have k3 : ∀ t : Kept w9 [], t.u.cell? ⟨L', 0, none⟩ = some (.int .i64 x.a) := fun t => t.h.cell (p := ⟨L', 0, none⟩) f2 (by simp)
        have k4 : ∀ t : Kept w9 [], t.u.cell? ⟨L', 1, none⟩ = some (.int .i64 x.s) := fun t => t.h.cell (p := ⟨L', 1, none⟩) f3 (by simp)
        have k5 : ∀ t : Kept w9 [], t.u.cell? ⟨L', 2, none⟩ = some (.slice x.A x.l.length x.c) := fun t => t.h.cell (p := ⟨L', 2, none⟩) f4 (by simp)
        clear fC f1 f2 f3 f4 b9 hown9
        (refine region_kept ([]) [0, 1, 2, 3, 4, 5, 6, 7] [8, 9] (by kernel_rfl) (by kernel_rfl) (fun _ _ _ _ _ h => h) ?_; simp only [List.filterMap_cons, List.getElem?_cons_zero, List.getElem?_cons_succ, List.filterMap_nil]; (repeat ((show wpQuiet _ _ _ _ (_ :: _) _); go_big_quiet_step (fail))); refine wpQuiet_nil ?_)
        clear k1 k2 k3 k4 k5
        refine wpSeqS_step ?_
        go_wp2_with fail
        refine (of_any x.a x.s _ w9.drew).mono ?_
        rintro e wA ⟨rfl, hbA⟩
        have HTA : Hid (Turns w9 wA []) := Turns.of_below ((Below.refl _ _).drew.trans hbA) _
        clear hbA
        go_wp2_with fail
        refine outQ_normal HTA.out ?_
        refine wpSeqS_last ?_
        have HCA := Lib.hid (HC9.out.turns HTA.out (by simp))
        have hxm : x ∈ rest := by rw [HRe.out]; simp
        have hcb := cntI_le rest x.a x.s
        have hcb2 := HCA.out.few
        have HCt := Lib.hid (count_any C mb _ _ _ (cntI rest) x.a x.s (-1) (HCA.out.wf x hxm).1 (HCA.out.wf x hxm).2 (by omega) ⟨cntI_nonneg rest x.a x.s, by omega⟩ hap.1 _ HCA.out.row HCA.out.cnt)
        clear hcb hcb2 hxm
        go_wp2_with fail
        refine HCt.out.mono ?_
        rintro e wD ⟨⟨v9, rfl⟩, hcD, htD⟩
        rw [HRe.out, cntI_tail] at hcD
        have HcD := Lib.hid hcD
        have HTD : Hid (Turns w9 wD [mb]) := (HTA.out.mono (by simp)).trans htD (fun k hk => .inl hk)
        clear HCt hcD htD HCA HTA
        go_wp2_with fail
        obtain ⟨fC, f1, _, _⟩ := HC9.out.cells
        rw [← HN.out] at f1
        have b9 := HB9.out.cell 0
        simp at b9
        have hwm : w.heap.size ∉ [mb] := by simp; omega
        have hCm : C ∉ [mb] := by simpa using hap.1
        have k1 : ∀ t : Kept wD [], t.u.cell? ⟨w.heap.size, 0, none⟩ = some (.pointer (some ⟨C, 0, none⟩)) := fun t => t.h.cell (p := ⟨w.heap.size, 0, none⟩) (HTD.out.cell (p := ⟨w.heap.size, 0, none⟩) b9 hwm) (by simp)
        have k2 : ∀ t : Kept wD [], t.u.cell? ⟨C, 1, none⟩ = some (.slice (some ⟨L', 0, none⟩) n c') := fun t => t.h.cell (p := ⟨C, 1, none⟩) (HTD.out.cell (p := ⟨C, 1, none⟩) f1 hCm) (by simp)
        have HOD : Hid (OwnI wD.drew B (.slice (some ⟨L', 0, none⟩) n c') n (x :: rest')) := by
          have := HC9.out.own
          rw [← HN.out, HRe.out] at this
          exact (OwnI.turns this HTD.out (by intro k hk hm; simp at hm; subst hm; exact hap.2.2 hk)).turns (Turns.refl wD []).drew (by simp)
        clear fC f1 b9
        have hn1' : rest'.length = n - 1 := by rw [HN.out, HRe.out]; simp
        have H1i : Hid (∀ u ∈ itsV rest', u.oneCell' = true) := itsV_one rest'
        by_cases hc1 : c' = 1
        case' pos =>
          have e0 : rest'.length = 0 := by omega
          have HCl : Hid (Calls Try.prog 24 #[.slice (some ⟨L', 0, none⟩) 0 0] wD.drew fun e w' => ∃ A' c', e = .returned (.slice A' rest'.length c') ∧ w'.ownsRow wD.drew.heap.size 61 4 (.slice A' rest'.length c') rest'.length (itsV rest') ∧ Below wD.drew.heap.size wD.drew w') := by
            unfold Hid; rw [e0]
            have e1 : rest' = [] := List.eq_nil_of_length_eq_zero e0
            exact CloneI_any (some ⟨L', 0, none⟩) 0 0 (itsV rest') (by omega) wD.drew (by rw [e1]; exact Src.of_at (by simp [itsV]) (fun j u hu => by simp [itsV] at hu)) H1i.out
          clear e0
          subst hc1
        case' neg =>
          have HCl : Hid (Calls Try.prog 24 #[.slice (some ⟨L', 4, none⟩) (n - 1) (c' - 1)] wD.drew fun e w' => ∃ A' c', e = .returned (.slice A' rest'.length c') ∧ w'.ownsRow wD.drew.heap.size 61 4 (.slice A' rest'.length c') rest'.length (itsV rest') ∧ Below wD.drew.heap.size wD.drew w') := by
            unfold Hid; rw [hn1']
            exact CloneI_any (some ⟨L', 4, none⟩) (n - 1) (c' - 1) (itsV rest') (by omega) wD.drew HOD.out.srcTail H1i.out
        all_goals
          have Hn1 := Lib.hid hn1'
          clear hn1'
          have hnn : n - 1 ≤ 100000 := by omega
          (refine region_kept ([]) [0, 1, 2, 3, 4, 5] [6, 7, 8, 9] (by kernel_rfl) (by kernel_rfl) (fun _ _ _ _ _ h => h) ?_; simp only [List.filterMap_cons, List.getElem?_cons_zero, List.getElem?_cons_succ, List.filterMap_nil]; (repeat ((show wpQuiet _ _ _ _ (_ :: _) _); go_big_quiet_step (fail))); refine wpQuiet_nil ?_)
          clear k1 k2
          refine wpSeqS_step ?_
          go_wp2_with fail
          refine HCl.out.mono ?_
          rintro e wE ⟨A12, c12, rfl, hE, hbE⟩
          have HE12 := Lib.hid hE
          have HBE : Hid (Below wD.heap.size wD wE) := (Below.refl _ _).drew.trans hbE
          clear HCl hE hbE
          go_wp2_with fail
          refine outQ_normal (Turns.of_below HBE.out _) ?_
          refine wpSeqS_step ?_
          go_wp2_with fail
          refine outQ_normal (Turns.of_below HBE.out _) ?_
          refine wpSeqS_step ?_
          go_wp2_with fail
          refine outQ_normal (Turns.of_below HBE.out _) ?_
          refine wpSeqS_last ?_
          have HTE : Hid (Turns w9 wE [mb]) := HTD.out.trans (Turns.of_below HBE.out [mb]) (fun k hk => .inl hk)
          have HRE := Lib.hid (HTE.out.row HC9.out.row (by simpa using hap.1))
          have q1 := HRE.out.cell 1
          have q2 := HRE.out.frozen 1
          simp at q1
          go_wp2_with fail
          have hn1' := Hn1.out
          have HTs : Hid (Turns w9 (wE.setCell ⟨C, 1, none⟩ (.slice A12 rest'.length c12)) [C, mb]) := (HTE.out.mono (by simp)).setCell (by simp) _
          have hCD : C < wD.heap.size := by have := (HTD.out.row HC9.out.row (by simpa using hap.1)).lt; exact this
          have HRE2 : Hid (Row (wE.setCell ⟨C, 1, none⟩ (.slice A12 rest'.length c12)) C 55 #[.int .i64 (most : Nat), .slice A12 rest'.length c12, .int .i64 g, .map (some mb)]) := by
            have := HRE.out.put 1 (.slice A12 rest'.length c12)
            unfold Hid
            simpa using this
          have HTC : Hid (Turns wE (wE.setCell ⟨C, 1, none⟩ (.slice A12 rest'.length c12)) [C]) := (Turns.refl _ _).setCell (by simp) _
          have hblk12 : ∀ k ∈ blk A12, wD.heap.size ≤ k := fun k hk => (own_blk HE12.out k hk).1
          have HNB9 : Hid (∀ k ∈ [C, mb], ∀ cur, ¬ Row w9 k 5 cur) := by
            intro k hk cur hr
            refine HC9.out.no_bytes k ?_ cur hr
            simp only [List.mem_cons, List.not_mem_nil, or_false] at hk ⊢
            rcases hk with h1 | h1
            · exact .inl h1
            · exact .inr (.inl h1)
          have HCF : Hid (CHeld (wE.setCell ⟨C, 1, none⟩ (.slice A12 rest'.length c12)) B C mb most A12 c12 rest' g) := by
            refine ⟨HC9.out.hC, HRE2.out, ?_, fun y hy => ?_, fun y hy => HC9.out.wf y (by rw [HRe.out]; exact List.mem_cons_of_mem _ hy), HC9.out.hm, ?_, by have := HC9.out.few; rw [HRe.out] at this; simp at this; omega⟩
            · refine OwnI.turns (show OwnI wE B (.slice A12 rest'.length c12) rest'.length rest' from own_mono HE12.out ?_) HTC.out ?_
              · have := HC9.out.hC; simp; omega
              · intro k hk hm; simp at hm; have := hblk12 k hk; omega
            · exact (HC9.out.dat y (by rw [HRe.out]; exact List.mem_cons_of_mem _ hy)).turns HTs.out HNB9.out
            · exact (HcD.out.turns (Turns.of_below HBE.out []) (by simp)).turns HTC.out (by simpa using Ne.symm hap.1)
          have hwD : w.heap.size ≤ wD.heap.size := by have := HT9.out.size; have := HTD.out.size; omega
          have HBF : Hid (Row (wE.setCell ⟨C, 1, none⟩ (.slice A12 rest'.length c12)) w.heap.size 25 #[.pointer (some ⟨C, 0, none⟩)]) := HTs.out.row HB9.out (by simp; omega)
          have HOF : Hid ((wE.setCell ⟨C, 1, none⟩ (.slice A12 rest'.length c12)).ownsRow w.heap.size 32 3 (.slice (some ⟨L9, 0, none⟩) (m + 1) c9) (m + 1) (wrsV (out ++ [x]))) := HTs.out.own HO9.out (fun k hk => by
            simp [Value.ownBlock] at hk
            subst hk
            simp; omega)
          have HDF : Hid (∀ y ∈ out ++ [x], DatIs (wE.setCell ⟨C, 1, none⟩ (.slice A12 rest'.length c12)) B (.slice y.A y.l.length y.c) y.l) := fun y hy => (HD9.out y hy).turns HTs.out HNB9.out
          have HTF : Hid (Turns w (wE.setCell ⟨C, 1, none⟩ (.slice A12 rest'.length c12)) (C :: mb :: blk A)) := HT9.out.trans HTs.out (by simp)
          have hcell1 := HRE2.out.cell 1
          simp at hcell1
          have hm1 : (out ++ [x]).length = m + 1 := by rw [HM.out]; simp
          have hbk : ∀ k ∈ blk A12, k ∈ blk A ∨ w.heap.size ≤ k := fun k hk => .inr (Nat.le_trans hwD (hblk12 k hk))
          have hnq : (out ++ [x]).length = m + 1 := hm1
          case roundEnd =>
            refine ⟨⟨some ⟨L9, 0, none⟩, c9, A12, c12, out ++ [x], rest', by rw [hm1], by rw [HE.out, HRe.out]; simp, .inr (by omega), HCF.out, hbk, HBF.out, by rw [hm1]; exact HOF.out, HDF.out, HTF.out⟩, ?_⟩
            rw [hcell1, HF1.out]
            show rest'.length < n
            omega
      · have hle : n ≤ most := by omega
        go_wp2
        go_quiet (fail)
        go_wp2
        go_ret
        exact ⟨Ao, co, A', c', out, rest, x1, by rw [HM.out]; rfl, HXf.out, by rw [← HI1.out, ← HI2.out, HE.out], ⟨by rw [← HN.out]; exact hle, HOr.out.imp id (fun h => by rw [← HN.out] at h ⊢; omega)⟩, HC.out.below (below_drewN0 (Below.refl _ _) _), HA'.out, by rw [HM.out] at HO; exact HO.out, fun y hy => (HDo.out y hy).below (below_drewN0 (Below.refl _ _) _), HT.out.drewN _⟩
end Go.Proofs.Ytmppegknkeggcaa
