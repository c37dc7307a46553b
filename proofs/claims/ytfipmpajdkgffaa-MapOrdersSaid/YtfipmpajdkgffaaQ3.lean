/- What follows is laid together from several texts of mine, in their order. -/
import Derived.Test.YtfipmpajdkgffaaQ2
import Derived.Shelf.SlIterI.Nil
import Derived.Shelf.SortM.Plain
import Derived.Shelf.SortM.SortNone
import Derived.Sort.OwnSortedInts
import Derived.Laws.StructEq

namespace Go.Proofs.Ytfipmpajdkgffaa
open Go.RowKit Go.MapKept Go.ChangeMaps
attribute [local go_sem] Oper.semAt_some
attribute [local simp, local go_sem] wide_fn
set_option linter.unusedVariables false
set_option linter.unusedSimpArgs false

/-- Part n is in memory, at Pn. -/
def PartIn (w : World) (Mb Sb Q Db : Nat) (T F : List Nat) (S : Sm) (sh : Sh) (n : Nat) (w' : World) (Pn : Nat) : Prop :=
  ∃ P' pb' T' F' S' sh' x, SmAt w' Mb Sb Q Db P' pb' T' F' S' sh' ∧ Turns w w' T ∧ (∀ k ∈ T', k ∈ T ∨ w.heap.size ≤ k) ∧ (∀ k ∈ F', k ∈ F ∨ w.heap.size ≤ k) ∧ P' n = Pn ∧ S'.parts n = some x ∧ told S sh n = some x.b ∧ Goes 1 1 S sh S' sh'
/-- It could not be brought there. -/
def PartNo (w : World) (Mb Sb Q Db : Nat) (P pb : Nat → Nat) (T F : List Nat) (S : Sm) (sh : Sh) (n : Nat) (w' : World) (c : Int) : Prop :=
  ∃ S', SmAt w' Mb Sb Q Db P pb T F S' sh ∧ Turns w w' T ∧ Goes 0 0 S sh S' sh ∧ ((c = 8 ∧ told S sh n = none) ∨ (c = 3 ∧ sh.full = 0))
def PartP (w : World) (Mb Sb Q Db : Nat) (P pb : Nat → Nat) (T F : List Nat) (S : Sm) (sh : Sh) (n : Nat) (e : Ending) (w' : World) : Prop :=
  (∃ Pn, e = .returned (.tuple #[.pointer (some ⟨Pn, 0, none⟩), .int .i64 0]) ∧ PartIn w Mb Sb Q Db T F S sh n w' Pn) ∨ (∃ c, e = .returned (.tuple #[.pointer none, .int .i64 c]) ∧ PartNo w Mb Sb Q Db P pb T F S sh n w' c)
theorem part_any (w : World) (Mb Sb Q Db : Nat) (P pb : Nat → Nat) (T F : List Nat) (S : Sm) (sh : Sh) (h : SmAt w Mb Sb Q Db P pb T F S sh) (n : Nat) (hn : n < S.np) (hl : sh.L.length ≤ 262143) (hwl : Wl S sh) :
    Calls Try.prog 38 #[.pointer (some ⟨Mb, 0, none⟩), .int .i64 n] w (PartP w Mb Sb Q Db P pb T F S sh n) := by
  have hM : ∀ k ∈ [Mb], k ∈ T := by intro k hk; rw [List.mem_singleton.1 hk]; exact h.mem.1
  have hcl : S.cnt ≤ 4611686018427387904 := by have := hwl.held; have := h.sh.2.2.2.2; omega
  have hg := goes_tick hwl (nextC S.clock)
  cases hx : S.parts n with
  | some x =>
    refine (part_hit w Mb Sb Q Db P pb T F S sh h n hn x hx).mono (fun e w' ⟨he, ha, ht⟩ => .inl ⟨P n, he, P, pb, T, F, _, sh, { x with u := nextC S.clock }, ha, ht.mono (fun k hk => ?_), fun k hk => .inl hk, fun k hk => .inl hk, rfl, ?_, ?_, ?_⟩)
    · simp only [List.mem_cons, List.not_mem_nil, or_false] at hk
      rcases hk with rfl | rfl
      · exact h.mem.1
      · exact (h.part n x hx).2.2.1
    · simp only [Sm.part1, updP_same]
    · unfold told; rw [hx]
    · exact (hg.trans (goes_used hg.wl (show (S.tick (nextC S.clock)).parts n = some x from hx) (nextC S.clock))).mono (by omega) (by omega)
  | none =>
    have ht0 : told S sh n = readR S sh n := by unfold told; rw [hx]
    cases hr : readR S sh n with
    | none =>
      refine (part_bad w Mb Sb Q Db P pb T F S sh h n hn (by omega) hwl.len hx hr).mono (fun e w' ⟨he, ha, ht⟩ => .inr ⟨8, he, _, ha, ht.mono hM, hg, .inl ⟨rfl, ht0.trans hr⟩⟩)
    | some b =>
      by_cases hc : S.cnt < S.held
      · refine (part_room w Mb Sb Q Db P pb T F S sh h n hn (by omega) hwl.len hx b hr hc hcl).mono (fun e w' ⟨Zb, bb, hz, hb, he, ha, ht⟩ => .inl ⟨Zb, he, _, _, _, F, _, sh, ⟨b, false, nextC S.clock⟩, ha, ht.mono (fun k hk => ?_), fun k hk => ?_, fun k hk => .inl hk, by rw [if_pos rfl], ?_, ht0.trans hr, ?_⟩)
        · simp only [List.mem_cons, List.not_mem_nil, or_false] at hk
          rcases hk with rfl | rfl
          · exact h.mem.1
          · exact h.mem.2.1
        · simp only [List.mem_cons] at hk
          rcases hk with rfl | rfl | hk
          · exact .inr hz
          · exact .inr hb
          · exact .inl hk
        · simp only [Sm.add, updP_same]
        · exact (hg.trans (goes_add hg.wl (show (S.tick (nextC S.clock)).parts n = none from hx) (show readR (S.tick (nextC S.clock)) sh n = some b from hr) (nextC S.clock) hc)).mono (by omega) (by omega)
      · refine (part_evict w Mb Sb Q Db P pb T F S sh h n hn hl hwl.full hwl.len hx b hr (by omega) hcl hwl).mono (fun e w' he => ?_)
        rcases he with ⟨Zb, bb, o, y, S2, sh2, T', F', he, hy, hs, ha, ht, g1, g2⟩ | ⟨he, hf, ha, ht⟩
        · obtain ⟨hg2, hcl2, hpt⟩ := goes_save hg.wl hs
          obtain ⟨d, hd, _⟩ := hpt o y hy
          have hdf := hcl2 _ hd
          simp only at hdf
          subst hdf
          have hg3 := goes_drop hg2.wl hd rfl
          have hon : n ≠ o := fun e => by rw [← e, hx] at hy; cases hy
          have hsame := saveR_same hs
          have hcnt : S2.cnt = S.cnt := by rcases hs with ⟨_, _, _, _, rfl, _⟩ | ⟨_, rfl, _⟩ <;> rfl
          have hcn : (S2.drop o).cnt < (S2.drop o).held := by
            have h1 : (S2.drop o).cnt = S2.cnt - 1 := rfl
            have h2 : (S2.drop o).held = S.held := hg2.held
            have h3 := hwl.held
            have h4 := h.sh.2.2.2.1
            omega
          have hxn : (S2.drop o).parts n = none := by
            show updP S2.parts o none n = none
            rw [updP_ne hon]; exact hsame.2.2.2 n hx
          have hrn : readR (S2.drop o) sh2 n = some b := by
            have h1 := (hg.trans (hg2.trans hg3)).told n b (ht0.trans hr)
            unfold told at h1
            rw [hxn] at h1; exact h1
          exact .inl ⟨Zb, he, _, _, T', F', _, sh2, ⟨b, false, nextC S.clock⟩, ha, ht, g1, g2, by rw [if_pos rfl], by simp only [Sm.add, updP_same], ht0.trans hr, ((hg.trans (hg2.trans hg3)).trans (goes_add hg3.wl hxn hrn (nextC S.clock) hcn)).mono (by omega) (by omega)⟩
        · exact .inr ⟨3, he, _, ha, ht, hg, .inr ⟨rfl, hf⟩⟩
theorem PartIn.drewN {w : World} {Mb Sb Q Db : Nat} {T F : List Nat} {S : Sm} {sh : Sh} {n : Nat} {w' : World} {Pn : Nat} (h : PartIn w Mb Sb Q Db T F S sh n w' Pn) (k : Nat) : PartIn w Mb Sb Q Db T F S sh n (w'.drewN k) Pn := by
  obtain ⟨P', pb', T', F', S', sh', x, ha, ht, hr⟩ := h
  exact ⟨P', pb', T', F', S', sh', x, ha.drewN k, ht.drewN k, hr⟩
theorem PartNo.drewN {w : World} {Mb Sb Q Db : Nat} {P pb : Nat → Nat} {T F : List Nat} {S : Sm} {sh : Sh} {n : Nat} {w' : World} {c : Int} (h : PartNo w Mb Sb Q Db P pb T F S sh n w' c) (k : Nat) : PartNo w Mb Sb Q Db P pb T F S sh n (w'.drewN k) c := by
  obtain ⟨S', ha, ht, hr⟩ := h
  exact ⟨S', ha.drewN k, ht.drewN k, hr⟩
theorem each_any (w : World) (Mb pg : Nat) (hpg : pg ≤ 4096) (c1 : w.cell? ⟨Mb, 1, none⟩ = some (.int .i64 pg)) : Calls Try.prog 39 #[.pointer (some ⟨Mb, 0, none⟩)] w fun e w' => e = .returned (.int .i64 (pg / 4 : Nat)) ∧ w = w' := by
  go_enter Try.func39, Try.ntmps39
  go_wp2
  go_ret
  exact ⟨by first | rfl | (congr 1; congr 1; omega), rfl⟩
/-- at, of a sector that there is. -/
def AtP (w : World) (Mb Sb Q Db : Nat) (P pb : Nat → Nat) (T F : List Nat) (S : Sm) (sh : Sh) (s : Nat) (e : Ending) (w' : World) : Prop :=
  (∃ Pn, e = .returned (.tuple #[.pointer (some ⟨Pn, 0, none⟩), .int .i64 (s % S.each * 4 : Nat), .int .i64 0]) ∧ PartIn w Mb Sb Q Db T F S sh (s / S.each) w' Pn) ∨ (∃ c, e = .returned (.tuple #[.pointer none, .int .i64 (s % S.each * 4 : Nat), .int .i64 c]) ∧ PartNo w Mb Sb Q Db P pb T F S sh (s / S.each) w' c)
theorem SmAt.bounds {w : World} {Mb Sb Q Db : Nat} {P pb : Nat → Nat} {T F : List Nat} {S : Sm} {sh : Sh} (h : SmAt w Mb Sb Q Db P pb T F S sh) {s : Nat} (hs : s < S.sectors) : s / S.each < S.np ∧ 0 < S.each ∧ S.each * 4 = S.page ∧ S.each ≤ 1024 := by
  have h1 := h.sh
  have h2 : S.each * 4 = S.page := by unfold Sm.each; omega
  refine ⟨?_, by omega, h2, by omega⟩
  unfold Sm.np
  exact Nat.lt_succ_of_le (Nat.div_le_div_right (by omega))
theorem at_out (w : World) (Mb Sb Q Db : Nat) (P pb : Nat → Nat) (T F : List Nat) (S : Sm) (sh : Sh) (h : SmAt w Mb Sb Q Db P pb T F S sh) (s : Int) (hs : s < 0 ∨ (S.sectors : Int) ≤ s) :
    Calls Try.prog 25 #[.pointer (some ⟨Mb, 0, none⟩), .int .i64 s] w fun e w' => e = .returned (.tuple #[.pointer none, .int .i64 0, .int .i64 1]) ∧ Below w.heap.size w w' := by
  have c0 := h.row.cell 0
  simp only [List.getElem?_toArray, List.getElem?_cons_zero, List.getElem?_cons_succ] at c0
  obtain ⟨st, hst⟩ : ∃ st, st = S.sectors := ⟨_, rfl⟩
  rw [← hst] at c0 hs
  clear h hst
  by_cases h0 : s < 0
  · clear hs
    go_enter Try.func25, Try.ntmps25
    go_wp2
    go_ret3
    exact ⟨rfl, by (repeat (first | (with_reducible refine Below.drew ?_) | (with_reducible refine below_drewN0 ?_ _) | ((with_reducible refine Below.setCell ?_ ?_ _); rotate_left; focus (first | omega | (simp; done) | (simp; omega) | (simp at *; omega))) | ((with_reducible refine Below.alloc ?_ ?_ _); rotate_left; focus (first | omega | (simp; done) | (simp; omega) | (simp at *; omega))) | (with_reducible exact Below.refl _ _)))⟩
  · have h1 : (st : Int) ≤ s := by omega
    clear hs
    go_enter Try.func25, Try.ntmps25
    go_wp2
    go_ret3
    exact ⟨rfl, by (repeat (first | (with_reducible refine Below.drew ?_) | (with_reducible refine below_drewN0 ?_ _) | ((with_reducible refine Below.setCell ?_ ?_ _); rotate_left; focus (first | omega | (simp; done) | (simp; omega) | (simp at *; omega))) | ((with_reducible refine Below.alloc ?_ ?_ _); rotate_left; focus (first | omega | (simp; done) | (simp; omega) | (simp at *; omega))) | (with_reducible exact Below.refl _ _)))⟩
theorem quo_nat (s e : Nat) : ((s : Int).tdiv (e : Int)) = ((s / e : Nat) : Int) := by
  exact Int.ofNat_tdiv s e |>.symm
theorem rem_nat (s e : Nat) : ((s : Int).tmod (e : Int)) = ((s % e : Nat) : Int) := by
  exact (Int.ofNat_tmod s e).symm
set_option maxHeartbeats 1000000 in
theorem at_in (w : World) (Mb Sb Q Db : Nat) (P pb : Nat → Nat) (T F : List Nat) (S : Sm) (sh : Sh) (h : SmAt w Mb Sb Q Db P pb T F S sh) (s : Nat) (hs : s < S.sectors) (hl : sh.L.length ≤ 262143) (hwl : Wl S sh) :
    Calls Try.prog 25 #[.pointer (some ⟨Mb, 0, none⟩), .int .i64 s] w (AtP w Mb Sb Q Db P pb T F S sh s) := by
  obtain ⟨b1, b2, b3, b4⟩ := h.bounds hs
  have c0 := h.row.cell 0
  have c1 := h.row.cell 1
  simp only [List.getElem?_toArray, List.getElem?_cons_zero, List.getElem?_cons_succ] at c0 c1
  have hs6 : s < 4294967296 := Nat.lt_of_lt_of_le hs h.sh.2.1
  have HEa : Hid (∀ v, v.cell? ⟨Mb, 1, none⟩ = some (.int .i64 S.page) → Calls Try.prog 39 #[.pointer (some ⟨Mb, 0, none⟩)] v fun e w' => e = .returned (.int .i64 S.each) ∧ v = w') := fun v hv => each_any v Mb S.page h.sh.2.2.1.2.1 hv
  have HPa := Lib.hid (part_any w Mb Sb Q Db P pb T F S sh h (s / S.each) b1 hl hwl)
  obtain ⟨st, hst⟩ : ∃ st, st = S.sectors := ⟨_, rfl⟩
  rw [← hst] at c0 hs
  have HSt := Lib.hid hst
  have HH := Lib.hid h
  have HW := Lib.hid hwl
  clear h hst hwl b1 hl
  have HP : Hid (∃ K, K = AtP w Mb Sb Q Db P pb T F S sh s) := ⟨_, rfl⟩
  obtain ⟨K, hK⟩ := HP.out
  have HK := Lib.hid hK
  rw [← hK]
  clear hK HP
  obtain ⟨ea, hea⟩ : ∃ ea, ea = S.each := ⟨_, rfl⟩
  have HE := Lib.hid hea
  rw [← hea] at b2 b3 b4 HEa HPa
  clear hea
  obtain ⟨q, hq⟩ : ∃ q, q = s / ea := ⟨_, rfl⟩
  obtain ⟨r, hr⟩ : ∃ r, r = s % ea := ⟨_, rfl⟩
  have hqi : (s : Int) / (ea : Int) = (q : Int) := by rw [hq]; exact (Int.natCast_ediv s ea).symm
  have hri : (s : Int) % (ea : Int) = (r : Int) := by rw [hr]; exact (Int.natCast_emod s ea).symm
  have hq6 : q < 4294967296 := by have := Nat.div_le_self s ea; omega
  have hr6 : r < 1024 := by have := Nat.mod_lt s b2; omega
  rw [← hq] at HPa
  have HQ := Lib.hid hq
  have HR := Lib.hid hr
  clear hq hr
  go_enter Try.func25, Try.ntmps25
  go_wp2_with fail
  refine (HEa.out _ c1).mono ?_
  rintro e w' ⟨rfl, rfl⟩
  go_wp2_with fail
  refine HPa.out.mono ?_
  rintro e w2 hp
  rcases hp with ⟨Pn, rfl, hp⟩ | ⟨c, rfl, hp⟩
  · have HPp := Lib.hid hp
    have HE2 : Hid (∀ k, Calls Try.prog 39 #[.pointer (some ⟨Mb, 0, none⟩)] (w2.drewN k) fun e w' => e = .returned (.int .i64 ea) ∧ (w2.drewN k) = w') := fun k => HEa.out _ (by
      obtain ⟨P', pb', T', F', S', sh', x, ha, _, _, _, _, _, _, hg⟩ := hp
      have := (ha.drewN k).cells.1
      rw [hg.page] at this; exact this)
    clear hp c0 c1 hqi
    go_wp2
    go_quiet ((go_at_call 39; exact quiet_same (HE2.out _)))
    go_wp2
    go_ret3
    rw [HK.out]
    exact .inl ⟨Pn, by rw [← HE.out, ← HR.out]; rfl, by rw [← HE.out, ← HQ.out]; exact HPp.out.drewN _⟩
  · have HPp := Lib.hid hp
    have HE2 : Hid (∀ k, Calls Try.prog 39 #[.pointer (some ⟨Mb, 0, none⟩)] (w2.drewN k) fun e w' => e = .returned (.int .i64 ea) ∧ (w2.drewN k) = w') := fun k => HEa.out _ (by
      obtain ⟨S', ha, _, hg, _⟩ := hp
      have := (ha.drewN k).cells.1
      rw [hg.page] at this; exact this)
    clear hp c0 c1 hqi
    go_wp2
    go_quiet ((go_at_call 39; exact quiet_same (HE2.out _)))
    go_wp2
    go_ret3
    rw [HK.out]
    exact .inr ⟨c, by rw [← HE.out, ← HR.out]; rfl, by rw [← HE.out, ← HQ.out]; exact HPp.out.drewN _⟩
end Go.Proofs.Ytfipmpajdkgffaa

namespace Go.Proofs.Ytfipmpajdkgffaa
open Go.RowKit Go.MapKept Go.ChangeMaps
attribute [local go_sem] Oper.semAt_some
attribute [local simp, local go_sem] wide_fn
set_option linter.unusedVariables false
set_option linter.unusedSimpArgs false

/-- What a sector is told. -/
def val (S : Sm) (sh : Sh) (s : Nat) : Option Nat := (told S sh (s / S.each)).map fun b => num4 b (s % S.each * 4)
/-- A map that has gone on. -/
def GoTo (w w' : World) (Mb Sb : Nat) (T F : List Nat) (k c : Nat) (S : Sm) (sh : Sh) : Prop := ∃ S' sh', SmTo w w' Mb Sb T F S' sh' ∧ Goes k c S sh S' sh'
def numV (v : Nat) : Value := .agg #[.int .i64 (if v = 0 then 0 else (v - 1) / 256 : Nat), .int .i64 (if v = 0 then 0 else (v - 1) % 256 : Nat)]
theorem PartIn.goTo {w : World} {Mb Sb Q Db : Nat} {T F : List Nat} {S : Sm} {sh : Sh} {n : Nat} {w' : World} {Pn : Nat} (h : PartIn w Mb Sb Q Db T F S sh n w' Pn) {w2 : World} (hb : Below w'.heap.size w' w2) : GoTo w w2 Mb Sb T F 1 1 S sh := by
  obtain ⟨P', pb', T', F', S', sh', x, ha, ht, h1, h2, _, _, _, hg⟩ := h
  exact ⟨S', sh', ⟨T', F', ⟨Q, Db, P', pb', ha.below hb⟩, ht.then_below hb, h1, h2⟩, hg⟩
theorem PartNo.goTo {w : World} {Mb Sb Q Db : Nat} {P pb : Nat → Nat} {T F : List Nat} {S : Sm} {sh : Sh} {n : Nat} {w' : World} {c : Int} (h : PartNo w Mb Sb Q Db P pb T F S sh n w' c) {w2 : World} (hb : Below w'.heap.size w' w2) : GoTo w w2 Mb Sb T F 0 0 S sh := by
  obtain ⟨S', ha, ht, hg, _⟩ := h
  exact ⟨S', sh, ⟨T, F, ⟨Q, Db, P, pb, ha.below hb⟩, ht.then_below hb, fun k hk => .inl hk, fun k hk => .inl hk⟩, hg⟩
theorem PartIn.goToZ {w w1 : World} {Mb Sb Q Db : Nat} {T F : List Nat} {S : Sm} {sh : Sh} {n : Nat} {w' : World} {Pn : Nat} (h : PartIn w1 Mb Sb Q Db T F S sh n w' Pn) {Z : Nat} (hb : Below w.heap.size w w1) {w2 : World} (ht2 : Turns w' w2 [Z]) (hz : w.heap.size ≤ Z ∧ Z < w1.heap.size) (hT : Z ∉ T ∧ Z ∉ F) : GoTo w w2 Mb Sb T F 1 1 S sh := by
  obtain ⟨P', pb', T', F', S', sh', x, ha, ht, h1, h2, _, _, _, hg⟩ := h
  refine ⟨S', sh', ⟨T', F', ⟨Q, Db, P', pb', ha.keep ht2 (fun k hk => ?_)⟩, ((Turns.of_below hb T).trans ht (fun k hk => .inl hk)).trans ht2 (fun k hk => .inr (by rw [List.mem_singleton.1 hk]; exact hz.1)), fun k hk => (h1 k hk).imp (fun h => h) (fun h => Nat.le_trans hb.size h), fun k hk => (h2 k hk).imp (fun h => h) (fun h => Nat.le_trans hb.size h)⟩, hg⟩
  rw [List.mem_singleton.1 hk]
  exact ⟨fun hm => (h1 _ hm).elim hT.1 (fun h => by omega), fun hm => (h2 _ hm).elim hT.2 (fun h => by omega)⟩
theorem PartNo.goToZ {w w1 : World} {Mb Sb Q Db : Nat} {P pb : Nat → Nat} {T F : List Nat} {S : Sm} {sh : Sh} {n : Nat} {w' : World} {c : Int} (h : PartNo w1 Mb Sb Q Db P pb T F S sh n w' c) {Z : Nat} (hb : Below w.heap.size w w1) {w2 : World} (ht2 : Turns w' w2 [Z]) (hz : w.heap.size ≤ Z) (hT : Z ∉ T ∧ Z ∉ F) : GoTo w w2 Mb Sb T F 0 0 S sh := by
  obtain ⟨S', ha, ht, hg, _⟩ := h
  exact ⟨S', sh, ⟨T, F, ⟨Q, Db, P, pb, ha.keep ht2 (fun k hk => by rw [List.mem_singleton.1 hk]; exact hT)⟩, ((Turns.of_below hb T).trans ht (fun k hk => .inl hk)).trans ht2 (fun k hk => .inr (by rw [List.mem_singleton.1 hk]; exact hz)), fun k hk => .inl hk, fun k hk => .inl hk⟩, hg⟩
/-- From an earlier world: its map the same. -/
theorem GoTo.early {w0 w w' : World} {Mb Sb : Nat} {T F : List Nat} {k c : Nat} {S : Sm} {sh : Sh} (h : GoTo w w' Mb Sb T F k c S sh) (hb : Below w0.heap.size w0 w) : GoTo w0 w' Mb Sb T F k c S sh := by
  obtain ⟨S', sh', ⟨T', F', h1, h2, h3, h4⟩, hg⟩ := h
  exact ⟨S', sh', ⟨T', F', h1, (Turns.of_below hb T).trans h2 (fun k hk => .inl hk), fun k hk => (h3 k hk).imp (fun h => h) (fun h => Nat.le_trans hb.size h), fun k hk => (h4 k hk).imp (fun h => h) (fun h => Nat.le_trans hb.size h)⟩, hg⟩
theorem get_results (tmps : Array Value) (w : World) (g : Nat) (a b : Int) (is : Bool) (e : Int) (h4 : tmps.getD 4 undef = .pointer (some ⟨g, 0, none⟩)) (h5 : tmps.getD 5 undef = .bool is) (h6 : tmps.getD 6 undef = .int .i64 e) (hr : Row w g 28 #[.int .i64 a, .int .i64 b]) :
    (results Try.f12 tmps).run Try.prog w = .ok (.tuple #[.agg #[.int .i64 a, .int .i64 b], .bool is, .int .i64 e]) w := by
  have h4' : tmps[4]?.getD undef = .pointer (some ⟨g, 0, none⟩) := by simpa using h4
  have h5' : tmps[5]?.getD undef = .bool is := by simpa using h5
  have h6' : tmps[6]?.getD undef = .int .i64 e := by simpa using h6
  have c0 := hr.cell 0
  have c1 := hr.cell 1
  simp only [List.getElem?_toArray, List.getElem?_cons_zero, List.getElem?_cons_succ] at c0 c1
  simp [results, Try.results12, asAddr, h4', h5', h6', go_sem, c0, c1]
def GetP (w : World) (Mb Sb : Nat) (T F : List Nat) (S : Sm) (sh : Sh) (s : Nat) (e : Ending) (w' : World) : Prop :=
  (∃ v, val S sh s = some v ∧ e = .returned (.tuple #[numV v, .bool (decide (v ≠ 0)), .int .i64 0]) ∧ GoTo w w' Mb Sb T F 1 1 S sh) ∨
  (∃ c, e = .returned (.tuple #[numV 0, .bool false, .int .i64 c]) ∧ ((c = 8 ∧ val S sh s = none) ∨ (c = 3 ∧ sh.full = 0)) ∧ GoTo w w' Mb Sb T F 0 0 S sh)
theorem Get_out (w : World) (Mb Sb : Nat) (T F : List Nat) (S : Sm) (sh : Sh) (h : SmIs w Mb Sb T F S sh) (s : Int) (hs : s < 0 ∨ (S.sectors : Int) ≤ s) :
    Calls Try.prog 12 #[.pointer (some ⟨Mb, 0, none⟩), .int .i64 s] w fun e w' => e = .returned (.tuple #[numV 0, .bool false, .int .i64 1]) ∧ Below w.heap.size w w' := by
  obtain ⟨Q, Db, P, pb, h⟩ := h
  have HB1 : Hid (Below w.heap.size w (w.alloc (.cells #[.int .i64 0, .int .i64 0] 28))) := by unfold Hid; (repeat (first | (with_reducible refine Below.drew ?_) | (with_reducible refine below_drewN0 ?_ _) | ((with_reducible refine Below.setCell ?_ ?_ _); rotate_left; focus (first | omega | (simp; done) | (simp; omega) | (simp at *; omega))) | ((with_reducible refine Below.alloc ?_ ?_ _); rotate_left; focus (first | omega | (simp; done) | (simp; omega) | (simp at *; omega))) | (with_reducible exact Below.refl _ _)))
  have HZ1 : Hid (Row (w.alloc (.cells #[.int .i64 0, .int .i64 0] 28)) w.heap.size 28 #[.int .i64 0, .int .i64 0]) := Row.fresh _ _ _
  have HAt := Lib.hid (at_out _ Mb Sb Q Db P pb T F S sh (h.below HB1.out) s hs)
  clear h hs
  go_enter Try.func12, Try.ntmps12
  go_wp2_with fail
  refine HAt.out.mono ?_
  rintro e w2 ⟨rfl, hb⟩
  have HB2 : Hid (Below w.heap.size w w2) := HB1.out.trans (hb.mono HB1.out.size)
  have HZ2 : Hid (Row w2 w.heap.size 28 #[.int .i64 0, .int .i64 0]) := HZ1.out.below hb HZ1.out.lt
  have z0 := HZ2.out.cell 0
  have z1 := HZ2.out.cell 1
  have g0 := HZ2.out.frozen 0
  have g1 := HZ2.out.frozen 1
  simp only [List.getElem?_toArray, List.getElem?_cons_zero, List.getElem?_cons_succ] at z0 z1
  clear hb HAt
  go_wp2
  exact bodyPost_ret (v := .tuple #[numV 0, .bool false, .int .i64 1]) (get_results _ _ w.heap.size 0 0 false 1 rfl rfl rfl (by simpa using (HZ2.out.put 0 (.int .i64 0)).put 1 (.int .i64 0))) rfl ⟨rfl, (HB2.out.setCell (Nat.le_refl _) _).setCell (Nat.le_refl _) _⟩
set_option maxHeartbeats 1000000 in
theorem Get_any (w : World) (Mb Sb : Nat) (T F : List Nat) (S : Sm) (sh : Sh) (h : SmIs w Mb Sb T F S sh) (s : Nat) (hs : s < S.sectors) (hl : sh.L.length ≤ 262143) (hwl : Wl S sh) :
    Calls Try.prog 12 #[.pointer (some ⟨Mb, 0, none⟩), .int .i64 s] w (GetP w Mb Sb T F S sh s) := by
  obtain ⟨Q, Db, P, pb, h⟩ := h
  have HB1 : Hid (Below w.heap.size w (w.alloc (.cells #[.int .i64 0, .int .i64 0] 28))) := by unfold Hid; (repeat (first | (with_reducible refine Below.drew ?_) | (with_reducible refine below_drewN0 ?_ _) | ((with_reducible refine Below.setCell ?_ ?_ _); rotate_left; focus (first | omega | (simp; done) | (simp; omega) | (simp at *; omega))) | ((with_reducible refine Below.alloc ?_ ?_ _); rotate_left; focus (first | omega | (simp; done) | (simp; omega) | (simp at *; omega))) | (with_reducible exact Below.refl _ _)))
  have HZ1 : Hid (Row (w.alloc (.cells #[.int .i64 0, .int .i64 0] 28)) w.heap.size 28 #[.int .i64 0, .int .i64 0]) := Row.fresh _ _ _
  have HZT : Hid (w.heap.size ∉ T) := fun hm => by have := h.lt _ (.inl hm); omega
  have HZF : Hid (w.heap.size ∉ F) := fun hm => by have := h.lt _ (.inr hm); omega
  have HAt := Lib.hid (at_in _ Mb Sb Q Db P pb T F S sh (h.below HB1.out) s hs hl hwl)
  obtain ⟨b1, b2, b3, b4⟩ := h.bounds hs
  have hpg := h.sh.2.2.1
  obtain ⟨pg, hp⟩ : ∃ pg, pg = S.page := ⟨_, rfl⟩
  have HPg := Lib.hid hp
  rw [← hp] at hpg b3
  obtain ⟨r, hr⟩ : ∃ r, r = s % S.each * 4 := ⟨_, rfl⟩
  have HR := Lib.hid hr
  have hr6 : r + 4 ≤ pg := by have := Nat.mod_lt s b2; omega
  have HWl := Lib.hid hwl
  have HK : Hid (∃ K, K = GetP w Mb Sb T F S sh s) := ⟨_, rfl⟩
  obtain ⟨K, hK⟩ := HK.out
  have HKe := Lib.hid hK
  rw [← hK]
  clear hK HK h hs hl hwl b1 b2 b3 b4 hr hp
  unfold AtP at HAt
  rw [← HR.out] at HAt
  go_enter Try.func12, Try.ntmps12
  go_wp2_with fail
  refine HAt.out.mono ?_
  rintro e w2 (⟨Pn, rfl, hp⟩ | ⟨c, rfl, hp⟩)
  · have HPp := Lib.hid hp
    obtain ⟨P', pb', T', F', S', sh', x, ha, ht, g1, g2, hPn, hx, htd, hg⟩ := hp
    have HZ2 : Hid (Row w2 w.heap.size 28 #[.int .i64 0, .int .i64 0]) := ht.row HZ1.out HZT.out
    obtain ⟨_, hpt, _, _⟩ := ha.part _ x hx
    rw [hPn] at hpt
    obtain ⟨cap, hrow, hcap⟩ := hpt.row
    rw [show S'.page = pg from hg.page.trans HPg.out.symm] at hrow hcap
    have p0 := hrow.cell 0
    simp only [List.getElem?_toArray, List.getElem?_cons_zero, List.getElem?_cons_succ] at p0
    obtain ⟨cs, b1, b2, b3⟩ := hpt.bytes
    rw [show S'.page = pg from hg.page.trans HPg.out.symm] at b2 b3
    have HGt : Hid (∀ c, Calls Try.prog 26 #[.slice (some ⟨pb' (s / S.each), r, none⟩) (pg - r) c] w2 fun e w' => e = .returned (.int .u32 (num4 x.b r)) ∧ ∃ k, w' = w2.drewN k) := fun c => get_any _ _ x.b r (by omega) hpt.small w2 _ r (fun j hj => by rw [b1.cell]; exact b3 (r + j) (by omega))
    have HN4 : Hid (num4 x.b r < 4294967296) := by
      have h1 := getD_lt hpt.small r
      have h2 := getD_lt hpt.small (r + 1)
      have h3 := getD_lt hpt.small (r + 2)
      have h4 := getD_lt hpt.small (r + 3)
      unfold Hid num4; omega
    have HV : Hid (val S sh s = some (num4 x.b r)) := by unfold Hid val; rw [htd, HR.out]; rfl
    generalize pb' (s / S.each) = bb at *
    obtain ⟨v, hv⟩ : ∃ v, v = num4 x.b r := ⟨_, rfl⟩
    rw [← hv] at HGt HN4 HV
    clear ha ht g1 g2 hPn hx htd hg hpt hrow b1 b2 b3 hv
    go_wp2_with fail
    refine (HGt.out _).mono ?_
    rintro e w3 ⟨rfl, k, rfl⟩
    have HZ3 : Hid (Row (w2.drewN k) w.heap.size 28 #[.int .i64 0, .int .i64 0]) := HZ2.out
    by_cases hv0 : v = 0
    · subst hv0
      have z0 := HZ3.out.cell 0
      have z1 := HZ3.out.cell 1
      have g0 := HZ3.out.frozen 0
      have g1 := HZ3.out.frozen 1
      simp only [List.getElem?_toArray, List.getElem?_cons_zero, List.getElem?_cons_succ] at z0 z1
      go_wp2
      rw [HKe.out]
      exact bodyPost_ret (v := .tuple #[numV 0, .bool false, .int .i64 0]) (get_results _ _ w.heap.size 0 0 false 0 rfl rfl rfl (by simpa using (HZ3.out.put 0 (.int .i64 0)).put 1 (.int .i64 0))) rfl (.inl ⟨0, HV.out, rfl, (HPp.out.drewN k).goToZ HB1.out (((Turns.refl _ _).setCell (by simp) _).setCell (by simp) _) ⟨Nat.le_refl _, by simp⟩ ⟨HZT.out, HZF.out⟩⟩)
    · have h1 : ¬ (v : Int) = 0 := by omega
      have h2 : ((v : Int) == 0) = false := beq_eq_false_iff_ne.2 h1
      have hvn := HN4.out
      have HPl := Lib.hid (place_any v (by omega) (w2.drewN k))
      have HNv : Hid (numV v = .agg #[.int .i64 ((v - 1) / 256 : Nat), .int .i64 ((v - 1) % 256 : Nat)]) := by unfold Hid numV; rw [if_neg hv0, if_neg hv0]
      clear hvn
      generalize (v - 1) / 256 = pa at *
      generalize (v - 1) % 256 = pb at *
      go_wp2_with fail
      refine HPl.out.mono ?_
      rintro e w4 ⟨rfl, hb⟩
      have HZ4 : Hid (Row w4 w.heap.size 28 #[.int .i64 0, .int .i64 0]) := HZ3.out.below hb HZ3.out.lt
      have HB4 := Lib.hid hb
      have z0 := HZ4.out.cell 0
      have z1 := HZ4.out.cell 1
      have g0 := HZ4.out.frozen 0
      have g1 := HZ4.out.frozen 1
      simp only [List.getElem?_toArray, List.getElem?_cons_zero, List.getElem?_cons_succ] at z0 z1
      clear hb HPl
      go_wp2
      rw [HKe.out]
      exact bodyPost_ret (v := .tuple #[.agg #[.int .i64 pa, .int .i64 pb], .bool true, .int .i64 0]) (get_results _ _ w.heap.size pa pb true 0 rfl rfl rfl (by simpa using (HZ4.out.put 0 (.int .i64 pa)).put 1 (.int .i64 pb))) rfl (.inl ⟨v, HV.out, by rw [HNv.out, decide_eq_true (show v ≠ 0 from hv0)], (HPp.out.drewN k).goToZ HB1.out (((Turns.of_below HB4.out _).setCell (by simp) _).setCell (by simp) _) ⟨Nat.le_refl _, by simp⟩ ⟨HZT.out, HZF.out⟩⟩)
  · have HPp := Lib.hid hp
    obtain ⟨S', ha, ht, hg, hc⟩ := hp
    have HZ2 : Hid (Row w2 w.heap.size 28 #[.int .i64 0, .int .i64 0]) := ht.row HZ1.out HZT.out
    have hc0 : c = 8 ∨ c = 3 := hc.imp (fun h => h.1) (fun h => h.1)
    have HC : Hid ((c = 8 ∧ val S sh s = none) ∨ (c = 3 ∧ sh.full = 0)) := hc.imp (fun h => ⟨h.1, by unfold val; rw [h.2]; rfl⟩) (fun h => h)
    have z0 := HZ2.out.cell 0
    have z1 := HZ2.out.cell 1
    have g0 := HZ2.out.frozen 0
    have g1 := HZ2.out.frozen 1
    simp only [List.getElem?_toArray, List.getElem?_cons_zero, List.getElem?_cons_succ] at z0 z1
    clear ha ht hg hc
    rcases hc0 with rfl | rfl
    · go_wp2
      rw [HKe.out]
      exact bodyPost_ret (v := .tuple #[numV 0, .bool false, .int .i64 8]) (get_results _ _ w.heap.size 0 0 false 8 rfl rfl rfl (by simpa using (HZ2.out.put 0 (.int .i64 0)).put 1 (.int .i64 0))) rfl (.inr ⟨8, rfl, by simpa using HC.out, HPp.out.goToZ HB1.out (((Turns.refl _ _).setCell (by simp) _).setCell (by simp) _) (Nat.le_refl _) ⟨HZT.out, HZF.out⟩⟩)
    · go_wp2
      rw [HKe.out]
      exact bodyPost_ret (v := .tuple #[numV 0, .bool false, .int .i64 3]) (get_results _ _ w.heap.size 0 0 false 3 rfl rfl rfl (by simpa using (HZ2.out.put 0 (.int .i64 0)).put 1 (.int .i64 0))) rfl (.inr ⟨3, rfl, by simpa using HC.out, HPp.out.goToZ HB1.out (((Turns.refl _ _).setCell (by simp) _).setCell (by simp) _) (Nat.le_refl _) ⟨HZT.out, HZF.out⟩⟩)
end Go.Proofs.Ytfipmpajdkgffaa

namespace Go.Proofs.Ytfipmpajdkgffaa
open Go.RowKit Go.MapKept Go.ChangeMaps
attribute [local go_sem] Oper.semAt_some
attribute [local simp, local go_sem] wide_fn
set_option linter.unusedVariables false
set_option linter.unusedSimpArgs false

/-- Four bytes laid from i on. -/
def setN (b : List Nat) (i v : Nat) : List Nat := (((b.set i (v % 256)).set (i + 1) (v / 256 % 256)).set (i + 2) (v / 65536 % 256)).set (i + 3) (v / 16777216 % 256)
theorem setN_length (b : List Nat) (i v : Nat) : (setN b i v).length = b.length := by simp [setN]
theorem setN_get (b : List Nat) (i v j : Nat) (hi : i + 4 ≤ b.length) : (setN b i v).getD j 0 = if i ≤ j ∧ j < i + 4 then v / 256 ^ (j - i) % 256 else b.getD j 0 := by
  have g : ∀ (l : List Nat) (k x : Nat), k < l.length → (l.set k x).getD j 0 = if k = j then x else l.getD j 0 := fun l k x hk => by
    simp only [List.getD_eq_getElem?_getD, List.getElem?_set]
    by_cases e : k = j
    · rw [if_pos e, if_pos e, if_pos hk]; rfl
    · rw [if_neg e, if_neg e]
  unfold setN
  rw [g _ _ _ (by simp; omega), g _ _ _ (by simp; omega), g _ _ _ (by simp; omega), g _ _ _ (by omega)]
  by_cases e3 : i + 3 = j
  · subst e3; rw [if_pos rfl, if_pos (by omega), show i + 3 - i = 3 by omega]
  · rw [if_neg e3]
    by_cases e2 : i + 2 = j
    · subst e2; rw [if_pos rfl, if_pos (by omega), show i + 2 - i = 2 by omega]
    · rw [if_neg e2]
      by_cases e1 : i + 1 = j
      · subst e1; rw [if_pos rfl, if_pos (by omega), show i + 1 - i = 1 by omega, Nat.pow_one]
      · rw [if_neg e1]
        by_cases e0 : i = j
        · subst e0; rw [if_pos rfl, if_pos (by omega), Nat.sub_self, Nat.pow_zero, Nat.div_one]
        · rw [if_neg e0, if_neg (by omega)]
theorem setN_small {b : List Nat} (hb : ∀ u ∈ b, u < 256) (i v : Nat) : ∀ u ∈ setN b i v, u < 256 := by
  intro u hu
  unfold setN at hu
  rcases List.mem_or_eq_of_mem_set hu with hu | rfl
  · rcases List.mem_or_eq_of_mem_set hu with hu | rfl
    · rcases List.mem_or_eq_of_mem_set hu with hu | rfl
      · rcases List.mem_or_eq_of_mem_set hu with hu | rfl
        · exact hb u hu
        · omega
      · omega
    · omega
  · omega
theorem num4_setN_same (b : List Nat) (i v : Nat) (hi : i + 4 ≤ b.length) (hv : v < 4294967296) : num4 (setN b i v) i = v := by
  unfold num4
  rw [setN_get b i v i hi, setN_get b i v (i + 1) hi, setN_get b i v (i + 2) hi, setN_get b i v (i + 3) hi, if_pos (by omega), if_pos (by omega), if_pos (by omega), if_pos (by omega), show i - i = 0 by omega, show i + 1 - i = 1 by omega, show i + 2 - i = 2 by omega, show i + 3 - i = 3 by omega]
  simp only [Nat.pow_zero, Nat.pow_one, Nat.reducePow, Nat.div_one]
  omega
theorem num4_setN_other (b : List Nat) (i v j : Nat) (hi : i + 4 ≤ b.length) (hij : j + 4 ≤ i ∨ i + 4 ≤ j) : num4 (setN b i v) j = num4 b j := by
  unfold num4
  rw [setN_get b i v j hi, setN_get b i v (j + 1) hi, setN_get b i v (j + 2) hi, setN_get b i v (j + 3) hi, if_neg (by omega), if_neg (by omega), if_neg (by omega), if_neg (by omega)]
theorem setN_num4 {b : List Nat} (hb : ∀ u ∈ b, u < 256) (i : Nat) (hi : i + 4 ≤ b.length) : setN b i (num4 b i) = b := by
  refine List.ext_getElem? (fun j => ?_)
  by_cases hj : j < b.length
  · have h1 : (setN b i (num4 b i)).getD j 0 = b.getD j 0 := by
      rw [setN_get b i _ j hi]
      by_cases h : i ≤ j ∧ j < i + 4
      · rw [if_pos h]
        have q0 := getD_lt hb i
        have q1 := getD_lt hb (i + 1)
        have q2 := getD_lt hb (i + 2)
        have q3 := getD_lt hb (i + 3)
        unfold num4
        have : j = i ∨ j = i + 1 ∨ j = i + 2 ∨ j = i + 3 := by omega
        rcases this with rfl | rfl | rfl | rfl
        · rw [Nat.sub_self, Nat.pow_zero]; omega
        · rw [show i + 1 - i = 1 by omega, Nat.pow_one]; omega
        · rw [show i + 2 - i = 2 by omega, show 256 ^ 2 = 65536 from rfl]; omega
        · rw [show i + 3 - i = 3 by omega, show 256 ^ 3 = 16777216 from rfl]; omega
      · rw [if_neg h]
    have l1 : j < (setN b i (num4 b i)).length := by rw [setN_length]; exact hj
    simp only [List.getD_eq_getElem?_getD, List.getElem?_eq_getElem hj, List.getElem?_eq_getElem l1, Option.getD_some] at h1
    rw [List.getElem?_eq_getElem hj, List.getElem?_eq_getElem l1, h1]
  · rw [List.getElem?_eq_none (by rw [setN_length]; omega), List.getElem?_eq_none (by omega)]
theorem okB_setN {page : Nat} {b : List Nat} (h : okB page b) {k v : Nat} (hk : k < page / 4) (hv : v ≤ 262144) : okB page (setN b (k * 4) v) := by
  have hl := h.1
  refine ⟨by rw [setN_length]; exact hl, fun i hi => ?_⟩
  by_cases e : i = k
  · subst e
    rw [Nat.mul_comm, num4_setN_same b _ v (by omega) (by omega)]; exact hv
  · rw [num4_setN_other b _ v _ (by omega) (by omega)]; exact h.2 i hi
/-- A map in which a sector's number was set. -/
structure Sets (s v : Nat) (k c : Nat) (S : Sm) (sh : Sh) (S' : Sm) (sh' : Sh) : Prop where
  sectors : S'.sectors = S.sectors
  page : S'.page = S.page
  held : S'.held = S.held
  told : ∀ m b, told S sh m = some b → told S' sh' m = some (if m = s / S.each then setN b (s % S.each * 4) v else b)
  wl : Wl S' sh'
  nw : Nw S sh → Nw S' sh'
  puts : sh.L.length ≤ sh'.L.length ∧ sh'.L.length ≤ sh.L.length + k
  cnt : S'.cnt ≤ S.cnt + c
  full : -1 ≤ sh'.full ∧ sh'.full ≤ sh.full
theorem Sm.part1_twice (S : Sm) (n : Nat) (x y : Pt) : (S.part1 n x).part1 n y = S.part1 n y := by
  unfold Sm.part1
  congr 1
  funext m
  by_cases e : m = n
  · subst e; simp [updP]
  · simp [updP, e]
section
variable {w w' : World} {Mb Sb Q Db : Nat} {P pb : Nat → Nat} {T F : List Nat} {S : Sm} {sh : Sh}
/-- A part's bytes are written anew. -/
theorem SmAt.partBytes (h : SmAt w Mb Sb Q Db P pb T F S sh) (n : Nat) (x : Pt) (b : List Nat) (hx : S.parts n = some x) (ht : Turns w w' [pb n]) (hb : ∃ cs : Array Value, Row w' (pb n) 5 cs ∧ S.page ≤ cs.size ∧ ∀ i, i < S.page → cs[i]? = some (.int .u8 (b.getD i 0))) (hl : b.length = S.page) (hsm : ∀ u ∈ b, u < 256) : SmAt w' Mb Sb Q Db P pb T F (S.part1 n { x with b := b }) sh := by
  obtain ⟨_, kp⟩ := h.kinds
  obtain ⟨_, ⟨e1, e2, e3, e4⟩, e5⟩ := kp n x hx
  obtain ⟨cs, d1, d2, d3⟩ := h.dir
  obtain ⟨f, m1, m2⟩ := h.map
  obtain ⟨hn, hp, hpT, hbT⟩ := h.part n x hx
  obtain ⟨v1, v2, xs, s1, s2, s3', s4, s5, s6⟩ := h.shelf.at'
  obtain ⟨Ts, t1, t2, t3⟩ := h.shelf.trim
  obtain ⟨cs0, hr0, _⟩ := hp.bytes
  have hTs : pb n ∉ Ts := not_shelf t3 hr0 (by decide)
  have hF : pb n ∉ F := fun hk => h.apart _ hk hbT
  have hsome : ∀ m, (updP S.parts n (some { x with b := b }) m).isSome = true → (S.parts m).isSome = true := fun m hm => by
    by_cases e : m = n
    · rw [e, hx]; rfl
    · rw [updP_ne e] at hm; exact hm
  refine ⟨ht.row h.row (by simpa using (fun e => e1 e.symm)), ⟨cs, ht.row d1 (by simpa using (fun e => e3 e.symm)), d2, d3⟩, ⟨f, m1.turns ht (by simpa using (fun e => e2 e.symm)), fun key v => ?_⟩, fun m y hy => ?_, fun a b hab ha hb' => h.inj a b hab (hsome a ha) (hsome b hb'), (t2.keep ht (fun k hk => by rw [List.mem_singleton.1 hk]; exact ⟨hTs, hF⟩)).mono t1 (fun k hk => hk), h.mem, h.apart, fun k hk => Nat.lt_of_lt_of_le (h.lt k hk) ht.size, h.sh⟩
  · rw [m2]
    constructor
    · rintro ⟨m, y, h1, h2, h3⟩
      by_cases e : m = n
      · subst e; exact ⟨m, _, updP_same _ _ _, h2, h3⟩
      · exact ⟨m, y, (updP_ne e).trans h1, h2, h3⟩
    · rintro ⟨m, y, h1, h2, h3⟩
      by_cases e : m = n
      · subst e; exact ⟨m, x, hx, h2, h3⟩
      · exact ⟨m, y, (updP_ne e).symm.trans h1, h2, h3⟩
  · by_cases e : m = n
    · subst e
      have hy' : updP S.parts m (some { x with b := b }) m = some y := hy
      rw [updP_same] at hy'
      injection hy' with hy'
      subst hy'
      obtain ⟨cap, r1, r2⟩ := hp.row
      exact ⟨hn, ⟨⟨cap, ht.row r1 (by simpa using e5 m x hx), r2⟩, hb, hl, hsm⟩, hpT, hbT⟩
    · have hy' : S.parts m = some y := (updP_ne e).symm.trans hy
      obtain ⟨a, b', c, d⟩ := h.part m y hy'
      have h2 := h.inj m n e (by rw [hy']; rfl) (by rw [hx]; rfl)
      obtain ⟨_, _, e6⟩ := kp m y hy'
      exact ⟨a, b'.keep ht (by simpa using e6 n x hx) (by simpa using h2.2), c, d⟩
end
end Go.Proofs.Ytfipmpajdkgffaa

namespace Go.Proofs.Ytfipmpajdkgffaa
open Go.RowKit Go.MapKept Go.ChangeMaps
attribute [local go_sem] Oper.semAt_some
attribute [local simp, local go_sem] wide_fn
set_option linter.unusedVariables false
set_option linter.unusedSimpArgs false

def SetP (w : World) (Mb Sb : Nat) (T F : List Nat) (S : Sm) (sh : Sh) (s v : Nat) (e : Ending) (w' : World) : Prop :=
  (e = .returned (.int .i64 0) ∧ (told S sh (s / S.each)).isSome = true ∧ ∃ S' sh', SmTo w w' Mb Sb T F S' sh' ∧ Sets s v 1 1 S sh S' sh') ∨
  (∃ c, e = .returned (.int .i64 c) ∧ ((c = 8 ∧ told S sh (s / S.each) = none) ∨ (c = 3 ∧ sh.full = 0)) ∧ GoTo w w' Mb Sb T F 0 0 S sh)
theorem sets_of {S S1 : Sm} {sh sh1 : Sh} {s v : Nat} {x : Pt} (hg : Goes 1 1 S sh S1 sh1) (hx : S1.parts (s / S.each) = some x) (ht : told S sh (s / S.each) = some x.b) (hr : s % S.each * 4 + 4 ≤ S.page) (hea : S.each = S.page / 4) (hb : ∀ u ∈ x.b, u < 256) (hv : v ≤ 262144) (hk : s % S.each < S.page / 4) (hs : num4 x.b (s % S.each * 4) ≠ v ∨ num4 x.b (s % S.each * 4) = v) :
    (num4 x.b (s % S.each * 4) = v → Sets s v 1 1 S sh S1 sh1) ∧ Sets s v 1 1 S sh (S1.part1 (s / S.each) { x with b := setN x.b (s % S.each * 4) v, d := true }) sh1 := by
  have hok := hg.wl.ok _ x hx
  have hlen := hok.1
  rw [hg.page] at hok hlen
  refine ⟨fun e => ⟨hg.sectors, hg.page, hg.held, fun m b hm => ?_, hg.wl, hg.nw, hg.puts, hg.cnt, hg.full⟩, hg.sectors, hg.page, hg.held, fun m b hm => ?_, wl_turn hg.wl _ (by rw [hg.page]; exact okB_setN hok hk hv), hg.nw, hg.puts, hg.cnt, hg.full⟩
  · rw [hg.told m b hm]
    by_cases e2 : m = s / S.each
    · subst e2
      rw [if_pos rfl]
      rw [ht] at hm; injection hm with hm; subst hm
      rw [← e, setN_num4 hb _ (by omega)]
    · rw [if_neg e2]
  · rw [told_part1]
    by_cases e2 : m = s / S.each
    · subst e2
      rw [if_pos rfl, if_pos rfl]
      rw [ht] at hm; injection hm with hm; subst hm; rfl
    · rw [if_neg e2, if_neg e2]; exact hg.told m b hm
/-- What set makes of a part. -/
theorem set_end {w : World} {Mb Sb Q Db : Nat} {P pb : Nat → Nat} {T F : List Nat} {S : Sm} {sh : Sh} (h : SmAt w Mb Sb Q Db P pb T F S sh) {n : Nat} {x : Pt} (hx : S.parts n = some x) {r v : Nat} (hr : r + 4 ≤ S.page) {cs : Array Value} (hrow : Row w (pb n) 5 cs) {w4 : World} (h4 : Row w4 (pb n) 5 (putk cs r v 4)) (ht : Turns w w4 [pb n]) (hcs : S.page ≤ cs.size ∧ ∀ i, i < S.page → cs[i]? = some (.int .u8 (x.b.getD i 0))) :
    w4.cell? ⟨P n, 1, none⟩ = some (.bool x.d) ∧ w4.frozen? ⟨P n, 1, none⟩ = false ∧ SmAt (w4.setCell ⟨P n, 1, none⟩ (.bool true)) Mb Sb Q Db P pb T F (S.part1 n { x with b := setN x.b r v, d := true }) sh ∧ Turns w (w4.setCell ⟨P n, 1, none⟩ (.bool true)) [pb n, P n] := by
  obtain ⟨_, hpt, _, _⟩ := h.part n x hx
  have hlen := hpt.len
  have ha4 := h.partBytes n x (setN x.b r v) hx ht ⟨_, h4, by rw [putk_size]; exact hcs.1, fun i hi => by
    rw [putk_get cs r v 4 i (by omega), setN_get x.b r v i (by omega)]
    by_cases e : r ≤ i ∧ i < r + 4
    · rw [if_pos e, if_pos e]
    · rw [if_neg e, if_neg e]; exact hcs.2 i hi⟩ (by rw [setN_length]; exact hlen) (setN_small hpt.small r v)
  have hx4 : (S.part1 n { x with b := setN x.b r v }).parts n = some { x with b := setN x.b r v } := updP_same _ _ _
  obtain ⟨_, hp4, _, _⟩ := ha4.part n _ hx4
  obtain ⟨cap, hr4, hc4⟩ := hp4.row
  have p1 := hr4.cell 1
  simp only [List.getElem?_toArray, List.getElem?_cons_zero, List.getElem?_cons_succ] at p1
  have ha5 := ha4.partRow n _ { x with b := setN x.b r v, d := true } hx4 rfl ((Turns.refl _ [P n]).setCell (p := ⟨P n, 1, none⟩) (by simp) (.bool true)) ⟨cap, by simpa using hr4.put 1 (.bool true), hc4⟩
  rw [Sm.part1_twice] at ha5
  exact ⟨p1, hr4.frozen 1, ha5, (ht.mono (by simp)).setCell (by simp) _⟩
set_option maxHeartbeats 2000000 in
theorem set_any (w : World) (Mb Sb : Nat) (T F : List Nat) (S : Sm) (sh : Sh) (h : SmIs w Mb Sb T F S sh) (s : Nat) (hs : s < S.sectors) (v : Nat) (hv : v ≤ 262144) (hl : sh.L.length ≤ 262143) (hwl : Wl S sh) :
    Calls Try.prog 23 #[.pointer (some ⟨Mb, 0, none⟩), .int .i64 s, .int .u32 v] w (SetP w Mb Sb T F S sh s v) := by
  obtain ⟨Q, Db, P, pb, h⟩ := h
  have HAt := Lib.hid (at_in _ Mb Sb Q Db P pb T F S sh h s hs hl hwl)
  obtain ⟨b1, b2, b3, b4⟩ := h.bounds hs
  have hpg := h.sh.2.2.1
  obtain ⟨pg, hp⟩ : ∃ pg, pg = S.page := ⟨_, rfl⟩
  have HPg := Lib.hid hp
  rw [← hp] at hpg b3
  obtain ⟨r, hr⟩ : ∃ r, r = s % S.each * 4 := ⟨_, rfl⟩
  have HR := Lib.hid hr
  have HMod := Lib.hid (Nat.mod_lt s b2)
  have hr6 : r + 4 ≤ pg := by have := Nat.mod_lt s b2; omega
  have HK : Hid (∃ K, K = SetP w Mb Sb T F S sh s v) := ⟨_, rfl⟩
  obtain ⟨K, hK⟩ := HK.out
  have HKe := Lib.hid hK
  rw [← hK]
  clear hK HK h hs hl hwl b1 b2 b3 b4 hr hp
  unfold AtP at HAt
  rw [← HR.out] at HAt
  go_enter Try.func23, Try.ntmps23
  go_wp2_with fail
  refine HAt.out.mono ?_
  rintro e w2 (⟨Pn, rfl, hp⟩ | ⟨c, rfl, hp⟩)
  · have HPp := Lib.hid hp
    obtain ⟨P', pb', T', F', S', sh', x, ha, ht, g1, g2, hPn, hx, htd, hg⟩ := hp
    obtain ⟨_, hpt, hPT, hbT⟩ := ha.part _ x hx
    have hpt0 := hpt
    rw [hPn] at hpt
    obtain ⟨cap, hrow, hcap⟩ := hpt.row
    rw [show S'.page = pg from hg.page.trans HPg.out.symm] at hrow hcap
    have p0 := hrow.cell 0
    simp only [List.getElem?_toArray, List.getElem?_cons_zero, List.getElem?_cons_succ] at p0
    obtain ⟨cs, b1, b2, b3⟩ := hpt.bytes
    rw [show S'.page = pg from hg.page.trans HPg.out.symm] at b2 b3
    have HGt : Hid (∀ c, Calls Try.prog 26 #[.slice (some ⟨pb' (s / S.each), r, none⟩) (pg - r) c] w2 fun e w' => e = .returned (.int .u32 (num4 x.b r)) ∧ ∃ k, w' = w2.drewN k) := fun c => get_any _ _ x.b r (by omega) hpt.small w2 _ r (fun j hj => by rw [b1.cell]; exact b3 (r + j) (by omega))
    have HPut : Hid (∀ c a, Calls Try.prog 37 #[.slice (some ⟨pb' (s / S.each), r, none⟩) (pg - r) c, .int .u32 v] (w2.drewN a) fun e w' => (∃ v, e = .returned v) ∧ Row w' (pb' (s / S.each)) 5 (putk cs r v 4) ∧ Turns (w2.drewN a) w' [pb' (s / S.each)]) := fun c a => put_any _ r (pg - r) c v cs (by omega) (by omega) (by omega) (w2.drewN a) (b1.drewN a)
    have HEnd : Hid (∀ a w4, Row w4 (pb' (s / S.each)) 5 (putk cs r v 4) → Turns (w2.drewN a) w4 [pb' (s / S.each)] → w4.cell? ⟨Pn, 0, none⟩ = some (.slice (some ⟨pb' (s / S.each), 0, none⟩) pg cap) ∧ w4.cell? ⟨Pn, 1, none⟩ = some (.bool x.d) ∧ w4.frozen? ⟨Pn, 1, none⟩ = false ∧ ∃ S2 sh2, SmTo w (w4.setCell ⟨Pn, 1, none⟩ (.bool true)) Mb Sb T F S2 sh2 ∧ Sets s v 1 1 S sh S2 sh2) := fun a w4 h4 ht4 => by
      have hpg' : S'.page = pg := hg.page.trans HPg.out.symm
      obtain ⟨e1, e2, e3, e4⟩ := set_end (ha.drewN a) hx (show r + 4 ≤ S'.page by omega) (b1.drewN a) h4 ht4 ⟨by omega, fun i hi => b3 i (by omega)⟩
      rw [hPn] at e1 e2 e3 e4
      refine ⟨ht4.cell (p := ⟨Pn, 0, none⟩) p0 (by simpa using Row.ne_type hrow b1 (by decide)), e1, e2, _, sh', ⟨T', F', ⟨Q, Db, P', pb', e3⟩, ?_, g1, g2⟩, ?_⟩
      · refine ((ht.drewN a).trans e4 (fun k hk => ?_))
        simp only [List.mem_cons, List.not_mem_nil, or_false] at hk
        rcases hk with rfl | rfl
        · exact g1 _ hbT
        · rw [← hPn]; exact g1 _ hPT
      · have := (sets_of (v := v) hg hx htd (by rw [← HR.out, ← HPg.out]; exact hr6) rfl hpt.small hv HMod.out (Classical.em _ |>.symm)).2
        rw [← HR.out] at this
        exact this
    have HSame : Hid (num4 x.b r = v → Sets s v 1 1 S sh S' sh') := fun e => (sets_of (v := v) hg hx htd (by rw [← HR.out, ← HPg.out]; exact hr6) rfl hpt.small hv HMod.out (Classical.em _ |>.symm)).1 (by rw [← HR.out]; exact e)
    have HSt : Hid (∀ a, SmTo w (w2.drewN a) Mb Sb T F S' sh') := fun a => ⟨T', F', ⟨Q, Db, P', pb', ha.drewN a⟩, ht.drewN a, g1, g2⟩
    have HTd : Hid ((told S sh (s / S.each)).isSome = true) := by unfold Hid; rw [htd]; rfl
    have HN4 : Hid (num4 x.b r < 4294967296) := by
      have h1 := getD_lt hpt.small r
      have h2 := getD_lt hpt.small (r + 1)
      have h3 := getD_lt hpt.small (r + 2)
      have h4 := getD_lt hpt.small (r + 3)
      unfold Hid num4; omega
    generalize pb' (s / S.each) = bb at *
    obtain ⟨u, hu⟩ : ∃ u, u = num4 x.b r := ⟨_, rfl⟩
    rw [← hu] at HGt HN4 HSame
    clear ha ht g1 g2 hPn hx htd hg hpt hrow b1 b2 b3 hu hPT hbT HPp hpt0
    by_cases huv : u = v
    · have HS1 := Lib.hid (HSame.out huv)
      clear HSame
      subst huv
      go_wp2_with fail
      refine (HGt.out _).mono ?_
      rintro e w3 ⟨rfl, k, rfl⟩
      go_wp2
      rw [HKe.out]
      exact .inl ⟨rfl, HTd.out, S', sh', HSt.out _, HS1.out⟩
    · have hne : ¬ (u : Int) = v := by omega
      go_wp2_with fail
      refine (HGt.out _).mono ?_
      rintro e w3 ⟨rfl, k, rfl⟩
      go_wp2_with fail
      refine (HPut.out _ _).mono ?_
      rintro e w4 ⟨⟨ev, rfl⟩, hr4, ht4⟩
      obtain ⟨p40, p41, f41, S2, sh2, hto, hse⟩ := HEnd.out _ w4 hr4 ht4
      have HTo := Lib.hid hto
      have HSe := Lib.hid hse
      clear hto hse hr4 ht4
      go_wp2
      rw [HKe.out]
      exact .inl ⟨rfl, HTd.out, S2, sh2, HTo.out, HSe.out⟩
  · have HPp := Lib.hid hp
    obtain ⟨S', ha, ht, hg, hc⟩ := hp
    have hc0 : c = 8 ∨ c = 3 := hc.imp (fun h => h.1) (fun h => h.1)
    have HC := Lib.hid hc
    clear ha ht hg hc
    rcases hc0 with rfl | rfl
    all_goals
      go_wp2
      rw [HKe.out]
      exact .inr ⟨_, rfl, by simpa using HC.out, HPp.out.goTo (Below.refl _ _)⟩
end Go.Proofs.Ytfipmpajdkgffaa

namespace Go.Proofs.Ytfipmpajdkgffaa
open Go.RowKit Go.MapKept Go.ChangeMaps
attribute [local go_sem] Oper.semAt_some
attribute [local simp, local go_sem] wide_fn
set_option linter.unusedVariables false
set_option linter.unusedSimpArgs false

theorem set_out (w : World) (Mb Sb : Nat) (T F : List Nat) (S : Sm) (sh : Sh) (h : SmIs w Mb Sb T F S sh) (s : Int) (hs : s < 0 ∨ (S.sectors : Int) ≤ s) (v : Nat) :
    Calls Try.prog 23 #[.pointer (some ⟨Mb, 0, none⟩), .int .i64 s, .int .u32 v] w fun e w' => e = .returned (.int .i64 1) ∧ Below w.heap.size w w' := by
  obtain ⟨Q, Db, P, pb, h⟩ := h
  have HAt := Lib.hid (at_out _ Mb Sb Q Db P pb T F S sh h s hs)
  clear h hs
  go_enter Try.func23, Try.ntmps23
  go_wp2_with fail
  refine HAt.out.mono ?_
  rintro e w2 ⟨rfl, hb⟩
  have HB := Lib.hid hb
  clear hb
  go_wp2
  go_ret
  exact ⟨rfl, HB.out⟩
theorem SmTo.early {w0 w w' : World} {Mb Sb : Nat} {T F : List Nat} {S : Sm} {sh : Sh} (h : SmTo w w' Mb Sb T F S sh) (hb : Below w0.heap.size w0 w) : SmTo w0 w' Mb Sb T F S sh := by
  obtain ⟨T', F', h1, h2, h3, h4⟩ := h
  exact ⟨T', F', h1, (Turns.of_below hb T).trans h2 (fun k hk => .inl hk), fun k hk => (h3 k hk).imp (fun h => h) (fun h => Nat.le_trans hb.size h), fun k hk => (h4 k hk).imp (fun h => h) (fun h => Nat.le_trans hb.size h)⟩
theorem SetP.early {w0 w w' : World} {Mb Sb : Nat} {T F : List Nat} {S : Sm} {sh : Sh} {s v : Nat} {e : Ending} (h : SetP w Mb Sb T F S sh s v e w') (hb : Below w0.heap.size w0 w) : SetP w0 Mb Sb T F S sh s v e w' := by
  rcases h with ⟨h1, h2, S', sh', h3, h4⟩ | ⟨c, h1, h2, h3⟩
  · exact .inl ⟨h1, h2, S', sh', h3.early hb, h4⟩
  · exact .inr ⟨c, h1, h2, h3.early hb⟩
theorem SmIs.below {w w' : World} {Mb Sb : Nat} {T F : List Nat} {S : Sm} {sh : Sh} (h : SmIs w Mb Sb T F S sh) (hb : Below w.heap.size w w') : SmIs w' Mb Sb T F S sh := h.keep (Turns.of_below hb []) (by simp)
/-- Is a place right? -/
def rightB (b p : Int) : Bool := decide (0 ≤ b ∧ b < 1024 ∧ 0 ≤ p ∧ p < 256)
theorem SmIs.c0 {w : World} {Mb Sb : Nat} {T F : List Nat} {S : Sm} {sh : Sh} (h : SmIs w Mb Sb T F S sh) : w.cell? ⟨Mb, 0, none⟩ = some (.int .i64 S.sectors) := by
  obtain ⟨Q, Db, P, pb, h⟩ := h
  have c0 := h.row.cell 0
  simpa only [List.getElem?_toArray, List.getElem?_cons_zero, List.getElem?_cons_succ] using c0
theorem SmIs.few {w : World} {Mb Sb : Nat} {T F : List Nat} {S : Sm} {sh : Sh} (h : SmIs w Mb Sb T F S sh) : S.sectors ≤ 4294967296 := by
  obtain ⟨Q, Db, P, pb, h⟩ := h
  exact h.sh.2.1
theorem Set_arg (w : World) (Mb Sb : Nat) (T F : List Nat) (S : Sm) (sh : Sh) (h : SmIs w Mb Sb T F S sh) (s b p : Int) (hs : (s < 0 ∨ (S.sectors : Int) ≤ s) ∨ rightB b p = false) :
    Calls Try.prog 11 #[.pointer (some ⟨Mb, 0, none⟩), .int .i64 s, .agg #[.int .i64 b, .int .i64 p]] w fun e w' => e = .returned (.int .i64 1) ∧ Below w.heap.size w w' := by
  have c0 := h.c0
  replace c0 := (World.cell?_alloc_lt w (.cells #[.int .i64 b, .int .i64 p] 28) _ (World.block_lt_of_cell? w _ c0)).trans c0
  have hsec := h.few
  have HB1 : Hid (Below w.heap.size w (w.alloc (.cells #[.int .i64 b, .int .i64 p] 28))) := by unfold Hid; (repeat (first | (with_reducible refine Below.drew ?_) | (with_reducible refine below_drewN0 ?_ _) | ((with_reducible refine Below.setCell ?_ ?_ _); rotate_left; focus (first | omega | (simp; done) | (simp; omega) | (simp at *; omega))) | ((with_reducible refine Below.alloc ?_ ?_ _); rotate_left; focus (first | omega | (simp; done) | (simp; omega) | (simp at *; omega))) | (with_reducible exact Below.refl _ _)))
  have HRi := Lib.hid (right_any b p (w.alloc (.cells #[.int .i64 b, .int .i64 p] 28)))
  obtain ⟨st, hst⟩ : ∃ st, st = S.sectors := ⟨_, rfl⟩
  rw [← hst] at c0 hs hsec
  clear h hst
  by_cases h0 : s < 0
  · clear hs HRi
    go_enter Try.func11, Try.ntmps11
    go_wp2
    go_ret
    exact ⟨rfl, HB1.out⟩
  · by_cases h1 : (st : Int) ≤ s
    · clear hs HRi
      go_enter Try.func11, Try.ntmps11
      go_wp2
      go_ret
      exact ⟨rfl, HB1.out⟩
    · have h2 : rightB b p = false := hs.elim (fun h => absurd h (by omega)) (fun h => h)
      rw [show decide (0 ≤ b ∧ b < 1024 ∧ 0 ≤ p ∧ p < 256) = false from h2] at HRi
      clear hs h2
      go_enter Try.func11, Try.ntmps11
      go_wp2_with fail
      refine HRi.out.mono ?_
      rintro e w2 ⟨rfl, hb⟩
      have HB := Lib.hid hb
      clear hb HRi
      go_wp2
      go_ret
      exact ⟨rfl, HB1.out.trans (HB.out.mono HB1.out.size)⟩
set_option maxHeartbeats 1000000 in
theorem Set_any (w : World) (Mb Sb : Nat) (T F : List Nat) (S : Sm) (sh : Sh) (h : SmIs w Mb Sb T F S sh) (s b p : Nat) (hs : s < S.sectors) (hb : b < 1024) (hp : p < 256) (hl : sh.L.length ≤ 262143) (hwl : Wl S sh) :
    Calls Try.prog 11 #[.pointer (some ⟨Mb, 0, none⟩), .int .i64 s, .agg #[.int .i64 b, .int .i64 p]] w (SetP w Mb Sb T F S sh s (b * 256 + p + 1)) := by
  have c0 := h.c0
  replace c0 := (World.cell?_alloc_lt w (.cells #[.int .i64 b, .int .i64 p] 28) _ (World.block_lt_of_cell? w _ c0)).trans c0
  have hsec := h.few
  have HB1 : Hid (Below w.heap.size w (w.alloc (.cells #[.int .i64 b, .int .i64 p] 28))) := by unfold Hid; (repeat (first | (with_reducible refine Below.drew ?_) | (with_reducible refine below_drewN0 ?_ _) | ((with_reducible refine Below.setCell ?_ ?_ _); rotate_left; focus (first | omega | (simp; done) | (simp; omega) | (simp at *; omega))) | ((with_reducible refine Below.alloc ?_ ?_ _); rotate_left; focus (first | omega | (simp; done) | (simp; omega) | (simp at *; omega))) | (with_reducible exact Below.refl _ _)))
  have HZ1 : Hid (Row (w.alloc (.cells #[.int .i64 b, .int .i64 p] 28)) w.heap.size 28 #[.int .i64 b, .int .i64 p]) := Row.fresh _ _ _
  have HRi := Lib.hid (right_any b p (w.alloc (.cells #[.int .i64 b, .int .i64 p] 28)))
  rw [decide_eq_true (show 0 ≤ (b : Int) ∧ (b : Int) < 1024 ∧ 0 ≤ (p : Int) ∧ (p : Int) < 256 by omega)] at HRi
  have HNu : Hid (∀ u, Calls Try.prog 24 #[.agg #[.int .i64 b, .int .i64 p]] u fun e w' => e = .returned (.int .u32 (b * 256 + p + 1 : Nat)) ∧ Below u.heap.size u w') := fun u => number_any b p (by omega) (by omega) u
  have HSe : Hid (∀ u, Below w.heap.size w u → Calls Try.prog 23 #[.pointer (some ⟨Mb, 0, none⟩), .int .i64 s, .int .u32 (b * 256 + p + 1 : Nat)] u (SetP u Mb Sb T F S sh s (b * 256 + p + 1))) := fun u hu => set_any u Mb Sb T F S sh (h.below hu) s hs _ (by omega) hl hwl
  obtain ⟨v, hv⟩ : ∃ v, v = b * 256 + p + 1 := ⟨_, rfl⟩
  rw [← hv] at HNu HSe ⊢
  obtain ⟨st, hst⟩ : ∃ st, st = S.sectors := ⟨_, rfl⟩
  rw [← hst] at c0 hs hsec
  have HK : Hid (∃ K, K = SetP w Mb Sb T F S sh s v) := ⟨_, rfl⟩
  obtain ⟨K, hK⟩ := HK.out
  have HKe := Lib.hid hK
  rw [← hK]
  clear hK HK h hst hv hl hwl
  go_enter Try.func11, Try.ntmps11
  go_wp2_with fail
  refine HRi.out.mono ?_
  rintro e w2 ⟨rfl, hb⟩
  have HB2 : Hid (Below w.heap.size w w2) := HB1.out.trans (hb.mono HB1.out.size)
  have HZ2 : Hid (Row w2 w.heap.size 28 #[.int .i64 b, .int .i64 p]) := HZ1.out.below hb HZ1.out.lt
  have z0 := HZ2.out.cell 0
  have z1 := HZ2.out.cell 1
  simp only [List.getElem?_toArray, List.getElem?_cons_zero, List.getElem?_cons_succ] at z0 z1
  clear hb HRi
  go_wp2_with fail
  refine (HNu.out _).mono ?_
  rintro e w3 ⟨rfl, hb⟩
  have HB3 : Hid (Below w.heap.size w w3) := HB2.out.trans (hb.mono HB2.out.size)
  clear hb z0 z1
  go_wp2_with fail
  refine (HSe.out _ HB3.out).mono ?_
  rintro e w4 hset
  have HP4 : Hid (SetP w Mb Sb T F S sh s v e w4) := hset.early HB3.out
  obtain ⟨c, rfl⟩ : ∃ c, e = .returned (.int .i64 c) := by
    rcases hset with ⟨h, _⟩ | ⟨c, h, _⟩
    · exact ⟨0, h⟩
    · exact ⟨c, h⟩
  clear hset
  go_wp2
  rw [HKe.out]; exact HP4.out
theorem Clear_out (w : World) (Mb Sb : Nat) (T F : List Nat) (S : Sm) (sh : Sh) (h : SmIs w Mb Sb T F S sh) (s : Int) (hs : s < 0 ∨ (S.sectors : Int) ≤ s) :
    Calls Try.prog 33 #[.pointer (some ⟨Mb, 0, none⟩), .int .i64 s] w fun e w' => e = .returned (.int .i64 1) ∧ Below w.heap.size w w' := by
  have HSe := Lib.hid (set_out w Mb Sb T F S sh h s hs 0)
  clear h hs
  go_enter Try.func33, Try.ntmps33
  go_wp2_with fail
  refine HSe.out.mono ?_
  rintro e w2 ⟨rfl, hb⟩
  have HB := Lib.hid hb
  clear hb
  go_wp2
  go_ret
  exact ⟨rfl, HB.out⟩
theorem Clear_any (w : World) (Mb Sb : Nat) (T F : List Nat) (S : Sm) (sh : Sh) (h : SmIs w Mb Sb T F S sh) (s : Nat) (hs : s < S.sectors) (hl : sh.L.length ≤ 262143) (hwl : Wl S sh) :
    Calls Try.prog 33 #[.pointer (some ⟨Mb, 0, none⟩), .int .i64 s] w (SetP w Mb Sb T F S sh s 0) := by
  have HSe := Lib.hid (set_any w Mb Sb T F S sh h s hs 0 (by omega) hl hwl)
  have HK : Hid (∃ K, K = SetP w Mb Sb T F S sh s 0) := ⟨_, rfl⟩
  obtain ⟨K, hK⟩ := HK.out
  have HKe := Lib.hid hK
  rw [← hK]
  clear hK HK h hs hl hwl
  go_enter Try.func33, Try.ntmps33
  go_wp2_with fail
  refine HSe.out.mono ?_
  rintro e w4 hset
  have HP4 := Lib.hid hset
  obtain ⟨c, rfl⟩ : ∃ c, e = .returned (.int .i64 c) := by
    rcases hset with ⟨h, _⟩ | ⟨c, h, _⟩
    · exact ⟨0, h⟩
    · exact ⟨c, h⟩
  clear hset
  go_wp2
  rw [HKe.out]; exact HP4.out
end Go.Proofs.Ytfipmpajdkgffaa

namespace Go.Proofs.Ytfipmpajdkgffaa
open Go.RowKit Go.MapKept Go.ChangeMaps
attribute [local go_sem] Oper.semAt_some
attribute [local simp, local go_sem] wide_fn
set_option linter.unusedVariables false
set_option linter.unusedSimpArgs false

/-- A map that holds nothing. -/
def Sm.new (a b c : Nat) : Sm := ⟨a, b, c, fun _ => none, 0, fun _ => 0, 0⟩
/-- A new map, its blocks from B on. -/
def NewIs (w' : World) (B Sb : Nat) (T F : List Nat) (a b c : Nat) (sh : Sh) : Prop := SmAt w' (B + 1) Sb B (B + 2) (fun _ => 0) (fun _ => 0) ((B + 1) :: B :: (B + 2) :: T) F (Sm.new a b c) sh
theorem NewIs.is {w' : World} {B Sb : Nat} {T F : List Nat} {a b c : Nat} {sh : Sh} (h : NewIs w' B Sb T F a b c sh) : SmIs w' (B + 1) Sb ((B + 1) :: B :: (B + 2) :: T) F (Sm.new a b c) sh := ⟨_, _, _, _, h⟩
theorem u32_info : (Try.prog.info? 68).map (fun i => (i.zero, i.size, i.bytes)) = some (some (.int .u32 0), 1, 4) := by kernel_rfl
theorem new_at (w : World) (Sb : Nat) (T F : List Nat) (sh : Sh) (hs : ShIs w Sb T F sh) (hTF : ∀ k ∈ F, k ∉ T) (hlt : ∀ k, k ∈ T ∨ k ∈ F → k < w.heap.size) (a b c : Nat) (ha : 1 ≤ a ∧ a ≤ 4294967296) (hb : 16 ≤ b ∧ b ≤ 4096 ∧ b % 4 = 0) (hc : 1 ≤ c ∧ c ≤ 4096) (np : Nat) (hnp : np = (a - 1) / (b / 4) + 1)
    (W1 W2 W3 W4 : World) (h1 : W1 = w.alloc (.map #[] 0)) (h2 : W2 = W1.alloc (.cells #[.int .i64 a, .int .i64 b, .int .i64 c, .iface 33 (.pointer (some ⟨Sb, 0, none⟩)), .map (some w.heap.size), .slice none 0 0, .int .i64 0] 66)) (h3 : W3 = W2.alloc (.cells (madeCells #[.int .u32 0] np) 68)) (h4 : W4 = W3.setCell ⟨w.heap.size + 1, 5, none⟩ (.slice (some ⟨w.heap.size + 2, 0, none⟩) np np)) :
    NewIs W4 w.heap.size Sb T F a b c sh ∧ Below w.heap.size w W4 := by
  have e1 : W1.heap.size = w.heap.size + 1 := by rw [h1]; simp
  have e2 : W2.heap.size = w.heap.size + 2 := by rw [h2]; simp [e1]
  have e3 : W3.heap.size = w.heap.size + 3 := by rw [h3]; simp [e2]
  have b1 : Below w.heap.size w W1 := by rw [h1]; (repeat (first | (with_reducible refine Below.drew ?_) | (with_reducible refine below_drewN0 ?_ _) | ((with_reducible refine Below.setCell ?_ ?_ _); rotate_left; focus (first | omega | (simp; done) | (simp; omega) | (simp at *; omega))) | ((with_reducible refine Below.alloc ?_ ?_ _); rotate_left; focus (first | omega | (simp; done) | (simp; omega) | (simp at *; omega))) | (with_reducible exact Below.refl _ _)))
  have b2 : Below W1.heap.size W1 W2 := by rw [h2]; (repeat (first | (with_reducible refine Below.drew ?_) | (with_reducible refine below_drewN0 ?_ _) | ((with_reducible refine Below.setCell ?_ ?_ _); rotate_left; focus (first | omega | (simp; done) | (simp; omega) | (simp at *; omega))) | ((with_reducible refine Below.alloc ?_ ?_ _); rotate_left; focus (first | omega | (simp; done) | (simp; omega) | (simp at *; omega))) | (with_reducible exact Below.refl _ _)))
  have b3 : Below W2.heap.size W2 W3 := by rw [h3]; (repeat (first | (with_reducible refine Below.drew ?_) | (with_reducible refine below_drewN0 ?_ _) | ((with_reducible refine Below.setCell ?_ ?_ _); rotate_left; focus (first | omega | (simp; done) | (simp; omega) | (simp at *; omega))) | ((with_reducible refine Below.alloc ?_ ?_ _); rotate_left; focus (first | omega | (simp; done) | (simp; omega) | (simp at *; omega))) | (with_reducible exact Below.refl _ _)))
  have b13 : Below w.heap.size w W3 := (b1.trans (b2.mono (by omega))).trans (b3.mono (by omega))
  have b4 : Below w.heap.size w W4 := by rw [h4]; exact b13.setCell (by simp) _
  have hR2 : Row W2 (w.heap.size + 1) 66 #[.int .i64 a, .int .i64 b, .int .i64 c, .iface 33 (.pointer (some ⟨Sb, 0, none⟩)), .map (some w.heap.size), .slice none 0 0, .int .i64 0] := by rw [h2, ← e1]; exact Row.fresh _ _ _
  have hR3 : Row W3 (w.heap.size + 1) 66 _ := hR2.below b3 (by omega)
  have hD3 : Row W3 (w.heap.size + 2) 68 (madeCells #[.int .u32 0] np) := by rw [h3, ← e2]; exact Row.fresh _ _ _
  have hM1 : MapIs Try.prog 3 W1 w.heap.size 0 (fun _ => none) := by rw [h1]; exact MapIs.fresh _ _ w
  have hM3 : MapIs Try.prog 3 W3 w.heap.size 0 (fun _ => none) := (hM1.turns (Turns.of_below b2 []) (by simp)).turns (Turns.of_below b3 []) (by simp)
  have hR4 : Row (W3.setCell ⟨w.heap.size + 1, 5, none⟩ (.slice (some ⟨w.heap.size + 2, 0, none⟩) np np)) (w.heap.size + 1) 66 #[.int .i64 a, .int .i64 b, .int .i64 c, .iface 33 (.pointer (some ⟨Sb, 0, none⟩)), .map (some w.heap.size), .slice (some ⟨w.heap.size + 2, 0, none⟩) np np, .int .i64 0] := by simpa using hR3.put 5 (.slice (some ⟨w.heap.size + 2, 0, none⟩) np np)
  have ht : Turns W3 W4 [w.heap.size + 1] := by rw [h4]; exact (Turns.refl _ _).setCell (by simp) _
  have hne1 : w.heap.size + 1 ≠ w.heap.size + 2 := by omega
  rw [← h4] at hR4
  have hlt' : ∀ k, k ∈ T ∨ k ∈ F → k ≠ w.heap.size + 1 ∧ k ≠ w.heap.size + 2 ∧ k ≠ w.heap.size := fun k hk => by have := hlt k hk; omega
  have hS4 : ShIs W4 Sb T F sh := hs.keep (Turns.of_below b4 []) (by simp)
  have hn : (Sm.new a b c).np = np := by rw [hnp]; rfl
  refine ⟨⟨?_, ⟨_, ht.row hD3 (by simp), ?_, fun n hn' => ⟨?_, ?_⟩⟩, ⟨_, hM3.turns ht (by simp), fun key v => ?_⟩, fun n x hx => ?_, fun n m _ h => ?_, ?_, ⟨by simp, by simp, by simp⟩, fun k hk => ?_, fun k hk => ?_, ⟨ha.1, ha.2, hb, hc.1, hc.2⟩⟩, b4⟩
  · rw [hn]; exact hR4
  · rw [hn]; simp [madeCells]
  · rw [hn] at hn'
    show (madeCells #[.int .u32 0] np)[n]? = some (.int .u32 ((0 : Nat) : Int))
    simp [madeCells, hn', Nat.mod_one]
  · show (0 : Nat) < 4294967296
    decide
  · simp [Sm.new]
  · simp [Sm.new] at hx
  · simp [Sm.new] at h
  · exact hS4.mono (fun k hk => by simp [hk]) (fun k hk => hk)
  · have := hlt' k (.inr hk)
    simp only [List.mem_cons, not_or]
    exact ⟨this.1, this.2.2, this.2.1, hTF k hk⟩
  · have hz := b4.size
    have h5 : W4.heap.size = w.heap.size + 3 := by rw [h4]; simp [e3]
    rcases hk with hk | hk
    · simp only [List.mem_cons] at hk
      rcases hk with rfl | rfl | rfl | hk
      · omega
      · omega
      · omega
      · have := hlt k (.inl hk); omega
    · have := hlt k (.inr hk); omega
set_option maxRecDepth 100000 in
set_option maxHeartbeats 2000000 in
theorem Wide_any (w : World) (Sb : Nat) (T F : List Nat) (sh : Sh) (hs : ShIs w Sb T F sh) (hTF : ∀ k ∈ F, k ∉ T) (hlt : ∀ k, k ∈ T ∨ k ∈ F → k < w.heap.size) (a b c : Nat) (ha : 1 ≤ a ∧ a ≤ 4294967296) (hb : 16 ≤ b ∧ b ≤ 4096 ∧ b % 4 = 0) (hc : 1 ≤ c ∧ c ≤ 4096) :
    Calls Try.prog 32 #[.int .i64 a, .int .i64 b, .int .i64 c, .iface 33 (.pointer (some ⟨Sb, 0, none⟩))] w fun e w' => e = .returned (.tuple #[.pointer (some ⟨w.heap.size + 1, 0, none⟩), .int .i64 0]) ∧ NewIs w' w.heap.size Sb T F a b c sh ∧ Below w.heap.size w w' := by
  obtain ⟨i1, ji, jz0, jz1, jz2⟩ := info_parts u32_info
  obtain ⟨np, hnp⟩ : ∃ np, np = (a - 1) / (b / 4) + 1 := ⟨_, rfl⟩
  have HN := Lib.hid (new_at w Sb T F sh hs hTF hlt a b c ha hb hc np hnp)
  clear hs hTF hlt
  obtain ⟨s, rfl⟩ : ∃ s, a = s + 1 := ⟨a - 1, by omega⟩
  rw [Nat.add_sub_cancel] at hnp
  obtain ⟨ea, hea⟩ : ∃ ea, ea = b / 4 := ⟨_, rfl⟩
  rw [← hea] at hnp
  obtain ⟨q, hq⟩ : ∃ q, q = s / ea := ⟨_, rfl⟩
  rw [← hq] at hnp
  have hqi : (s : Int) / (ea : Int) = (q : Int) := by rw [hq]; exact (Int.natCast_ediv s ea).symm
  have hq6 : q < 4294967296 := by have := Nat.div_le_self s ea; omega
  have hb3 : (b : Int) % 4 = 0 := by omega
  have hea1 : 4 ≤ ea ∧ ea ≤ 1024 := by omega
  obtain ⟨hb1, hb2, _⟩ := hb
  obtain ⟨ha1, ha2⟩ := ha
  obtain ⟨hc1, hc2⟩ := hc
  have HBk : Hid (i1.bytes * (q + 1) ≤ 281474976710656) := by unfold Hid; rw [jz2]; omega
  obtain ⟨W1, hW1⟩ : ∃ W1, W1 = w.alloc (.map #[] 0) := ⟨_, rfl⟩
  obtain ⟨W2, hW2⟩ : ∃ W2, W2 = W1.alloc (.cells #[.int .i64 ((s : Int) + 1), .int .i64 b, .int .i64 c, .iface 33 (.pointer (some ⟨Sb, 0, none⟩)), .map (some w.heap.size), .slice none 0 0, .int .i64 0] 66) := ⟨_, rfl⟩
  have hz1 : W1.heap.size = w.heap.size + 1 := by rw [hW1]; simp
  have hz2 : W2.heap.size = w.heap.size + 2 := by rw [hW2]; simp [hz1]
  have hr2 : Row W2 (w.heap.size + 1) 66 #[.int .i64 ((s : Int) + 1), .int .i64 b, .int .i64 c, .iface 33 (.pointer (some ⟨Sb, 0, none⟩)), .map (some w.heap.size), .slice none 0 0, .int .i64 0] := by rw [hW2, ← hz1]; exact Row.fresh _ _ _
  have HEa : Hid (Calls Try.prog 39 #[.pointer (some ⟨w.heap.size + 1, 0, none⟩)] W2 fun e w' => e = .returned (.int .i64 ea) ∧ W2 = w') := by
    have c1 := hr2.cell 1
    simp only [List.getElem?_toArray, List.getElem?_cons_zero, List.getElem?_cons_succ] at c1
    have := each_any W2 (w.heap.size + 1) b hb2 c1
    rw [← hea] at this; exact this
  have HW1 := Lib.hid hW1
  have HW2 := Lib.hid hW2
  have HZ := Lib.hid hz1
  have HNp := Lib.hid hnp
  have HR2 := Lib.hid hr2
  clear hW1 hW2 hz1 hz2 hr2 hnp hq hea
  have hmm := @run_makeMap Try.prog
  rw [HW1.out] at HW2
  go_enter Try.func32, Try.ntmps32
  go_wp2_with fail
  rw [← HW2.out]
  refine HEa.out.mono ?_
  rintro e w' ⟨rfl, rfl⟩
  have q5 := (HR2.out.alloc (.cells (madeCells #[.int .u32 0] (q + 1)) 68)).cell 5
  have f5 := (HR2.out.alloc (.cells (madeCells #[.int .u32 0] (q + 1)) 68)).frozen 5
  simp only [List.getElem?_toArray, List.getElem?_cons_zero, List.getElem?_cons_succ] at q5
  go_wp2_with (at_make; go_must (with_reducible refine wpList_make_row _ (o := ⟨some 48, .makeSlice 64 (.tmp 47) (.tmp 47), _, _, _, _⟩) rfl (.tmp 47) (.tmp 47) 64 rfl 68 i1 _ Try.underlying64 ji jz0 jz1 rfl .i64 .i64 (q + 1) rfl rfl HBk.out (by omega) ?_))
  go_ret2
  have h3 := HN.out W1 W2 _ _ HW1.out (by rw [HW1.out]; exact HW2.out) rfl rfl
  rw [HNp.out] at h3
  have hz2 : W2.heap.size = w.heap.size + 2 := by rw [HW2.out]; simp
  rw [hz2]
  exact ⟨rfl, h3.1, h3.2⟩
set_option maxRecDepth 100000 in
set_option maxHeartbeats 2000000 in
theorem Wide_no (w : World) (a b c : Int) (v : Value) (h : ¬ (1 ≤ a ∧ (16 ≤ b ∧ b ≤ 4096 ∧ b % 4 = 0) ∧ 1 ≤ c ∧ c ≤ 4096)) :
    Calls Try.prog 32 #[.int .i64 a, .int .i64 b, .int .i64 c, v] w fun e w' => e = .returned (.tuple #[.pointer none, .int .i64 1]) ∧ Below w.heap.size w w' := by
  by_cases h1 : 1 ≤ a
  · by_cases h2 : 16 ≤ b
    · by_cases h3 : b ≤ 4096
      · by_cases h4 : b % 4 = 0
        · by_cases h5 : 1 ≤ c
          · have h6 : ¬ c ≤ 4096 := fun h6 => h ⟨h1, ⟨h2, h3, h4⟩, h5, h6⟩
            clear h
            go_enter Try.func32, Try.ntmps32; go_wp2; go_ret2; exact ⟨rfl, Below.refl _ _⟩
          · clear h
            go_enter Try.func32, Try.ntmps32; go_wp2; go_ret2; exact ⟨rfl, Below.refl _ _⟩
        · clear h
          go_enter Try.func32, Try.ntmps32; go_wp2; go_ret2; exact ⟨rfl, Below.refl _ _⟩
      · clear h
        go_enter Try.func32, Try.ntmps32; go_wp2; go_ret2; exact ⟨rfl, Below.refl _ _⟩
    · clear h
      go_enter Try.func32, Try.ntmps32; go_wp2; go_ret2; exact ⟨rfl, Below.refl _ _⟩
  · clear h
    go_enter Try.func32, Try.ntmps32; go_wp2; go_ret2; exact ⟨rfl, Below.refl _ _⟩
theorem New_any (w : World) (Sb : Nat) (T F : List Nat) (sh : Sh) (hs : ShIs w Sb T F sh) (hTF : ∀ k ∈ F, k ∉ T) (hlt : ∀ k, k ∈ T ∨ k ∈ F → k < w.heap.size) (a b c : Nat) (ha : 1 ≤ a ∧ a ≤ 16384) (hb : 16 ≤ b ∧ b ≤ 4096 ∧ b % 4 = 0) (hc : 1 ≤ c ∧ c ≤ 4096) :
    Calls Try.prog 17 #[.int .i64 a, .int .i64 b, .int .i64 c, .iface 33 (.pointer (some ⟨Sb, 0, none⟩))] w fun e w' => e = .returned (.tuple #[.pointer (some ⟨w.heap.size + 1, 0, none⟩), .int .i64 0]) ∧ NewIs w' w.heap.size Sb T F a b c sh ∧ Below w.heap.size w w' := by
  have HW := Lib.hid (Wide_any w Sb T F sh hs hTF hlt a b c ⟨ha.1, by omega⟩ hb hc)
  obtain ⟨ha1, ha2⟩ := ha
  clear hs hTF hlt hb hc
  go_enter Try.func17, Try.ntmps17
  go_wp2_with fail
  refine HW.out.mono ?_
  rintro e w' ⟨rfl, hi, hb⟩
  have HI := Lib.hid hi
  have HB := Lib.hid hb
  clear hi hb
  go_wp2
  go_ret2
  exact ⟨rfl, HI.out, HB.out⟩
theorem New_no (w : World) (a b c : Int) (v : Value) (h : ¬ ((1 ≤ a ∧ a ≤ 16384) ∧ (16 ≤ b ∧ b ≤ 4096 ∧ b % 4 = 0) ∧ 1 ≤ c ∧ c ≤ 4096)) :
    Calls Try.prog 17 #[.int .i64 a, .int .i64 b, .int .i64 c, v] w fun e w' => e = .returned (.tuple #[.pointer none, .int .i64 1]) ∧ Below w.heap.size w w' := by
  by_cases h1 : a ≤ 16384
  · have HW := Lib.hid (Wide_no w a b c v (fun h2 => h ⟨⟨h2.1, h1⟩, h2.2⟩))
    clear h
    go_enter Try.func17, Try.ntmps17
    go_wp2_with fail
    refine HW.out.mono ?_
    rintro e w' ⟨rfl, hb⟩
    have HB := Lib.hid hb
    clear hb
    go_wp2
    go_ret2
    exact ⟨rfl, HB.out⟩
  · clear h
    go_enter Try.func17, Try.ntmps17
    go_wp2
    go_ret2
    exact ⟨rfl, Below.refl _ _⟩
end Go.Proofs.Ytfipmpajdkgffaa

namespace Go.Proofs.Ytfipmpajdkgffaa
open Go.RowKit Go.MapKept Go.ChangeMaps
attribute [local go_sem] Oper.semAt_some
attribute [local simp, local go_sem] wide_fn
set_option linter.unusedVariables false
set_option linter.unusedSimpArgs false

/-- A directory's bytes. -/
structure DirIs (d : List Nat) (np : Nat) (dir : Nat → Nat) : Prop where
  len : d.length = 8 + 4 * np
  small : ∀ u ∈ d, u < 256
  m0 : num4 d 0 = 1346456915
  m1 : num4 d 4 = np
  dir : ∀ i, i < np → num4 d (8 + 4 * i) = dir i
theorem putk_ints (d : List Nat) (off v : Nat) (h : off + 4 ≤ d.length) : putk (intsV .u8 d).toArray off v 4 = (intsV .u8 (setN d off v)).toArray := by
  have hl : (intsV .u8 d).toArray.size = d.length := by simp [intsV]
  apply Array.ext_getElem?
  intro i
  rw [putk_get _ off v 4 i (by rw [hl]; exact h)]
  by_cases hi : i < d.length
  · have h1 : ((intsV .u8 (setN d off v)).toArray)[i]? = some (.int .u8 ((setN d off v).getD i 0 : Nat)) := by
      have hi2 : i < (setN d off v).length := by rw [setN_length]; exact hi
      simp [intsV, hi2, List.getD_eq_getElem?_getD]
    have h2 : ((intsV .u8 d).toArray)[i]? = some (.int .u8 (d.getD i 0 : Nat)) := by
      simp [intsV, hi, List.getD_eq_getElem?_getD]
    rw [h1, h2, setN_get d off v i h]
    by_cases h3 : off ≤ i ∧ i < off + 4
    · rw [if_pos h3, if_pos h3]
    · rw [if_neg h3, if_neg h3]
  · rw [if_neg (by omega), Array.getElem?_eq_none (by rw [hl]; omega), Array.getElem?_eq_none (by simp [intsV, setN_length]; omega)]
/-- What is laid so far. -/
def DirP (d : List Nat) (np : Nat) (dir : Nat → Nat) (k : Nat) : Prop :=
  d.length = 8 + 4 * np ∧ (∀ u ∈ d, u < 256) ∧ num4 d 0 = 1346456915 ∧ num4 d 4 = np ∧ ∀ i, i < k → num4 d (8 + 4 * i) = dir i
theorem dir_start (np : Nat) (dir : Nat → Nat) (h : np < 4294967296) : DirP (setN (setN (List.replicate (8 + 4 * np) 0) 0 1346456915) 4 np) np dir 0 := by
  have hl : (setN (List.replicate (8 + 4 * np) 0) 0 1346456915).length = 8 + 4 * np := by simp [setN_length]
  refine ⟨by rw [setN_length, hl], setN_small (setN_small (fun u hu => by rw [List.eq_of_mem_replicate hu]; decide) _ _) _ _, ?_, num4_setN_same _ _ _ (by rw [hl]; omega) h, fun i hi => by omega⟩
  rw [num4_setN_other _ _ _ _ (by rw [hl]; omega) (by omega), num4_setN_same _ _ _ (by simp; omega) (by decide)]
theorem dir_step {d : List Nat} {np : Nat} {dir : Nat → Nat} {k : Nat} (h : DirP d np dir k) (hk : k < np) (hd : dir k < 4294967296) : DirP (setN d (8 + 4 * k) (dir k)) np dir (k + 1) := by
  obtain ⟨h1, h2, h3, h4, h5⟩ := h
  refine ⟨by rw [setN_length, h1], setN_small h2 _ _, ?_, ?_, fun i hi => ?_⟩
  · rw [num4_setN_other _ _ _ _ (by omega) (by omega), h3]
  · rw [num4_setN_other _ _ _ _ (by omega) (by omega), h4]
  · by_cases e : i = k
    · subst e; exact num4_setN_same _ _ _ (by omega) hd
    · rw [num4_setN_other _ _ _ _ (by omega) (by omega), h5 i (by omega)]
theorem SmAt.np_few {w : World} {Mb Sb Q Db : Nat} {P pb : Nat → Nat} {T F : List Nat} {S : Sm} {sh : Sh} (h : SmAt w Mb Sb Q Db P pb T F S sh) : S.np ≤ 1073741824 := by
  have h1 := h.sh
  have h2 : 4 ≤ S.each := by unfold Sm.each; omega
  unfold Sm.np
  have h3 : (S.sectors - 1) / S.each ≤ (S.sectors - 1) / 4 := Nat.div_le_div_left h2 (by omega)
  omega
set_option maxRecDepth 100000 in
set_option maxHeartbeats 2000000 in
theorem Directory_any (w : World) (Mb Sb : Nat) (T F : List Nat) (S : Sm) (sh : Sh) (h : SmIs w Mb Sb T F S sh) :
    Calls Try.prog 21 #[.pointer (some ⟨Mb, 0, none⟩)] w fun e w' => e = .returned (.slice (some ⟨w.heap.size, 0, none⟩) (8 + 4 * S.np) (8 + 4 * S.np)) ∧ Below w.heap.size w w' ∧ ∃ d, DirIs d S.np S.dir ∧ Row w' w.heap.size 5 (intsV .u8 d).toArray := by
  obtain ⟨Q, Db, P, pb, h⟩ := h
  obtain ⟨i1, ji, jz0, jz1, jz2⟩ := info_parts bytes_info
  obtain ⟨c1, c3, c5, hd⟩ := h.cells
  have hnp := h.np_few
  have hdv : ∀ n, n < S.np → S.dir n < 4294967296 := fun n hn => by obtain ⟨cs, d1, d2, d3⟩ := h.dir; exact (d3 n hn).2
  obtain ⟨np, hnpe⟩ : ∃ np, np = S.np := ⟨_, rfl⟩
  rw [← hnpe] at c5 hd hnp hdv ⊢
  have HD := Lib.hid hd
  have HV := Lib.hid hdv
  have HBk : Hid (i1.bytes * (8 + 4 * np) ≤ 281474976710656) := by unfold Hid; rw [jz2]; omega
  obtain ⟨w1, hw1⟩ : ∃ w1, w1 = w.alloc (.cells (intsV .u8 (List.replicate (8 + 4 * np) 0)).toArray 5) := ⟨_, rfl⟩
  have HB1 : Hid (Below w.heap.size w w1) := by unfold Hid; rw [hw1]; (repeat (first | (with_reducible refine Below.drew ?_) | (with_reducible refine below_drewN0 ?_ _) | ((with_reducible refine Below.setCell ?_ ?_ _); rotate_left; focus (first | omega | (simp; done) | (simp; omega) | (simp at *; omega))) | ((with_reducible refine Below.alloc ?_ ?_ _); rotate_left; focus (first | omega | (simp; done) | (simp; omega) | (simp at *; omega))) | (with_reducible exact Below.refl _ _)))
  have HR1 : Hid (Row w1 w.heap.size 5 (intsV .u8 (List.replicate (8 + 4 * np) 0)).toArray) := by unfold Hid; rw [hw1]; exact Row.fresh _ _ _
  have HPu : Hid (∀ (d : List Nat) (off v n c : Nat) (u : World), Row u w.heap.size 5 (intsV .u8 d).toArray → off + 4 ≤ d.length → 4 ≤ n → v < 4294967296 → Calls Try.prog 37 #[.slice (some ⟨w.heap.size, off, none⟩) n c, .int .u32 v] u fun e w' => (∃ v, e = .returned v) ∧ Row w' w.heap.size 5 (intsV .u8 (setN d off v)).toArray ∧ Turns u w' [w.heap.size]) := fun d off v n c u hr ho hn hv => by
    rw [← putk_ints d off v ho]
    exact put_any _ off n c v _ hn hv (by simp [intsV]; exact ho) u hr
  have HC5 := Lib.hid c5
  have HW1 := Lib.hid hw1
  have HC1 : Hid (w1.cell? ⟨Mb, 5, none⟩ = some (.slice (some ⟨Db, 0, none⟩) np np)) := keep_below HB1.out _ _ c5
  clear h hd hdv c1 c3 hw1
  have HS := Lib.hid (dir_start np S.dir (by omega))
  have HNp := Lib.hid hnpe
  clear hnpe
  rw [← zeros_made] at HW1
  go_enter Try.func21, Try.ntmps21
  go_wp2_with (at_make; go_must (with_reducible refine wpList_make_row _ (o := ⟨some 13, .makeSlice 43 (.tmp 12) (.tmp 12), _, _, _, _⟩) rfl (.tmp 12) (.tmp 12) 43 rfl 5 i1 _ Try.underlying43 ji jz0 jz1 rfl .i64 .i64 (8 + 4 * np) (by with_unfolding_all exact rfl) (by with_unfolding_all exact rfl) HBk.out (by omega) ?_))
  rw [← HW1.out]
  refine (HPu.out _ 0 1346456915 _ _ _ HR1.out (by rw [List.length_replicate]; omega) (by omega) (by decide)).mono ?_
  rintro e w2 ⟨⟨ev, rfl⟩, hr2, ht2⟩
  have HR2 := Lib.hid hr2
  have HT2 : Hid (Below w.heap.size w w2) := ht2.below HB1.out HB1.out.size (by simp)
  clear hr2 ht2
  have k1 : ∀ t : Kept w2 [], t.u.cell? ⟨Mb, 5, none⟩ = some (.slice (some ⟨Db, 0, none⟩) np np) := fun t => t.h.cell (keep_below HT2.out _ _ HC5.out) (by simp)
  go_wp2
  (refine region_kept ([]) [0, 1, 2, 3, 4, 5, 6, 7] [8] (by kernel_rfl) (by kernel_rfl) (fun _ _ _ _ _ h => h) ?_; simp only [List.filterMap_cons, List.getElem?_cons_zero, List.getElem?_cons_succ, List.filterMap_nil]; (repeat ((show wpQuiet _ _ _ _ (_ :: _) _); go_big_quiet_step (fail))); refine wpQuiet_nil ?_)
  clear k1
  refine wpSeqS_last ?_
  go_wp2_with fail
  refine (HPu.out _ 4 np _ _ _ (HR2.out.drewN 1) (by rw [setN_length, List.length_replicate]; omega) (by omega) (by omega)).mono ?_
  rintro e w3 ⟨⟨ev, rfl⟩, hr3, ht3⟩
  have HR3 := Lib.hid hr3
  have HB3 : Hid (Below w.heap.size w w3) := ht3.below (below_drewN0 HT2.out 1) HT2.out.size (by simp)
  clear hr3 ht3
  have q5 := keep_below HB3.out _ _ HC5.out
  go_wp2
  go_loopw [30] (fun i wr => ∃ (k : Nat) (d : List Nat), i = .int .i64 k ∧ k ≤ np ∧ DirP d np S.dir k ∧ Row wr w.heap.size 5 (intsV .u8 d).toArray ∧ Below w.heap.size w wr) (fun i _ => np - (intOf i).toNat)
  case atStart => exact ⟨0, _, rfl, by omega, HS.out, HR3.out, HB3.out⟩
  case round =>
    obtain ⟨k, d, rfl, hk, hdp, hr, hb⟩ := hrel
    by_cases hkn : k < np
    · have HDp := Lib.hid hdp
      have HRr := Lib.hid hr
      have HBr := Lib.hid hb
      have cd := keep_below hb _ _ (HD.out k hkn)
      have HVk := Lib.hid (HV.out k hkn)
      have HNx := Lib.hid (dir_step hdp hkn (HV.out k hkn))
      have HLd := Lib.hid hdp.1
      obtain ⟨v, hv⟩ : ∃ v, v = S.dir k := ⟨_, rfl⟩
      rw [← hv] at cd HVk HNx
      clear hdp hr hb hv q5
      go_wp2_with fail
      refine (HPu.out d (8 + 4 * k) v _ _ _ HRr.out (by rw [HLd.out]; omega) (by omega) HVk.out).mono ?_
      rintro e w4 ⟨⟨ev, rfl⟩, hr4, ht4⟩
      have HR4 := Lib.hid hr4
      have HB4 : Hid (Below w.heap.size w w4) := ht4.below HBr.out HBr.out.size (by simp)
      clear hr4 ht4
      go_wp2
      go_roundw
      case rel => exact ⟨k + 1, _, by go_num, by omega, HNx.out, HR4.out, HB4.out⟩
      case measure => simp [intOf]; omega
    · obtain rfl : k = np := by omega
      have HDp := Lib.hid hdp
      have HRr := Lib.hid hr
      have HBr := Lib.hid hb
      clear hdp hr hb q5
      go_wp2
      go_ret
      exact ⟨rfl, HBr.out, d, ⟨HDp.out.1, HDp.out.2.1, HDp.out.2.2.1, HDp.out.2.2.2.1, HDp.out.2.2.2.2⟩, HRr.out⟩
end Go.Proofs.Ytfipmpajdkgffaa

namespace Go.Proofs.Ytfipmpajdkgffaa
open Go.RowKit Go.MapKept Go.ChangeMaps
attribute [local go_sem] Oper.semAt_some
attribute [local simp, local go_sem] wide_fn
set_option linter.unusedVariables false
set_option linter.unusedSimpArgs false

/-- A map whose first k parts lie where the bytes say. -/
def Sm.ldk (S : Sm) (d : List Nat) (k : Nat) : Sm := { S with dir := fun i => if i < k then num4 d (8 + 4 * i) else S.dir i }
theorem Sm.ldk_zero (S : Sm) (d : List Nat) : S.ldk d 0 = S := by simp [Sm.ldk]
theorem Sm.ldk_step (S : Sm) (d : List Nat) (k : Nat) : (S.ldk d k).dirAt k (num4 d (8 + 4 * k)) = S.ldk d (k + 1) := by
  simp only [Sm.ldk, Sm.dirAt]
  congr 1
  funext i
  by_cases e : i = k
  · subst e; rw [if_pos rfl, if_pos (by omega)]
  · rw [if_neg e]
    by_cases h : i < k
    · rw [if_pos h, if_pos (by omega)]
    · rw [if_neg h, if_neg (by omega)]
/-- May these bytes be a directory? -/
def DirOk (d : List Nat) (np : Nat) : Prop := d.length = 8 + 4 * np ∧ num4 d 0 = 1346456915 ∧ num4 d 4 = np ∧ ∀ i, i < np → num4 d (8 + 4 * i) ≤ 262144
theorem num4_lt {d : List Nat} (h : ∀ u ∈ d, u < 256) (i : Nat) : num4 d i < 4294967296 := by
  have h1 := getD_lt h i
  have h2 := getD_lt h (i + 1)
  have h3 := getD_lt h (i + 2)
  have h4 := getD_lt h (i + 3)
  unfold num4; omega
def LoadP (w : World) (Mb Sb Q Db : Nat) (P pb : Nat → Nat) (T F : List Nat) (S : Sm) (sh : Sh) (d : List Nat) (e : Ending) (w' : World) : Prop :=
  (e = .returned (.tuple #[.pointer (some ⟨Mb, 0, none⟩), .int .i64 0]) ∧ DirOk d S.np ∧ SmAt w' Mb Sb Q Db P pb T F (S.ldk d S.np) sh ∧ Turns w w' [Db]) ∨
  (e = .returned (.tuple #[.pointer none, .int .i64 24]) ∧ ¬ DirOk d S.np ∧ Turns w w' [Db])
set_option maxRecDepth 100000 in
set_option maxHeartbeats 2000000 in
theorem load_len (w : World) (Mb Sb Q Db : Nat) (P pb : Nat → Nat) (T F : List Nat) (S : Sm) (sh : Sh) (h : SmAt w Mb Sb Q Db P pb T F S sh) (A : Option Addr) (d : List Nat) (c : Nat) (hlen : d.length ≤ 140737488351232) (hcap : d.length ≤ c) (hne : d.length ≠ 8 + 4 * S.np) :
    Calls Try.prog 28 #[.pointer (some ⟨Mb, 0, none⟩), .slice A d.length c] w (LoadP w Mb Sb Q Db P pb T F S sh d) := by
  have HBad : Hid (¬ DirOk d S.np) := fun h => hne h.1
  obtain ⟨c1, c3, c5, hd⟩ := h.cells
  have hnp := h.np_few
  obtain ⟨np, hnpe⟩ : ∃ np, np = S.np := ⟨_, rfl⟩
  have HNp := Lib.hid hnpe
  rw [← hnpe] at c5 hd hnp
  obtain ⟨dl, hdl⟩ : ∃ dl, dl = d.length := ⟨_, rfl⟩
  have HDl := Lib.hid hdl
  rw [← hdl] at hlen hcap ⊢
  have HK : Hid (∃ K, K = LoadP w Mb Sb Q Db P pb T F S sh d) := ⟨_, rfl⟩
  obtain ⟨K, hK⟩ := HK.out
  have HKe := Lib.hid hK
  rw [← hK]
  have hv1 : IntKind.i64.wrap (4 * (np : Int)) = 4 * (np : Int) := by rw [IntKind.wrap_i64]; omega
  have hv2 : IntKind.i64.wrap (8 + 4 * (np : Int)) = 8 + 4 * (np : Int) := by rw [IntKind.wrap_i64]; omega
  clear hK HK hnpe hdl
  rw [← HDl.out, ← HNp.out] at hne
  have g1 : ((dl : Int) != 8 + 4 * (np : Int)) = true := by rw [bne_iff_ne]; omega
  clear h hd c1 c3
  go_enter Try.func28, Try.ntmps28
  go_wp2
  go_quiet (fail)
  go_wp2
  rw [HKe.out]; exact .inr ⟨rfl, HBad.out, (Turns.refl w _).drewN _⟩
set_option maxRecDepth 100000 in
set_option maxHeartbeats 2000000 in
theorem load_magic (w : World) (Mb Sb Q Db : Nat) (P pb : Nat → Nat) (T F : List Nat) (S : Sm) (sh : Sh) (h : SmAt w Mb Sb Q Db P pb T F S sh) (A : Option Addr) (d : List Nat) (c : Nat) (hlen : d.length ≤ 140737488351232) (hcap : d.length ≤ c) (he : d.length = 8 + 4 * S.np) (hA : Cells8 w A d) (hsm : ∀ u ∈ d, u < 256) (hne : num4 d 0 ≠ 1346456915 ∨ num4 d 4 ≠ S.np) :
    Calls Try.prog 28 #[.pointer (some ⟨Mb, 0, none⟩), .slice A d.length c] w (LoadP w Mb Sb Q Db P pb T F S sh d) := by
  have HBad : Hid (¬ DirOk d S.np) := fun h => hne.elim (fun h1 => h1 h.2.1) (fun h1 => h1 h.2.2.1)
  have l0 := num4_lt hsm 0
  have l4 := num4_lt hsm 4
  obtain ⟨g, off, rfl, qd⟩ : ∃ g off, A = some ⟨g, off, none⟩ ∧ ∀ i, i < d.length → w.cell? ⟨g, off + i, none⟩ = some (.int .u8 (d.getD i 0)) := by
    obtain ⟨g, off, e, hc⟩ := hA 0 (by omega)
    refine ⟨g, off, e, fun i hi => ?_⟩
    obtain ⟨g', off', e', hc'⟩ := hA i hi
    rw [e] at e'; injection e' with e'; injection e' with e1 e2
    subst e1 e2
    exact hc'
  have HQd := Lib.hid qd
  have HG : Hid (∀ i n c k, 4 ≤ n → i + 4 ≤ d.length → Calls Try.prog 26 #[.slice (some ⟨g, off + i, none⟩) n c] (w.drewN k) fun e w' => e = .returned (.int .u32 (num4 d i)) ∧ ∃ m, w' = (w.drewN k).drewN m) := fun i n c k hn hi => get_any n c d i hn hsm (w.drewN k) g (off + i) (fun j hj => by rw [Nat.add_assoc]; exact qd (i + j) (by omega))
  clear qd hA
  obtain ⟨c1, c3, c5, hd⟩ := h.cells
  have hnp := h.np_few
  obtain ⟨np, hnpe⟩ : ∃ np, np = S.np := ⟨_, rfl⟩
  have HNp := Lib.hid hnpe
  rw [← hnpe] at c5 hd hnp
  obtain ⟨dl, hdl⟩ : ∃ dl, dl = d.length := ⟨_, rfl⟩
  have HDl := Lib.hid hdl
  rw [← hdl] at hlen hcap ⊢
  have HK : Hid (∃ K, K = LoadP w Mb Sb Q Db P pb T F S sh d) := ⟨_, rfl⟩
  obtain ⟨K, hK⟩ := HK.out
  have HKe := Lib.hid hK
  rw [← hK]
  have hv1 : IntKind.i64.wrap (4 * (np : Int)) = 4 * (np : Int) := by rw [IntKind.wrap_i64]; omega
  have hv2 : IntKind.i64.wrap (8 + 4 * (np : Int)) = 8 + 4 * (np : Int) := by rw [IntKind.wrap_i64]; omega
  clear hK HK hnpe hdl
  have HG0 : Hid (∀ n c k, 4 ≤ n → Calls Try.prog 26 #[.slice (some ⟨g, off, none⟩) n c] (w.drewN k) fun e w' => e = .returned (.int .u32 (num4 d 0)) ∧ ∃ m, w' = (w.drewN k).drewN m) := fun n c k hn => HG.out 0 n c k hn (by omega)
  have HG4 : Hid (∀ n c k, 4 ≤ n → Calls Try.prog 26 #[.slice (some ⟨g, off + 4, none⟩) n c] (w.drewN k) fun e w' => e = .returned (.int .u32 (num4 d 4)) ∧ ∃ m, w' = (w.drewN k).drewN m) := fun n c k hn => HG.out 4 n c k hn (by omega)
  rw [← HDl.out, ← HNp.out] at he
  rw [← HNp.out] at hne
  have g1 : ((dl : Int) != 8 + 4 * (np : Int)) = false := by rw [bne_eq_false_iff_eq]; omega
  have g3 : IntKind.u32.wrap (np : Int) = np := by rw [IntKind.wrap_u32]; omega
  have h12 : 8 ≤ dl := by omega
  clear he
  generalize num4 d 0 = m0 at *
  generalize num4 d 4 = m4 at *
  clear h hd c1 c3 HG
  by_cases h0 : m0 = 1346456915
  · have h4 : m4 ≠ np := hne.elim (fun h => absurd h0 h) (fun h => h)
    have g0 : ((m0 : Int) != 1346456915) = false := by rw [bne_eq_false_iff_eq]; omega
    have g4 : ((m4 : Int) != (np : Int)) = true := by rw [bne_iff_ne]; omega
    clear hne h0
    go_enter Try.func28, Try.ntmps28
    go_wp2
    go_quiet ((go_at_call 26; (first | (with_reducible exact Calls.quiet_of (HG0.out _ _ _ (by omega))) | (with_reducible exact Calls.quiet_of (HG4.out _ _ _ (by omega))))))
    go_wp2
    rw [HKe.out]; exact .inr ⟨rfl, HBad.out, (Turns.refl w _).drewN _⟩
  · have g4 : ((m0 : Int) != 1346456915) = true := by rw [bne_iff_ne]; omega
    clear hne h0
    go_enter Try.func28, Try.ntmps28
    go_wp2
    go_quiet ((go_at_call 26; (first | (with_reducible exact Calls.quiet_of (HG0.out _ _ _ (by omega))) | (with_reducible exact Calls.quiet_of (HG4.out _ _ _ (by omega))))))
    go_wp2
    rw [HKe.out]; exact .inr ⟨rfl, HBad.out, (Turns.refl w _).drewN _⟩
set_option maxRecDepth 100000 in
set_option maxHeartbeats 2000000 in
theorem load_in (w : World) (Mb Sb Q Db : Nat) (P pb : Nat → Nat) (T F : List Nat) (S : Sm) (sh : Sh) (h : SmAt w Mb Sb Q Db P pb T F S sh) (A : Option Addr) (d : List Nat) (c : Nat) (hlen : d.length ≤ 140737488351232) (hcap : d.length ≤ c) (he : d.length = 8 + 4 * S.np) (hA : Cells8 w A d) (hAT : ∀ a, A = some a → a.block ∉ T) (hsm : ∀ u ∈ d, u < 256) (he0 : num4 d 0 = 1346456915) (he4 : num4 d 4 = S.np) :
    Calls Try.prog 28 #[.pointer (some ⟨Mb, 0, none⟩), .slice A d.length c] w (LoadP w Mb Sb Q Db P pb T F S sh d) := by
  have l0 := num4_lt hsm 0
  have l4 := num4_lt hsm 4
  obtain ⟨g, off, rfl, qd⟩ : ∃ g off, A = some ⟨g, off, none⟩ ∧ ∀ i, i < d.length → w.cell? ⟨g, off + i, none⟩ = some (.int .u8 (d.getD i 0)) := by
    obtain ⟨g, off, e, hc⟩ := hA 0 (by omega)
    refine ⟨g, off, e, fun i hi => ?_⟩
    obtain ⟨g', off', e', hc'⟩ := hA i hi
    rw [e] at e'; injection e' with e'; injection e' with e1 e2
    subst e1 e2
    exact hc'
  have HQd := Lib.hid qd
  have HG : Hid (∀ i n c k, 4 ≤ n → i + 4 ≤ d.length → Calls Try.prog 26 #[.slice (some ⟨g, off + i, none⟩) n c] (w.drewN k) fun e w' => e = .returned (.int .u32 (num4 d i)) ∧ ∃ m, w' = (w.drewN k).drewN m) := fun i n c k hn hi => get_any n c d i hn hsm (w.drewN k) g (off + i) (fun j hj => by rw [Nat.add_assoc]; exact qd (i + j) (by omega))
  clear qd hA
  have HgT : Hid (g ≠ Db) := fun e => hAT _ rfl (e ▸ h.mem.2.2)
  have HHs := Lib.hid h
  have HOk : Hid ((∀ j, j < S.np → num4 d (8 + 4 * j) ≤ 262144) → DirOk d S.np) := fun hj => ⟨he, he0, he4, hj⟩
  obtain ⟨c1, c3, c5, hd⟩ := h.cells
  have hnp := h.np_few
  obtain ⟨np, hnpe⟩ : ∃ np, np = S.np := ⟨_, rfl⟩
  have HNp := Lib.hid hnpe
  rw [← hnpe] at c5 hd hnp
  obtain ⟨dl, hdl⟩ : ∃ dl, dl = d.length := ⟨_, rfl⟩
  have HDl := Lib.hid hdl
  rw [← hdl] at hlen hcap ⊢
  have HK : Hid (∃ K, K = LoadP w Mb Sb Q Db P pb T F S sh d) := ⟨_, rfl⟩
  obtain ⟨K, hK⟩ := HK.out
  have HKe := Lib.hid hK
  rw [← hK]
  have hv1 : IntKind.i64.wrap (4 * (np : Int)) = 4 * (np : Int) := by rw [IntKind.wrap_i64]; omega
  have hv2 : IntKind.i64.wrap (8 + 4 * (np : Int)) = 8 + 4 * (np : Int) := by rw [IntKind.wrap_i64]; omega
  clear hK HK hnpe hdl
  have HG0 : Hid (∀ n c k, 4 ≤ n → Calls Try.prog 26 #[.slice (some ⟨g, off, none⟩) n c] (w.drewN k) fun e w' => e = .returned (.int .u32 (num4 d 0)) ∧ ∃ m, w' = (w.drewN k).drewN m) := fun n c k hn => HG.out 0 n c k hn (by omega)
  have HG4 : Hid (∀ n c k, 4 ≤ n → Calls Try.prog 26 #[.slice (some ⟨g, off + 4, none⟩) n c] (w.drewN k) fun e w' => e = .returned (.int .u32 (num4 d 4)) ∧ ∃ m, w' = (w.drewN k).drewN m) := fun n c k hn => HG.out 4 n c k hn (by omega)
  rw [← HDl.out, ← HNp.out] at he
  rw [← HNp.out] at he4
  have g1 : ((dl : Int) != 8 + 4 * (np : Int)) = false := by rw [bne_eq_false_iff_eq]; omega
  have g3 : IntKind.u32.wrap (np : Int) = np := by rw [IntKind.wrap_u32]; omega
  have hD8 := he
  have HD8 := Lib.hid he
  have h12 : 8 ≤ dl := by omega
  clear he
  have g0 : ((num4 d 0 : Int) != 1346456915) = false := by rw [bne_eq_false_iff_eq]; omega
  have g4 : ((num4 d 4 : Int) != (np : Int)) = false := by rw [bne_eq_false_iff_eq]; omega
  clear hD8 he0 he4
  generalize num4 d 0 = m0 at *
  generalize num4 d 4 = m4 at *
  clear h hd c1 c3 HG
  go_enter Try.func28, Try.ntmps28
  go_wp2
  go_quiet ((go_at_call 26; (first | (with_reducible exact Calls.quiet_of (HG0.out _ _ _ (by omega))) | (with_reducible exact Calls.quiet_of (HG4.out _ _ _ (by omega))))))
  go_wp2
  clear g0 g4 g1 g3 HG0 HG4 l0 l4
  have HGk : Hid (∀ (i n c : Nat) (u : World), Turns w u [Db] → 4 ≤ n → i + 4 ≤ dl → Calls Try.prog 26 #[.slice (some ⟨g, off + i, none⟩) n c] u fun e w' => e = .returned (.int .u32 (num4 d i)) ∧ ∃ m, w' = u.drewN m) := fun i n c u ht hn hi => get_any n c d i hn hsm u g (off + i) (fun j hj => by rw [Nat.add_assoc]; exact ht.cell (HQd.out (i + j) (by have := HDl.out; omega)) (by simp; exact HgT.out))
  go_loopw [39] (fun i wr => ∃ (k : Nat), i = .int .i64 k ∧ k ≤ np ∧ SmAt wr Mb Sb Q Db P pb T F (S.ldk d k) sh ∧ Turns w wr [Db] ∧ ∀ j, j < k → num4 d (8 + 4 * j) ≤ 262144) (fun i _ => np - (intOf i).toNat)
  case atStart => exact ⟨0, rfl, by omega, by rw [Sm.ldk_zero]; exact HHs.out.keep ((Turns.refl w []).drewN _) (by simp), (Turns.refl w _).drewN _, fun j hj => by omega⟩
  case round =>
    obtain ⟨k, rfl, hk, ha, ht, hle⟩ := hrel
    have HA := Lib.hid ha
    have HT := Lib.hid ht
    have HLe := Lib.hid hle
    have hnpl : (S.ldk d k).np = np := HNp.out.symm
    by_cases hkn : k < np
    · obtain ⟨_, _, c5r, hdr⟩ := ha.cells
      have cdk := hdr k (by rw [hnpl]; exact hkn)
      obtain ⟨cs, dr1, dr2, dr3⟩ := ha.dir
      have HRow := Lib.hid dr1
      have hd8 := HD8.out
      have k1 : ∀ t : Kept wr [], t.u.cell? ⟨Mb, 5, none⟩ = some (.slice (some ⟨Db, 0, none⟩) np np) := fun t => by rw [← hnpl]; exact t.h.cell c5r (by simp)
      have hlt : 8 + 4 * k < dl ∧ 8 + 4 * k + 4 ≤ dl := by omega
      have hv3 : IntKind.i64.wrap (4 * (k : Int)) = 4 * (k : Int) := by rw [IntKind.wrap_i64]; omega
      have hv4 : IntKind.i64.wrap (8 + 4 * (k : Int)) = 8 + 4 * (k : Int) := by rw [IntKind.wrap_i64]; omega
      obtain ⟨hlt1, hlt2⟩ := hlt
      clear hd8 ha ht hle dr1 dr2 dr3 hdr c5 c5r
      go_wp2
      (refine region_kept ([]) [0, 1, 2, 3, 4, 5, 6, 7, 8, 9] [10, 11, 12] (by kernel_rfl) (by kernel_rfl) (fun _ _ _ _ _ h => h) ?_; simp only [List.filterMap_cons, List.getElem?_cons_zero, List.getElem?_cons_succ, List.filterMap_nil]; (repeat ((show wpQuiet _ _ _ _ (_ :: _) _); go_big_quiet_step (fail))); refine wpQuiet_nil ?_)
      refine wpSeqS_step ?_
      go_wp2_with fail
      refine (HGk.out (8 + 4 * k) _ _ _ HT.out.drew (by omega) hlt2).mono ?_
      rintro e w4 ⟨rfl, hm⟩
      have HT4 : Hid (Turns wr w4 []) := by
        obtain ⟨m, rfl⟩ := hm
        exact ((Turns.refl wr []).drew).drewN m
      clear hm
      go_wp2_with fail
      refine outQ_normal HT4.out ?_
      refine wpSeqS_step ?_
      go_wp2_with fail
      refine outQ_normal HT4.out ?_
      refine wpSeqS_last ?_
      have HA4 : Hid (SmAt w4 Mb Sb Q Db P pb T F (S.ldk d k) sh) := HA.out.keep HT4.out (by simp)
      have HR4 : Hid (Row w4 Db 68 cs) := HT4.out.row HRow.out (by simp)
      have f4 := HR4.out.frozen k
      have q4 : w4.cell? ⟨Db, k, none⟩ = some (.int .u32 ((S.ldk d k).dir k : Nat)) := HT4.out.cell cdk (by simp)
      have hv : num4 d (8 + 4 * k) < 4294967296 := num4_lt hsm _
      have HA5 := Lib.hid (HA4.out.dirAt k (num4 d (8 + 4 * k)) (by rw [hnpl]; exact hkn) hv)
      have HT5 : Hid (Turns w (w4.setCell ⟨Db, k, none⟩ (.int .u32 (num4 d (8 + 4 * k) : Nat))) [Db]) := (HT.out.trans HT4.out (by simp)).setCell (by simp) _
      rw [Sm.ldk_step] at HA5
      have HMy : Hid (∀ u, Calls Try.prog 40 #[.int .u32 (num4 d (8 + 4 * k) : Nat)] u fun e w' => e = .returned (.bool (decide (num4 d (8 + 4 * k) ≤ 262144))) ∧ Below u.heap.size u w') := fun u => may_any _ hv u
      obtain ⟨v, hv0⟩ : ∃ v, v = num4 d (8 + 4 * k) := ⟨_, rfl⟩
      have HV := Lib.hid hv0
      rw [← hv0] at HA5 HT5 HMy hv ⊢
      have c55 : (w4.setCell ⟨Db, k, none⟩ (.int .u32 v)).cell? ⟨Mb, 5, none⟩ = some (.slice (some ⟨Db, 0, none⟩) np np) := by
        have := HA5.out.cells.2.2.1
        rw [show (S.ldk d (k + 1)).np = np from hnpl] at this; exact this
      have c5k : (w4.setCell ⟨Db, k, none⟩ (.int .u32 v)).cell? ⟨Db, k, none⟩ = some (.int .u32 v) := by
        have := HA5.out.cells.2.2.2 k (by rw [show (S.ldk d (k + 1)).np = np from hnpl]; exact hkn)
        rw [this]
        simp [Sm.ldk, HV.out]
      clear hv0 cdk k1
      generalize Value.int .u32 ((S.ldk d k).dir k : Nat) = z at q4
      go_wp2_with fail
      refine (HMy.out _).mono ?_
      rintro e w6 ⟨rfl, hb⟩
      have HA6 := Lib.hid (HA5.out.below hb)
      have HT6 := Lib.hid (HT5.out.then_below hb)
      have c56 := keep_below hb _ _ c55
      clear hb HA5 HT5 c55 c5k f4 q4
      by_cases hle : v ≤ 262144
      · have hd1 : decide (v ≤ 262144) = true := decide_eq_true hle
        rw [hd1]
        clear hd1
        go_wp2
        go_roundw
        case rel => exact ⟨k + 1, by go_num, by omega, HA6.out, HT6.out, fun j hj => by
          rcases Nat.lt_or_ge j k with h | h
          · exact HLe.out j h
          · obtain rfl : j = k := by omega
            rw [← HV.out]; exact hle⟩
        case measure => simp [intOf]; omega
      · have hd1 : decide (v ≤ 262144) = false := decide_eq_false hle
        rw [hd1]
        clear hd1
        go_wp2
        rw [HKe.out]
        exact .inr ⟨rfl, fun hok => hle (by rw [HV.out]; exact hok.2.2.2 k (by rw [← HNp.out]; exact hkn)), HT6.out⟩
    · obtain rfl : k = np := by omega
      clear ha ht hle
      go_wp2
      rw [HKe.out]
      exact .inl ⟨rfl, HOk.out fun j hj => HLe.out j (by rw [HNp.out]; exact hj), by rw [← HNp.out]; exact HA.out, HT.out⟩
theorem load_any (w : World) (Mb Sb Q Db : Nat) (P pb : Nat → Nat) (T F : List Nat) (S : Sm) (sh : Sh) (h : SmAt w Mb Sb Q Db P pb T F S sh) (A : Option Addr) (d : List Nat) (c : Nat) (hlen : d.length ≤ 140737488351232) (hcap : d.length ≤ c) (hA : Cells8 w A d) (hAT : ∀ a, A = some a → a.block ∉ T) (hsm : ∀ u ∈ d, u < 256) :
    Calls Try.prog 28 #[.pointer (some ⟨Mb, 0, none⟩), .slice A d.length c] w (LoadP w Mb Sb Q Db P pb T F S sh d) := by
  by_cases h1 : d.length = 8 + 4 * S.np
  · by_cases h2 : num4 d 0 = 1346456915
    · by_cases h3 : num4 d 4 = S.np
      · exact load_in w Mb Sb Q Db P pb T F S sh h A d c hlen hcap h1 hA hAT hsm h2 h3
      · exact load_magic w Mb Sb Q Db P pb T F S sh h A d c hlen hcap h1 hA hsm (.inr h3)
    · exact load_magic w Mb Sb Q Db P pb T F S sh h A d c hlen hcap h1 hA hsm (.inl h2)
  · exact load_len w Mb Sb Q Db P pb T F S sh h A d c hlen hcap h1
def LoadsP (w : World) (Sb : Nat) (T F : List Nat) (S : Sm) (sh : Sh) (d : List Nat) (e : Ending) (w' : World) : Prop :=
  (∃ Mb, e = .returned (.tuple #[.pointer (some ⟨Mb, 0, none⟩), .int .i64 0]) ∧ DirOk d S.np ∧ w.heap.size ≤ Mb ∧ Below w.heap.size w w' ∧ ∃ T', (∀ k ∈ T', k ∈ T ∨ w.heap.size ≤ k) ∧ SmIs w' Mb Sb T' F (S.ldk d S.np) sh) ∨
  (e = .returned (.tuple #[.pointer none, .int .i64 24]) ∧ ¬ DirOk d S.np ∧ Below w.heap.size w w')
/-- What only a fresh map's own blocks turn. -/
theorem Load_any (w : World) (Sb : Nat) (T F : List Nat) (sh : Sh) (hs : ShIs w Sb T F sh) (hTF : ∀ k ∈ F, k ∉ T) (hlt : ∀ k, k ∈ T ∨ k ∈ F → k < w.heap.size) (a b c : Nat) (ha : 1 ≤ a ∧ a ≤ 16384) (hb : 16 ≤ b ∧ b ≤ 4096 ∧ b % 4 = 0) (hc : 1 ≤ c ∧ c ≤ 4096)
    (A : Option Addr) (d : List Nat) (cp : Nat) (hlen : d.length ≤ 140737488351232) (hcap : d.length ≤ cp) (hA : Cells8 w A d) (hAT : ∀ a, A = some a → a.block ∉ T ∧ a.block < w.heap.size) (hsm : ∀ u ∈ d, u < 256) :
    Calls Try.prog 14 #[.int .i64 a, .int .i64 b, .int .i64 c, .iface 33 (.pointer (some ⟨Sb, 0, none⟩)), .slice A d.length cp] w (LoadsP w Sb T F (Sm.new a b c) sh d) := by
  have HN := Lib.hid (New_any w Sb T F sh hs hTF hlt a b c ha hb hc)
  have HL : Hid (∀ u, Below w.heap.size w u → NewIs u w.heap.size Sb T F a b c sh → Calls Try.prog 28 #[.pointer (some ⟨w.heap.size + 1, 0, none⟩), .slice A d.length cp] u (LoadsP w Sb T F (Sm.new a b c) sh d)) := fun u hu hi =>
    (load_any u _ Sb _ _ _ _ _ F _ sh hi A d cp hlen hcap (hA.keep (keep_below hu)) (fun x hx => by
      obtain ⟨h1, h2⟩ := hAT x hx
      simp only [List.mem_cons, not_or]
      exact ⟨by omega, by omega, by omega, h1⟩) hsm).mono fun e w' h => by
      rcases h with ⟨h1, h2, h3, h4⟩ | ⟨h1, h2, h4⟩
      · exact .inl ⟨_, h1, h2, by omega, h4.below hu hu.size (by simp), _, fun k hk => by
          simp only [List.mem_cons] at hk
          rcases hk with rfl | rfl | rfl | hk
          · exact .inr (by omega)
          · exact .inr (by omega)
          · exact .inr (by omega)
          · exact .inl hk, ⟨_, _, _, _, h3⟩⟩
      · exact .inr ⟨h1, h2, h4.below hu hu.size (by simp)⟩
  have HK : Hid (∃ K, K = LoadsP w Sb T F (Sm.new a b c) sh d) := ⟨_, rfl⟩
  obtain ⟨K, hK⟩ := HK.out
  have HKe := Lib.hid hK
  rw [← hK]
  clear hK HK hs hTF hlt ha hb hc hlen hcap hA hAT hsm
  go_enter Try.func14, Try.ntmps14
  go_wp2_with fail
  refine HN.out.mono ?_
  rintro e w2 ⟨rfl, hi, hb⟩
  have HL2 := Lib.hid (HL.out w2 hb hi)
  clear hi hb HL HN
  go_wp2_with fail
  refine HL2.out.mono ?_
  rintro e w3 hp
  have HP := Lib.hid hp
  rcases hp with ⟨Mb, rfl, _⟩ | ⟨rfl, _⟩
  · go_wp2
    rw [HKe.out]; exact HP.out
  · go_wp2
    rw [HKe.out]; exact HP.out
end Go.Proofs.Ytfipmpajdkgffaa

namespace Go.Proofs.Ytfipmpajdkgffaa
open Go.Shelf
def Try.keysA_ren : Go.Shelf.Ren := ⟨fun | 7 => 30 | 10 => 43 | n => n, fun | 23 => 63 | 26 => 3 | 3 => 70 | 28 => 80 | 0 => 0 | 27 => 79 | 33 => 51 | 4 => 4 | n => n, fun | n => n⟩
theorem Try.keysA : Go.Proofs.SlLaysZI.n7 Try.prog Try.keysA_ren := {
  mixed := by kernel_rfl
  f7 := ⟨Try.f30.name, by decide, Try.func30.trans (congrArg some (by kernel_rfl))⟩
  f10 := ⟨Try.f43.name, by decide, Try.func43.trans (congrArg some (by kernel_rfl))⟩
  t0 := Try.underlying0
  a0 := Try.isAgg0
  z0 := Try.sizeOf0
  v0 := Try.zeroValue0
  t4 := Try.underlying4
  a4 := Try.isAgg4
  z4 := Try.sizeOf4
  v4 := Try.zeroValue4
  t23 := Try.underlying63
  a23 := Try.isAgg63
  z23 := Try.sizeOf63
  v23 := Try.zeroValue63
  t26 := Try.underlying3
  a26 := Try.isAgg3
  z26 := Try.sizeOf3
  v26 := Try.zeroValue3
  t27 := Try.underlying79
  a27 := Try.isAgg79
  z27 := Try.sizeOf79
  v27 := Try.zeroValue79
  t28 := Try.underlying80
  a28 := Try.isAgg80
  z28 := Try.sizeOf80
  v28 := Try.zeroValue80
  t33 := Try.underlying51
  a33 := Try.isAgg51
  z33 := Try.sizeOf51
  v33 := Try.zeroValue51 }
def Try.sortedA_ren : Go.Shelf.Ren := ⟨fun | 6 => 29 | 8 => 41 | 9 => 42 | 11 => 47 | 13 => 49 | 12 => 48 | 23 => 59 | 24 => 60 | 14 => 50 | 15 => 51 | 16 => 52 | 17 => 53 | 18 => 54 | 19 => 55 | 20 => 56 | 21 => 57 | 22 => 58 | 25 => 61 | 26 => 62 | 27 => 63 | 28 => 64 | 29 => 65 | 30 => 66 | 31 => 67 | n => n, fun | 26 => 3 | 28 => 80 | 24 => 54 | 0 => 0 | 3 => 3 | 37 => 86 | 48 => 68 | 50 => 110 | 4 => 4 | 40 => 101 | 39 => 100 | 45 => 106 | 5 => 5 | 9 => 9 | 51 => 111 | 55 => 115 | 57 => 117 | 58 => 118 | 33 => 51 | n => n, fun | n => n⟩
theorem Try.sortedA : Go.Proofs.SlLaysZI.n6 Try.prog Try.sortedA_ren := {
  mixed := by kernel_rfl
  f6 := ⟨Try.f29.name, by decide, Try.func29.trans (congrArg some (by kernel_rfl))⟩
  f8 := ⟨Try.f41.name, by decide, Try.func41.trans (congrArg some (by kernel_rfl))⟩
  f11 := ⟨Try.f47.name, by decide, Try.func47.trans (congrArg some (by kernel_rfl))⟩
  t0 := Try.underlying0
  a0 := Try.isAgg0
  z0 := Try.sizeOf0
  v0 := Try.zeroValue0
  t24 := Try.underlying54
  a24 := Try.isAgg54
  z24 := Try.sizeOf54
  v24 := Try.zeroValue54
  t26 := Try.underlying3
  a26 := Try.isAgg3
  z26 := Try.sizeOf3
  v26 := Try.zeroValue3
  t28 := Try.underlying80
  a28 := Try.isAgg80
  z28 := Try.sizeOf80
  v28 := Try.zeroValue80
  i26 := by kernel_rfl }
def Try.sortA_ren : Go.Shelf.Ren := ⟨fun | 5 => 42 | 8 => 49 | 7 => 48 | 19 => 59 | 20 => 60 | 10 => 50 | 11 => 51 | 12 => 52 | 13 => 53 | 14 => 54 | 15 => 55 | 16 => 56 | 17 => 57 | 18 => 58 | 30 => 61 | 31 => 62 | 32 => 63 | 33 => 64 | 34 => 65 | 35 => 66 | 40 => 67 | n => n, fun | 23 => 54 | 25 => 3 | 3 => 3 | 32 => 86 | 22 => 54 | 0 => 0 | 44 => 68 | 46 => 110 | 4 => 4 | 36 => 101 | 35 => 100 | 41 => 106 | 5 => 5 | 9 => 9 | 53 => 111 | 57 => 115 | 63 => 117 | 64 => 118 | n => n, fun | n => n⟩
theorem Try.sortA : Go.Proofs.SlLaysM.n5 Try.prog Try.sortA_ren := {
  mixed := by kernel_rfl
  f5 := ⟨Try.f42.name, by decide, Try.func42.trans (congrArg some (by kernel_rfl))⟩
  f7 := ⟨Try.f48.name, by decide, Try.func48.trans (congrArg some (by kernel_rfl))⟩
  f8 := Try.func49.trans (congrArg some (by kernel_rfl))
  f10 := ⟨Try.f50.name, by decide, Try.func50.trans (congrArg some (by kernel_rfl))⟩
  f11 := ⟨Try.f51.name, by decide, Try.func51.trans (congrArg some (by kernel_rfl))⟩
  f12 := ⟨Try.f52.name, by decide, Try.func52.trans (congrArg some (by kernel_rfl))⟩
  f13 := ⟨Try.f53.name, by decide, Try.func53.trans (congrArg some (by kernel_rfl))⟩
  f14 := ⟨Try.f54.name, by decide, Try.func54.trans (congrArg some (by kernel_rfl))⟩
  f15 := ⟨Try.f55.name, by decide, Try.func55.trans (congrArg some (by kernel_rfl))⟩
  f16 := ⟨Try.f56.name, by decide, Try.func56.trans (congrArg some (by kernel_rfl))⟩
  f17 := ⟨Try.f57.name, by decide, Try.func57.trans (congrArg some (by kernel_rfl))⟩
  f18 := ⟨Try.f58.name, by decide, Try.func58.trans (congrArg some (by kernel_rfl))⟩
  f19 := Try.func59.trans (congrArg some (by kernel_rfl))
  f20 := Try.func60.trans (congrArg some (by kernel_rfl))
  f30 := ⟨Try.f61.name, by decide, Try.func61.trans (congrArg some (by kernel_rfl))⟩
  f31 := Try.func62.trans (congrArg some (by kernel_rfl))
  f32 := Try.func63.trans (congrArg some (by kernel_rfl))
  f33 := ⟨Try.f64.name, by decide, Try.func64.trans (congrArg some (by kernel_rfl))⟩
  f34 := ⟨Try.f65.name, by decide, Try.func65.trans (congrArg some (by kernel_rfl))⟩
  f35 := ⟨Try.f66.name, by decide, Try.func66.trans (congrArg some (by kernel_rfl))⟩
  f40 := ⟨Try.f67.name, by decide, Try.func67.trans (congrArg some (by kernel_rfl))⟩
  t0 := Try.underlying0
  a0 := Try.isAgg0
  z0 := Try.sizeOf0
  v0 := Try.zeroValue0
  t3 := Try.underlying3
  a3 := Try.isAgg3
  z3 := Try.sizeOf3
  v3 := Try.zeroValue3
  t4 := Try.underlying4
  a4 := Try.isAgg4
  z4 := Try.sizeOf4
  v4 := Try.zeroValue4
  t5 := Try.underlying5
  a5 := Try.isAgg5
  z5 := Try.sizeOf5
  v5 := Try.zeroValue5
  t9 := Try.underlying9
  a9 := Try.isAgg9
  z9 := Try.sizeOf9
  v9 := Try.zeroValue9
  t22 := Try.underlying54
  a22 := Try.isAgg54
  z22 := Try.sizeOf54
  v22 := Try.zeroValue54
  t23 := Try.underlying54
  a23 := Try.isAgg54
  z23 := Try.sizeOf54
  v23 := Try.zeroValue54
  t25 := Try.underlying3
  a25 := Try.isAgg3
  z25 := Try.sizeOf3
  v25 := Try.zeroValue3
  t32 := Try.underlying86
  a32 := Try.isAgg86
  z32 := Try.sizeOf86
  v32 := Try.zeroValue86
  t35 := Try.underlying100
  a35 := Try.isAgg100
  z35 := Try.sizeOf100
  v35 := Try.zeroValue100
  t36 := Try.underlying101
  a36 := Try.isAgg101
  z36 := Try.sizeOf101
  v36 := Try.zeroValue101
  t41 := Try.underlying106
  a41 := Try.isAgg106
  z41 := Try.sizeOf106
  v41 := Try.zeroValue106
  t44 := Try.underlying68
  a44 := Try.isAgg68
  z44 := Try.sizeOf68
  v44 := Try.zeroValue68
  t46 := Try.underlying110
  a46 := Try.isAgg110
  z46 := Try.sizeOf110
  v46 := Try.zeroValue110
  t53 := Try.underlying111
  a53 := Try.isAgg111
  z53 := Try.sizeOf111
  v53 := Try.zeroValue111
  t57 := Try.underlying115
  a57 := Try.isAgg115
  z57 := Try.sizeOf115
  v57 := Try.zeroValue115
  t63 := Try.underlying117
  a63 := Try.isAgg117
  z63 := Try.sizeOf117
  v63 := Try.zeroValue117
  t64 := Try.underlying118
  a64 := Try.isAgg118
  z64 := Try.sizeOf118
  v64 := Try.zeroValue118 }
end Go.Proofs.Ytfipmpajdkgffaa
namespace Go.Proofs.Ytfipmpajdkgffaa
open Go.RowKit Go.MapKept Go.ChangeMaps Go.Sort Go.Shelf
open Go.Maps (Keyed)
set_option linter.unusedVariables false
set_option linter.unusedSimpArgs false

/-- The parts in memory, in order. -/
def heldL (S : Sm) : List Nat := (List.range S.np).filter fun n => (S.parts n).isSome
def heldI (S : Sm) : List Int := (heldL S).map fun (k : Nat) => (k : Int)
theorem mem_heldL (S : Sm) (n : Nat) : n ∈ heldL S ↔ n < S.np ∧ (S.parts n).isSome = true := by simp [heldL]
set_option maxRecDepth 100000 in
theorem SmAt.owned {w : World} {Mb Sb Q Db : Nat} {P pb : Nat → Nat} {T F : List Nat} {S : Sm} {sh : Sh} (h : SmAt w Mb Sb Q Db P pb T F S sh) :
    ∃ (nn : Nat) (D0 : DataW Unit), w.ownsMap Try.prog 3 (fun _ => some (.nil, [])) Q nn D0 ∧ Maps.size D0 ≤ S.np ∧ (intKeys D0).Perm (heldI S) ∧ (heldL S).length ≤ S.cnt := by
  have hnp := h.np_few
  obtain ⟨f, ⟨es, clock, hb, hs, hsz, hk, hf⟩, h2⟩ := h.map
  have hkey : ∀ x ∈ es.toList, ∃ k : Nat, k < S.np ∧ (S.parts k).isSome = true ∧ x.key = .int .i64 k := fun x hx => by
    obtain ⟨k, y, h3, h4, _⟩ := (h2 x.key x.val).1 ((hf _ _).2 ⟨x, hx, rfl, rfl⟩)
    exact ⟨k, (h.part k y h3).1, by rw [h3]; rfl, h4⟩
  have hnd : (es.toList.map (·.key)).Pairwise (· ≠ ·) := List.pairwise_map.2 ((stamped_iff es clock).1 hs).2.2
  have hle : es.size ≤ S.np := by
    have := nodup_le (l := es.toList.map (·.key)) (m := (List.range S.np).map fun (k : Nat) => Value.int .i64 (k : Int)) hnd (fun y hy => by
      obtain ⟨x, hx, rfl⟩ := List.mem_map.1 hy
      obtain ⟨k, h3, _, h5⟩ := hkey x hx
      exact List.mem_map.2 ⟨k, List.mem_range.2 h3, h5.symm⟩)
    simpa using this
  have hcn : (heldL S).length ≤ S.cnt := by
    have := nodup_le (l := (heldL S).map fun (k : Nat) => Value.int .i64 (k : Int)) (m := es.toList.map (·.key)) (List.pairwise_map.2 (((List.nodup_range (n := S.np)).filter _).imp fun {x z} hne e => hne (by
      have : (x : Int) = (z : Int) := by simpa using e
      omega))) (fun y hy => by
      obtain ⟨n, hn, rfl⟩ := List.mem_map.1 hy
      obtain ⟨h3, h4⟩ := (mem_heldL S n).1 hn
      obtain ⟨x, hx⟩ := Option.isSome_iff_exists.1 h4
      obtain ⟨y, hy, e1, _⟩ := (hf _ _).1 ((h2 (nk n) (.pointer (some ⟨P n, 0, none⟩))).2 ⟨n, x, hx, rfl, rfl⟩)
      exact List.mem_map.2 ⟨y, hy, e1⟩)
    simp only [List.length_map, Array.length_toList] at this
    omega
  have hF : WideElems.Fit (H := Unit) Try.prog 3 (fun _ => some (.nil, [])) es clock := ⟨by unfold maxLen; omega, hs, fun x hx => by
    obtain ⟨l, hl⟩ := hk x hx
    exact ⟨(l, .nil), by unfold WideElems.rd; rw [hl]; rfl⟩⟩
  refine ⟨es.size, _, ⟨es, clock, hb, hF, Nat.le_refl _, rfl⟩, ?_, ?_, hcn⟩
  · exact Nat.le_trans (World.ownsMap.size_le ⟨es, clock, hb, hF, Nat.le_refl _, rfl⟩) hle
  · have hrg : ∀ x ∈ es.toList, ∀ k : Nat, k < S.np → x.key = .int .i64 k → Go.intOf (WideElems.rg (H := Unit) Try.prog 3 (fun _ => some (.nil, [])) x).1 = k := fun x hx k hk hkk => by
      have e : WideElems.rd (H := Unit) Try.prog 3 (fun _ => some (.nil, [])) x = some (.int .i64 k, .nil) := by
        unfold WideElems.rd; rw [hkk, show (Value.int .i64 (k : Int)) = nk k from rfl, int_key (by omega)]; rfl
      rw [WideElems.rg_of e]; rfl
    have hp1 := (Go.WideShapes.sorted_perm (es.toList.map (WideElems.rg (H := Unit) Try.prog 3 (fun _ => some (.nil, []))))).map fun p => Go.intOf p.1
    refine hp1.trans ?_
    rw [List.map_map]
    refine (List.perm_ext_iff_of_nodup ?_ ?_).2 fun y => ?_
    · refine List.pairwise_map.2 (((stamped_iff es clock).1 hs).2.2.imp_of_mem fun {x z} hx hz hne e => hne ?_)
      obtain ⟨k1, h1, _, e1⟩ := hkey x hx
      obtain ⟨k3, h3, _, e3⟩ := hkey z hz
      have a1 := hrg x hx k1 h1 e1
      have a3 := hrg z hz k3 h3 e3
      simp only [Function.comp_apply] at e
      rw [a1, a3] at e
      rw [e1, e3, e]
    · refine List.pairwise_map.2 ((List.nodup_range.filter _).imp fun {x z} hne e => hne ?_)
      omega
    · rw [List.mem_map]
      unfold heldI
      rw [List.mem_map]
      constructor
      · rintro ⟨x, hx, rfl⟩
        obtain ⟨k1, h1, hb1, e1⟩ := hkey x hx
        refine ⟨k1, (mem_heldL S k1).2 ⟨h1, hb1⟩, ?_⟩
        rw [Function.comp_apply]
        exact (hrg x hx k1 h1 e1).symm
      · rintro ⟨k1, hk1, rfl⟩
        obtain ⟨h1, hb1⟩ := (mem_heldL S k1).1 hk1
        obtain ⟨y, hy⟩ := Option.isSome_iff_exists.1 hb1
        obtain ⟨x, hx, e1, _⟩ := (hf _ _).1 ((h2 (nk k1) (.pointer (some ⟨P k1, 0, none⟩))).2 ⟨k1, y, hy, rfl, rfl⟩)
        refine ⟨x, hx, ?_⟩
        rw [Function.comp_apply]
        exact hrg x hx k1 h1 e1
theorem heldI_sorted (S : Sm) : (heldI S).mergeSort (fun x y => decide (x ≤ y)) = heldI S := by
  have tr : ∀ a b c : Int, decide (a ≤ b) = true → decide (b ≤ c) = true → decide (a ≤ c) = true := fun a b c h1 h2 => by simp only [decide_eq_true_eq] at *; exact Int.le_trans h1 h2
  have tt : ∀ a b : Int, (decide (a ≤ b) || decide (b ≤ a)) = true := fun a b => by simp only [Bool.or_eq_true, decide_eq_true_eq]; exact Int.le_total a b
  have hL : (heldI S).Pairwise fun a b => decide (a ≤ b) = true := List.pairwise_map.2 ((List.pairwise_lt_range.filter _).imp fun {x z} h => decide_eq_true (by omega))
  refine List.Perm.eq_of_pairwise (le := fun a b => decide (a ≤ b) = true) (fun a b _ _ h1 h2 => ?_) (List.pairwise_mergeSort tr tt _) hL (List.mergeSort_perm _ _)
  simp only [decide_eq_true_eq] at h1 h2
  exact Int.le_antisymm h1 h2
theorem sortsA (m : Nat) : AnyZI.SortsIn Try.prog Try.sortedA_ren Fence.wide m :=
  ⟨fun blk off cap ss W hH hblk hsz => callsIn_wide.2 (AnyM.slices_Sort_int Try.sortA blk off cap ss W hH hblk hsz),
   fun p cap W => callsIn_wide.2 (AnyM.slices_Sort_int_none Try.sortA p cap W)⟩
theorem keysA_any (mb : Option Nat) (W : World) : Calls Try.prog 30 #[.map mb] W fun e w' => e = .returned (.func (.func 43) #[] #[.pointer (some ⟨W.heap.size, 0, none⟩)]) ∧ w' = W.alloc (.cells #[.map mb] 63) :=
  (callsIn_wide (n := 5)).1 (AnyZI.keys_in Try.keysA Fence.wide 5 trivial rfl mb W)
set_option maxHeartbeats 1000000 in
theorem sortedA_any {w : World} {Mb Sb Q Db : Nat} {P pb : Nat → Nat} {T F : List Nat} {S : Sm} {sh : Sh} (h : SmAt w Mb Sb Q Db P pb T F S sh) :
    Calls Try.prog 29 #[.func (.func 43) #[] #[.pointer (some ⟨w.heap.size, 0, none⟩)]] (w.alloc (.cells #[.map (some Q)] 63)) fun e w' => ∃ v, e = .returned v ∧
      w'.ownsRow (w.heap.size + 1) 3 1 v (heldL S).length ((heldI S).map encZ) ∧ Below (w.heap.size + 1) (w.alloc (.cells #[.map (some Q)] 63)) w' := by
  obtain ⟨nn, D0, hown, hsz, hp, hcn⟩ := h.owned
  have hnp := h.np_few
  have hbl : Q < w.heap.size := h.lt Q (.inl h.mem.2.1)
  have hseq : SeqGives Fence.wide 2 Try.prog 43 #[.pointer (some ⟨w.heap.size, 0, none⟩)] encZ (fun ss => ss.Perm (intKeys D0)) (Maps.size D0) (w.alloc (.cells #[.map (some Q)] 63)) :=
    AnyZI.keys_gives (ρ := Try.keysA_ren) { Try.keysA with } Fence.wide _ trivial rfl (by omega) w.heap.size Q nn D0 _ (by simp) (by simp) (by
      obtain ⟨es, clock, hb, Ft, hs, hD⟩ := hown
      exact ⟨es, clock, (Below.heap_alloc _ _ Q hbl).trans hb, Ft, hs, hD⟩)
  have cS := AnyZI.sorted_in Try.sortedA Fence.wide 5 trivial trivial trivial trivial rfl (by omega) (sortsA _) (enters_of Try.func42 (by kernel_rfl) rfl) 43 #[.pointer (some ⟨w.heap.size, 0, none⟩)] trivial (enters_of Try.func43 (by kernel_rfl) rfl) _ _ (by unfold maxLen; omega) (by omega) _ hseq
  change CallsIn _ _ Try.prog 29 _ _ _ at cS
  refine ((callsIn_wide (n := 5)).1 cS).mono ?_
  rintro e w' ⟨v, ss, rfl, hS, hrow, _, hb⟩
  rw [World.size_alloc] at hrow hb
  have hp2 := hS.trans hp
  have e1 : ss.mergeSort (fun x y => decide (x ≤ y)) = heldI S := (mergeSort_of_perm_i hp2).trans (heldI_sorted _)
  rw [e1, hp2.length_eq, show (heldI S).length = (heldL S).length by simp [heldI]] at hrow
  exact ⟨v, rfl, hrow, hb⟩
end Go.Proofs.Ytfipmpajdkgffaa

namespace Go.Proofs.Ytfipmpajdkgffaa
open Go.RowKit Go.MapKept Go.ChangeMaps Go.Sort Go.Shelf
attribute [local go_sem] Oper.semAt_some
attribute [local simp, local go_sem] wide_fn
set_option linter.unusedVariables false
set_option linter.unusedSimpArgs false

theorem heldI_enc (S : Sm) : (heldI S).map encZ = intsV .i64 (heldL S) := by
  simp [heldI, intsV, encZ]
theorem saveR_some {S S' : Sm} {sh sh' : Sh} {n : Nat} (h : SaveR S sh n S' sh') (m : Nat) : (S'.parts m).isSome = (S.parts m).isSome := by
  rcases h with ⟨x, hx, _, _, rfl, _⟩ | ⟨_, rfl, _⟩
  · rw [saved_parts]
    by_cases e : m = n
    · subst e; rw [updP_same, hx]; rfl
    · rw [updP_ne e]
  · rfl
/-- A map behind some of Flush's rounds: those of the first k parts are clean. -/
structure Fl (S : Sm) (sh : Sh) (k : Nat) (S' : Sm) (sh' : Sh) : Prop where
  goes : Goes k 0 S sh S' sh'
  same : ∀ m, (S'.parts m).isSome = (S.parts m).isSome
  clean : ∀ m x, S'.parts m = some x → x.d = true → ∀ j, j < k → (heldL S).getD j 0 ≠ m
theorem Fl.start {S : Sm} {sh : Sh} (h : Wl S sh) : Fl S sh 0 S sh := ⟨Goes.refl h, fun _ => rfl, fun _ _ _ _ j hj => by omega⟩
theorem Fl.step {S S1 S2 : Sm} {sh sh1 sh2 : Sh} {k : Nat} (h : Fl S sh k S1 sh1) (hs : SaveR S1 sh1 ((heldL S).getD k 0) S2 sh2) : Fl S sh (k + 1) S2 sh2 := by
  obtain ⟨h1, h2, h3⟩ := goes_save h.goes.wl hs
  refine ⟨h.goes.trans h1, fun m => (saveR_some hs m).trans (h.same m), fun m x hx hd j hj => ?_⟩
  by_cases e : j = k
  · subst e
    intro e2
    subst e2
    rw [h2 x hx] at hd; cases hd
  · have := saveR_some hs m
    rw [hx] at this
    obtain ⟨y, hy⟩ := Option.isSome_iff_exists.1 this.symm
    obtain ⟨d, hd2, hd3⟩ := h3 m y hy
    rw [hx] at hd2
    injection hd2 with hd2
    have hyd : y.d = true := hd3 (by rw [hd2] at hd; exact hd)
    exact h.clean m y hy hyd j (by omega)
theorem Fl.all {S S' : Sm} {sh sh' : Sh} (h : Fl S sh (heldL S).length S' sh') (hp : ∀ m x, S.parts m = some x → m < S.np) : ∀ m x, S'.parts m = some x → x.d = false := fun m x hx => by
  cases hd : x.d with
  | false => rfl
  | true =>
    exfalso
    have hs := h.same m
    rw [hx] at hs
    obtain ⟨y, hy⟩ := Option.isSome_iff_exists.1 hs.symm
    have hm : m ∈ heldL S := (mem_heldL S m).2 ⟨hp m y hy, hs.symm⟩
    obtain ⟨j, hj, e⟩ := List.getElem_of_mem hm
    exact h.clean m x hx hd j hj (by rw [List.getD_eq_getElem?_getD, List.getElem?_eq_getElem hj, e]; rfl)
def FlushP (w : World) (Mb Sb : Nat) (T F : List Nat) (S : Sm) (sh : Sh) (e : Ending) (w' : World) : Prop :=
  e = .returned (.int .i64 0) ∧ ∃ S' sh', SmTo w w' Mb Sb T F S' sh' ∧ Goes S.cnt 0 S sh S' sh' ∧ ∀ m x, S'.parts m = some x → x.d = false
set_option maxRecDepth 100000 in
set_option maxHeartbeats 2000000 in
theorem Flush_any (w : World) (Mb Sb : Nat) (T F : List Nat) (S : Sm) (sh : Sh) (h : SmIs w Mb Sb T F S sh) (hl : sh.L.length + S.cnt ≤ 262143) (hf : sh.full = -1) (hwl : Wl S sh) :
    Calls Try.prog 16 #[.pointer (some ⟨Mb, 0, none⟩)] w (FlushP w Mb Sb T F S sh) := by
  obtain ⟨Q, Db, P, pb, h⟩ := h
  have c4 := h.qcell
  have hcn : (heldL S).length ≤ S.cnt := by obtain ⟨_, _, _, _, _, h⟩ := h.owned; exact h
  have HCn := Lib.hid hcn
  have hnp := h.np_few
  have HNl : Hid (∀ j, j < (heldL S).length → (heldL S).getD j 0 < S.np) := fun j hj => ((mem_heldL S _).1 (by
    rw [List.getD_eq_getElem?_getD, List.getElem?_eq_getElem hj]; exact List.getElem_mem hj)).1
  have HKy := Lib.hid (keysA_any (some Q) w)
  have HSo := Lib.hid (sortedA_any h)
  have HH := Lib.hid h
  have HWl := Lib.hid hwl
  have HL := Lib.hid hl
  have HF := Lib.hid hf
  have HPt : Hid (∀ m x, S.parts m = some x → m < S.np) := fun m x hx => (h.part m x hx).1
  have HHl : Hid ((heldL S).length ≤ 1073741824) := by
    unfold Hid heldL
    exact Nat.le_trans (List.length_filter_le _ _) (by simpa using hnp)
  have HK : Hid (∃ K, K = FlushP w Mb Sb T F S sh) := ⟨_, rfl⟩
  obtain ⟨K, hK⟩ := HK.out
  have HKe := Lib.hid hK
  rw [← hK]
  clear hK HK h hwl hl hf hcn
  obtain ⟨n, hn⟩ : ∃ n, n = (heldL S).length := ⟨_, rfl⟩
  have HN := Lib.hid hn
  have hn6 : n ≤ 1073741824 := hn ▸ HHl.out
  rw [← hn] at HSo
  clear hn
  go_enter Try.func16, Try.ntmps16
  go_wp2_with fail
  refine HKy.out.mono ?_
  rintro e w1 ⟨rfl, rfl⟩
  go_wp2_with fail
  refine HSo.out.mono ?_
  rintro e w2 ⟨v, rfl, hrow, hb⟩
  rw [heldI_enc] at hrow
  obtain ⟨A, c, rfl, _, _⟩ := own_shape hrow
  have HB2 : Hid (Below w.heap.size w w2) := ((Below.refl w.heap.size w).alloc (Nat.le_refl _) _).trans (hb.mono (by omega))
  have HR2 := Lib.hid hrow
  clear hb hrow HKy HSo c4
  go_wp2
  go_loopw [13] (fun i wr => ∃ (k : Nat) (S' : Sm) (sh' : Sh) (T' F' : List Nat), i = .int .i64 k ∧ k ≤ n ∧ SmAt wr Mb Sb Q Db P pb T' F' S' sh' ∧ Turns w2 wr T ∧ (∀ q ∈ T', q ∈ T ∨ w2.heap.size ≤ q) ∧ (∀ q ∈ F', q ∈ F ∨ w2.heap.size ≤ q) ∧ Fl S sh k S' sh') (fun i _ => n - (intOf i).toNat)
  case atStart => exact ⟨0, S, sh, T, F, rfl, by omega, HH.out.below HB2.out, Turns.refl _ _, fun q hq => .inl hq, fun q hq => .inl hq, Fl.start HWl.out⟩
  case round =>
    obtain ⟨k, S', sh', T', F', rfl, hk, ha, ht, h1, h2, hfl⟩ := hrel
    have HA := Lib.hid ha
    have HT := Lib.hid ht
    have H1 := Lib.hid h1
    have H2 := Lib.hid h2
    have HFl := Lib.hid hfl
    clear ha ht h1 h2 hfl
    by_cases hkn : k < n
    · obtain ⟨g, c', e, hg1, hg2, hg3, hg4⟩ := own_at HR2.out (by omega)
      injection e with e1 _ e2
      subst e1 e2
      have hgT : g ∉ T := fun hm => by have := HH.out.lt g (.inl hm); omega
      have q := HT.out.cell (own_cell HR2.out k (by rw [← HN.out]; exact hkn)) hgT
      have HNk := Lib.hid (HNl.out k (by rw [← HN.out]; exact hkn))
      have HFs : Hid (∀ S2 sh2, SaveR S' sh' ((heldL S).getD k 0) S2 sh2 → Fl S sh (k + 1) S2 sh2) := fun S2 sh2 hs => HFl.out.step hs
      have hf0 : ¬ sh'.full = 0 := by have := HFl.out.goes.full; have := HF.out; omega
      have HSv := Lib.hid (Save_any wr Mb Sb Q Db P pb T' F' S' sh' HA.out ((heldL S).getD k 0) (by have := HNk.out; omega) (by have := HFl.out.goes.puts.2; have := HL.out; have := HCn.out; have := HN.out; omega) (by have := HFl.out.goes.full; have := HF.out; omega))
      generalize (heldL S).getD k 0 = m at *
      go_wp2_with fail
      refine HSv.out.mono ?_
      rintro e w4 (⟨rfl, S2, sh2, hs2, T2, F2, ha2, ht2, g1, g2⟩ | ⟨_, hf1, _⟩)
      · have HA2 := Lib.hid ha2
        have HT2 : Hid (Turns w2 w4 T) := HT.out.trans ht2 (fun q hq => H1.out q hq)
        have HG1 : Hid (∀ q ∈ T2, q ∈ T ∨ w2.heap.size ≤ q) := fun q hq => by
          have := HT.out.size
          rcases g1 q hq with h | h
          · exact H1.out q h
          · exact .inr (by omega)
        have HG2 : Hid (∀ q ∈ F2, q ∈ F ∨ w2.heap.size ≤ q) := fun q hq => by
          have := HT.out.size
          rcases g2 q hq with h | h
          · exact H2.out q h
          · exact .inr (by omega)
        have HFn := Lib.hid (HFs.out S2 sh2 hs2)
        clear ha2 ht2 g1 g2 hs2 hf0
        go_wp2
        go_roundw
        case rel => exact ⟨k + 1, S2, sh2, T2, F2, by go_num, by omega, HA2.out, HT2.out, HG1.out, HG2.out, HFn.out⟩
        case measure => simp [intOf]; omega
      · exact absurd hf1 hf0
    · obtain rfl : k = n := by omega
      go_wp2
      rw [HKe.out]
      have hz := HB2.out.size
      refine ⟨rfl, S', sh', ⟨T', F', ⟨Q, Db, P, pb, HA.out⟩, (Turns.of_below HB2.out T).trans HT.out (fun q hq => .inl hq), fun q hq => (H1.out q hq).imp (fun h => h) (fun h => by omega), fun q hq => (H2.out q hq).imp (fun h => h) (fun h => by omega)⟩, HFl.out.goes.mono (by have := HCn.out; have := HN.out; omega) (Nat.le_refl _), ?_⟩
      have := HFl.out
      rw [HN.out] at this
      exact this.all HPt.out
end Go.Proofs.Ytfipmpajdkgffaa

namespace Go.Proofs.Ytfipmpajdkgffaa
open Go.RowKit Go.MapKept Go.ChangeMaps Go.Sort Go.Shelf
attribute [local go_sem] Oper.semAt_some
attribute [local simp, local go_sem] wide_fn
set_option linter.unusedVariables false
set_option linter.unusedSimpArgs false

theorem IterIs.not_row {P : Program} {k : TypeId} {w : World} {b r n cnt : Nat} {f : Value → Option Value} (h : IterIs P k w b r n f cnt) {g : Nat} {ty : TypeId} {cs : Array Value} (hr : Row w g ty cs) : g ≠ b ∧ g ≠ r := by
  obtain ⟨es, clock, since, seen, c0, h1, hs, hn, hk, hf, h2, _⟩ := h
  unfold Row at hr
  exact ⟨fun e => by (subst e; rw [hr] at h1; injection h1 with h1; injection h1), fun e => by (subst e; rw [hr] at h2; injection h2 with h2; injection h2)⟩
theorem IterIs.turns {P : Program} {k : TypeId} {w w' : World} {b r n cnt : Nat} {f : Value → Option Value} {T : List Nat} (h : IterIs P k w b r n f cnt) (ht : Turns w w' T) (h1 : b ∉ T) (h2 : r ∉ T) : IterIs P k w' b r n f cnt :=
  h.keep (ht.block b h.isMap.lt h1) (ht.block r h.lt h2)
theorem int_sort (g c : Nat) (zs : List Int) (w : World) {B : Nat} (ho : w.ownsRow B 3 1 (.slice (some ⟨g, 0, none⟩) zs.length c) zs.length (zs.map fun z => .int .i64 z)) (hs : zs.length ≤ 1073741824) :
    Calls Try.prog 42 #[.slice (some ⟨g, 0, none⟩) zs.length c] w fun e w' => (∃ v, e = .returned v) ∧ w.grownBy w' (some g) := by
  obtain ⟨_, ⟨h1, h2⟩ | ⟨g', cap, cur, e, hb, hr, a1, a2, a3, a4⟩⟩ := ho
  · cases h1
  · injection e with e1 e2 e3
    injection e1 with e1
    injection e1 with e1
    subst e1 e3
    refine (AnyM.slices_Sort_int Try.sortA g 0 c zs w (holds_of_blockI hr (by simpa using a4)) (Array.getElem?_eq_some_iff.1 hr).1 (by omega)).mono ?_
    rintro e w' ⟨rfl, n, os, rfl⟩
    exact ⟨⟨_, rfl⟩, grownBy_sortedI _⟩
set_option maxRecDepth 100000 in
set_option maxHeartbeats 2000000 in
theorem Changed_any (w : World) (Mb Sb : Nat) (T F : List Nat) (S : Sm) (sh : Sh) (h : SmIs w Mb Sb T F S sh) (hc : S.cnt ≤ 1073741824) :
    Calls Try.prog 45 #[.pointer (some ⟨Mb, 0, none⟩)] w fun e w' => (∃ A k c, e = .returned (.slice A k c) ∧ k ≤ S.cnt ∧ ((∀ m x, S.parts m = some x → x.d = false) → k = 0)) ∧ Below w.heap.size w w' := by
  obtain ⟨Q, Db, P, pb, h⟩ := h
  obtain ⟨i1, ji, jz0, jz1, jz2⟩ := info_parts int_info
  have c4 := h.qcell
  obtain ⟨f, hmap, hf⟩ := h.map
  have HF := Lib.hid hf
  have HMap := Lib.hid hmap
  have HA := Lib.hid h
  clear h hmap hf
  obtain ⟨cn, hcn⟩ : ∃ cn, cn = S.cnt := ⟨_, rfl⟩
  rw [← hcn] at HMap hc ⊢
  clear hcn
  go_enter Try.func45, Try.ntmps45
  go_wp2_with (at_range; refine wpList_range_map rfl _ 63 rfl 3 70 parts_under Q cn f rfl HMap.out ?_; intro w7 hit7 hb7)
  have HIt7 := Lib.hid hit7
  have HB7 := Lib.hid hb7
  clear hit7 hb7 c4
  obtain ⟨r, hr⟩ : ∃ r, r = w.heap.size := ⟨_, rfl⟩
  have HR := Lib.hid hr
  rw [← hr] at HIt7 ⊢
  clear hr
  go_frame
  go_loopw [3] (fun v wr => ∃ cnt A c zs, v = .slice A zs.length c ∧ IterIs Try.prog 3 wr Q r cn f cnt ∧ Below w.heap.size w wr ∧ zs.length + cnt ≤ cn ∧ wr.ownsRow w.heap.size 3 1 (.slice A zs.length c) zs.length (zs.map fun z => .int .i64 z) ∧ ((∀ m x, S.parts m = some x → x.d = false) → zs = [])) (fun _ wr => wr.rangeLeft Q r)
  case atStart => exact ⟨cn, none, 0, [], rfl, HIt7.out, HB7.out, by simp, World.ownsRow_nil _ _ _ _, fun _ => rfl⟩
  case round =>
    obtain ⟨cnt, A, c, zs, rfl, hit, hb, hle, hown, hcl⟩ := hrel
    have HIt := Lib.hid hit
    have HB := Lib.hid hb
    have HO := Lib.hid hown
    have HCl := Lib.hid hcl
    obtain ⟨zl, hzl⟩ : ∃ zl, zl = zs.length := ⟨_, rfl⟩
    have HZ := Lib.hid hzl
    rw [← hzl] at hle ⊢
    clear HIt7 HB7 hit hb hown hcl hzl
    go_wp2_with (at_next; refine wpList_next_map rfl _ rfl 3 Q r cn f cnt rfl HIt.out ?_ ?_)
    · intro h0
      cases A with
      | none =>
        have hz0 : zl = 0 ∧ c = 0 := by
          obtain ⟨_, ⟨h1, h2⟩ | ⟨g', cap, cur, e, _⟩⟩ := HO.out
          · injection h1 with _ h3 h4
            exact ⟨by rw [HZ.out]; exact h2, h4⟩
          · cases e
        obtain ⟨rfl, rfl⟩ := hz0
        have HSo : Hid (Calls Try.prog 42 #[.slice none 0 0] wr fun e w' => (∃ v, e = .returned v) ∧ Below wr.heap.size wr w') := (AnyM.slices_Sort_int_none Try.sortA none 0 wr).mono (fun e w' ⟨h1, h2⟩ => ⟨⟨_, h1⟩, by rw [h2]; exact Below.refl _ _⟩)
        clear h0
        go_wp2_with fail
        refine HSo.out.mono ?_
        rintro e w9 ⟨⟨v, rfl⟩, hb9⟩
        have HB9 := Lib.hid hb9
        clear hb9 HSo
        go_wp2
        go_ret
        exact ⟨⟨_, _, _, rfl, by omega, fun _ => rfl⟩, HB.out.trans (HB9.out.mono HB.out.size)⟩
      | some a =>
        obtain ⟨g, rfl, hg⟩ : ∃ g, a = ⟨g, 0, none⟩ ∧ w.heap.size ≤ g := by
          obtain ⟨_, ⟨h1, h2⟩ | ⟨g', cap, cur, e, hbg, _⟩⟩ := HO.out
          · cases h1
          · injection e with e1
            injection e1 with e1
            exact ⟨g', e1, hbg⟩
        have HSo := Lib.hid (int_sort g c zs wr HO.out (by have := HZ.out; omega))
        rw [← HZ.out] at HSo
        clear h0
        go_wp2_with fail
        refine HSo.out.mono ?_
        rintro e w9 ⟨⟨v, rfl⟩, hg9⟩
        have HB9 : Hid (Below w.heap.size w w9) := HB.out.grown hg9 HB.out.size (fun q hq => by
          have : g = q := by injection hq
          omega)
        clear hg9 HSo
        go_wp2
        go_ret
        exact ⟨⟨_, _, _, rfl, by omega, fun h => by rw [HZ.out, HCl.out h]; rfl⟩, HB9.out⟩
    · intro key v w8 cnt8 hfk hit8 hlt8 hg8 hen
      obtain ⟨k, x, hkx, rfl, rfl⟩ := (HF.out key v).1 hfk
      have HKx : Hid (S.parts k = some x) := hkx
      have HB8 : Hid (Below w.heap.size w w8) := HB.out.grown hg8 HB.out.size (fun q hq => by
        have : r = q := by injection hq
        have := HR.out
        omega)
      have HIt8 := Lib.hid hit8
      have hle8 : w8.rangeLeft Q r = cnt8 := hit8.left_eq
      have hlt : wr.rangeLeft Q r = cnt := HIt.out.left_eq
      have HM : Hid (w8.rangeLeft Q r < wr.rangeLeft Q r) := by unfold Hid; omega
      have HLt : Hid (zl + cnt8 + 1 ≤ cn) := by unfold Hid; omega
      have hnr : ∀ q, (Value.slice A zl c).ownBlock = some q → q ≠ Q ∧ q ≠ r := fun q hq => by
        rcases HO.out.2 with ⟨e1, _⟩ | ⟨g', cap, cur, e1, hbg, hrow, _⟩
        · rw [HZ.out] at hq; rw [e1] at hq; cases hq
        · rw [HZ.out] at hq; rw [e1] at hq
          have : g' = q := by injection hq
          subst this
          exact HIt.out.not_row hrow
      have HO8 : Hid (w8.ownsRow w.heap.size 3 1 (.slice A zl c) zl (zs.map fun z => .int .i64 z)) := by
        have h1 := HO.out
        rw [← HZ.out] at h1
        exact (Turns.of_grown hg8).own h1 (fun q hq => by simpa using (hnr q hq).2)
      have HNr := Lib.hid hnr
      obtain ⟨_, ⟨⟨cap2, r2, _⟩, _, _, _⟩, _, _⟩ := (HA.out.below HB8.out).part k x HKx.out
      have u1 := r2.cell 1
      simp only [List.getElem?_toArray, List.getElem?_cons_zero, List.getElem?_cons_succ] at u1
      obtain ⟨xd, hxd⟩ : ∃ xd, xd = x.d := ⟨_, rfl⟩
      have HXd := Lib.hid hxd
      rw [← hxd] at u1
      clear hfk hit8 hlt8 hg8 hkx hle8 hlt r2 hnr hxd HIt HO
      cases xd with
      | false =>
        go_wp2
        go_roundw
        case rel => exact ⟨cnt8, A, c, zs, by rw [← HZ.out], HIt8.out, HB8.out, by have := HLt.out; have := HZ.out; omega, by rw [← HZ.out]; exact HO8.out, HCl.out⟩
        case measure => exact HM.out
      | true =>
        obtain ⟨W1, hW1⟩ : ∃ W1, W1 = w8.alloc (.cells #[.int .i64 k] 3) := ⟨_, rfl⟩
        have HB1 : Hid (Below w8.heap.size w8 W1) := by unfold Hid; rw [hW1]; exact (Below.refl _ _).alloc (Nat.le_refl _) _
        have HSa : Hid (Src W1 1 (some ⟨w8.heap.size, 0, none⟩) 1 [.int .i64 k]) := by unfold Hid; rw [hW1]; exact src_one
        have HOa : Hid (W1.ownsRow w.heap.size 3 1 (.slice A zl c) zl (zs.map fun z => .int .i64 z)) := own_below HO8.out HB1.out
        have HIa : Hid (IterIs Try.prog 3 W1 Q r cn f cnt8) := HIt8.out.below HB1.out
        have HBa : Hid (Below w.heap.size w W1) := HB8.out.trans (HB1.out.mono HB8.out.size)
        have g1 : Hid (zl + 1 ≤ maxLen) := by unfold Hid maxLen; have := HLt.out; omega
        have g2 : Hid ((zl + 1) * 8 ≤ 140737488355328) := by unfold Hid; have := HLt.out; omega
        have g3 : Hid (w.heap.size ≤ W1.heap.size) := HBa.out.size
        have H1 : Hid (∀ u ∈ [Value.int .i64 (k : Int)], u.oneCell' = true) := by simp [Hid]; rfl
        have HWz : Hid (W1.heap.size = w8.heap.size + 1) := by unfold Hid; rw [hW1]; simp
        subst hW1
        go_wp2_with (at_builtin; go_must (refine wpList_append_src _ rfl _ _ 54 rfl w.heap.size 3 i1 _ 1 8 Try.underlying54 ji jz0 jz1 jz2 rfl (by decide) _ zl _ rfl HOa.out (some ⟨w8.heap.size, 0, none⟩) 1 1 _ rfl HSa.out H1.out g1.out g2.out g3.out ?_))
        intro v9 w9 hown9 hgrow9 hat9
        obtain ⟨L9, c9, rfl, hL9, _, hc9, hm9⟩ := own_at hown9 (by omega)
        have HO9 := Lib.hid hown9
        have HT9 := Lib.hid (turns_grown hgrow9)
        have HNb : Hid (∀ q ∈ blkOf (.slice A zl c), w.heap.size ≤ q) := fun q hq => (own_blkOf HOa.out hq).1
        have HI9 : Hid (IterIs Try.prog 3 w9 Q r cn f cnt8) := HIa.out.turns HT9.out (fun hm => (HNr.out Q (by simpa [blkOf] using hm)).1 rfl) (fun hm => (HNr.out r (by simpa [blkOf] using hm)).2 rfl)
        have HB9 : Hid (Below w.heap.size w w9) := HT9.out.below HBa.out g3.out HNb.out
        have HM9 : Hid (w9.rangeLeft Q r < wr.rangeLeft Q r) := by
          unfold Hid
          have h1 := HI9.out.left_eq
          have h2 := HIt8.out.left_eq
          have h3 := HM.out
          omega
        clear hown9 hgrow9 hat9 HOa HSa H1 g1 g2 g3 HB1 HM
        go_wp2
        go_roundw
        case rel => exact ⟨cnt8, some ⟨L9, 0, none⟩, c9, zs ++ [(k : Int)], by simp [HZ.out], HI9.out, HB9.out, by have := HLt.out; have := HZ.out; simp; omega, by simpa [HZ.out] using HO9.out, fun h => by have := h k x HKx.out; rw [← HXd.out] at this; cases this⟩
        case measure => exact HM9.out
end Go.Proofs.Ytfipmpajdkgffaa

namespace Go.Proofs.Ytfipmpajdkgffaa
open Go.RowKit Go.MapKept Go.ChangeMaps
attribute [local go_sem] Oper.semAt_some
attribute [local simp, local go_sem] wide_fn
set_option linter.unusedVariables false
set_option linter.unusedSimpArgs false

theorem Dirty_any (w : World) (Mb Sb : Nat) (T F : List Nat) (S : Sm) (sh : Sh) (h : SmIs w Mb Sb T F S sh) (hc : S.cnt ≤ 1073741824) :
    Calls Try.prog 34 #[.pointer (some ⟨Mb, 0, none⟩)] w fun e w' => (∃ k : Nat, e = .returned (.int .i64 k) ∧ k ≤ S.cnt ∧ ((∀ m x, S.parts m = some x → x.d = false) → k = 0)) ∧ Below w.heap.size w w' := by
  have HC := Lib.hid (Changed_any w Mb Sb T F S sh h hc)
  clear h hc
  go_enter Try.func34, Try.ntmps34
  go_wp2_with fail
  refine HC.out.mono ?_
  rintro e w2 ⟨⟨A, k, c, rfl, h1, h2⟩, hb⟩
  have HB := Lib.hid hb
  have H1 := Lib.hid h1
  have H2 := Lib.hid h2
  clear hb h1 h2 HC
  go_wp2
  go_ret
  exact ⟨⟨k, rfl, H1.out, H2.out⟩, HB.out⟩
theorem Held_any (w : World) (Mb Sb : Nat) (T F : List Nat) (S : Sm) (sh : Sh) (h : SmIs w Mb Sb T F S sh) :
    Calls Try.prog 13 #[.pointer (some ⟨Mb, 0, none⟩)] w fun e w' => e = .returned (.int .i64 S.cnt) ∧ Below w.heap.size w w' := by
  obtain ⟨Q, Db, P, pb, h⟩ := h
  have c4 := h.qcell
  have hlen := len_map h
  clear h
  go_enter Try.func13, Try.ntmps13
  go_wp2
  go_ret
  exact ⟨rfl, Below.refl _ _⟩
theorem Parts_any (w : World) (Mb Sb : Nat) (T F : List Nat) (S : Sm) (sh : Sh) (h : SmIs w Mb Sb T F S sh) :
    Calls Try.prog 18 #[.pointer (some ⟨Mb, 0, none⟩)] w fun e w' => e = .returned (.int .i64 S.np) ∧ Below w.heap.size w w' := by
  obtain ⟨Q, Db, P, pb, h⟩ := h
  have c5 := h.cells.2.2.1
  clear h
  go_enter Try.func18, Try.ntmps18
  go_wp2
  go_ret
  exact ⟨rfl, Below.refl _ _⟩
theorem SmIs.np_few {w : World} {Mb Sb : Nat} {T F : List Nat} {S : Sm} {sh : Sh} (h : SmIs w Mb Sb T F S sh) : S.np ≤ 1073741824 := by
  obtain ⟨Q, Db, P, pb, h⟩ := h
  exact h.np_few
theorem Moved_out (w : World) (Mb Sb : Nat) (T F : List Nat) (S : Sm) (sh : Sh) (h : SmIs w Mb Sb T F S sh) (n b p : Int) (hn : n < 0 ∨ (S.np : Int) ≤ n) :
    Calls Try.prog 35 #[.pointer (some ⟨Mb, 0, none⟩), .int .i64 n, .agg #[.int .i64 b, .int .i64 p]] w fun e w' => e = .returned (.int .i64 1) ∧ Below w.heap.size w w' := by
  have hnp := h.np_few
  obtain ⟨Q, Db, P, pb, h⟩ := h
  have c5 := (h.below (Below.alloc (Below.refl w.heap.size w) (Nat.le_refl _) (.cells #[.int .i64 b, .int .i64 p] 28))).cells.2.2.1
  have HB1 : Hid (Below w.heap.size w (w.alloc (.cells #[.int .i64 b, .int .i64 p] 28))) := by unfold Hid; (repeat (first | (with_reducible refine Below.drew ?_) | (with_reducible refine below_drewN0 ?_ _) | ((with_reducible refine Below.setCell ?_ ?_ _); rotate_left; focus (first | omega | (simp; done) | (simp; omega) | (simp at *; omega))) | ((with_reducible refine Below.alloc ?_ ?_ _); rotate_left; focus (first | omega | (simp; done) | (simp; omega) | (simp at *; omega))) | (with_reducible exact Below.refl _ _)))
  obtain ⟨np, hnpe⟩ : ∃ np, np = S.np := ⟨_, rfl⟩
  rw [← hnpe] at c5 hn hnp
  clear h hnpe
  by_cases h0 : n < 0
  · clear hn
    go_enter Try.func35, Try.ntmps35
    go_wp2
    go_ret
    exact ⟨rfl, HB1.out⟩
  · have h1 : (np : Int) ≤ n := by omega
    clear hn
    go_enter Try.func35, Try.ntmps35
    go_wp2
    go_ret
    exact ⟨rfl, HB1.out⟩
set_option maxRecDepth 100000 in
set_option maxHeartbeats 1000000 in
theorem Moved_any (w : World) (Mb Sb : Nat) (T F : List Nat) (S : Sm) (sh : Sh) (h : SmIs w Mb Sb T F S sh) (n b p : Nat) (hn : n < S.np) (hb : b < 1024) (hp : p < 256) :
    Calls Try.prog 35 #[.pointer (some ⟨Mb, 0, none⟩), .int .i64 n, .agg #[.int .i64 b, .int .i64 p]] w fun e w' => e = .returned (.int .i64 0) ∧ SmIs w' Mb Sb T F (S.dirAt n (b * 256 + p + 1)) sh ∧ Turns w w' T := by
  have hnp := h.np_few
  obtain ⟨Q, Db, P, pb, h⟩ := h
  obtain ⟨w1, hw1⟩ : ∃ w1, w1 = w.alloc (.cells #[.int .i64 b, .int .i64 p] 28) := ⟨_, rfl⟩
  have HB1 : Hid (Below w.heap.size w w1) := by unfold Hid; rw [hw1]; (repeat (first | (with_reducible refine Below.drew ?_) | (with_reducible refine below_drewN0 ?_ _) | ((with_reducible refine Below.setCell ?_ ?_ _); rotate_left; focus (first | omega | (simp; done) | (simp; omega) | (simp at *; omega))) | ((with_reducible refine Below.alloc ?_ ?_ _); rotate_left; focus (first | omega | (simp; done) | (simp; omega) | (simp at *; omega))) | (with_reducible exact Below.refl _ _)))
  have HZ1 : Hid (Row w1 w.heap.size 28 #[.int .i64 b, .int .i64 p]) := by unfold Hid; rw [hw1]; exact Row.fresh _ _ _
  have HW1 := Lib.hid hw1
  have HA1 := Lib.hid (h.below HB1.out)
  have c5 := HA1.out.cells.2.2.1
  have HRi := Lib.hid (right_any b p w1)
  rw [decide_eq_true (show 0 ≤ (b : Int) ∧ (b : Int) < 1024 ∧ 0 ≤ (p : Int) ∧ (p : Int) < 256 by omega)] at HRi
  have HNu : Hid (∀ u, Calls Try.prog 24 #[.agg #[.int .i64 b, .int .i64 p]] u fun e w' => e = .returned (.int .u32 (b * 256 + p + 1 : Nat)) ∧ Below u.heap.size u w') := fun u => number_any b p (by omega) (by omega) u
  have z0 := HZ1.out.cell 0
  have z1 := HZ1.out.cell 1
  simp only [List.getElem?_toArray, List.getElem?_cons_zero, List.getElem?_cons_succ] at z0 z1
  have HV : Hid (b * 256 + p + 1 < 4294967296) := by unfold Hid; omega
  obtain ⟨v, hv⟩ : ∃ v, v = b * 256 + p + 1 := ⟨_, rfl⟩
  rw [← hv] at HNu HV ⊢
  obtain ⟨np, hnpe⟩ : ∃ np, np = S.np := ⟨_, rfl⟩
  have HN := Lib.hid hnpe
  rw [← hnpe] at c5 hn hnp
  rw [hw1] at c5 z0 z1
  clear h hnpe hv hw1 hb hp
  go_enter Try.func35, Try.ntmps35
  go_wp2_with fail
  rw [← HW1.out]
  refine HRi.out.mono ?_
  rintro e w2 ⟨rfl, hb⟩
  have HB2 : Hid (Below w.heap.size w w2) := HB1.out.trans (hb.mono HB1.out.size)
  have HA2 := Lib.hid (HA1.out.below hb)
  have HZ2 := Lib.hid (HZ1.out.below hb HZ1.out.lt)
  clear hb HRi c5 z0 z1 HA1 HZ1
  go_wp2
  have k1 : ∀ t : Kept w2 [], t.u.cell? ⟨Mb, 5, none⟩ = some (.slice (some ⟨Db, 0, none⟩) np np) := fun t => by rw [HN.out]; exact t.h.cell HA2.out.cells.2.2.1 (by simp)
  have k2 : ∀ t : Kept w2 [], t.u.cell? ⟨w.heap.size, 0, none⟩ = some (.int .i64 b) := fun t => t.h.cell ((HZ2.out.cell 0).trans (by simp)) (by simp)
  have k3 : ∀ t : Kept w2 [], t.u.cell? ⟨w.heap.size, 1, none⟩ = some (.int .i64 p) := fun t => t.h.cell ((HZ2.out.cell 1).trans (by simp)) (by simp)
  (refine region_kept ([]) [0, 1, 2, 3, 4, 5] [6, 7, 8] (by kernel_rfl) (by kernel_rfl) (fun _ _ _ _ _ h => h) ?_; simp only [List.filterMap_cons, List.getElem?_cons_zero, List.getElem?_cons_succ, List.filterMap_nil]; (repeat ((show wpQuiet _ _ _ _ (_ :: _) _); go_big_quiet_step (fail))); refine wpQuiet_nil ?_)
  clear k1 k2 k3
  refine wpSeqS_step ?_
  go_wp2_with fail
  refine (HNu.out _).mono ?_
  rintro e w4 ⟨rfl, hb⟩
  have HT4 : Hid (Turns w2 w4 []) := ((Turns.refl w2 []).drew).then_below hb
  clear hb
  go_wp2_with fail
  refine outQ_normal HT4.out ?_
  refine wpSeqS_step ?_
  go_wp2_with fail
  refine outQ_normal HT4.out ?_
  refine wpSeqS_last ?_
  have HA4 : Hid (SmAt w4 Mb Sb Q Db P pb T F S sh) := HA2.out.keep HT4.out (by simp)
  obtain ⟨cs, d1, d2, d3⟩ := HA4.out.dir
  have f4 := d1.frozen n
  have q4 := d1.cell n
  rw [(d3 n (by rw [← HN.out]; exact hn)).1] at q4
  have HA5 := Lib.hid (HA4.out.dirAt n v (by rw [← HN.out]; exact hn) HV.out)
  have HT5 : Hid (Turns w (w4.setCell ⟨Db, n, none⟩ (.int .u32 v)) T) := ((Turns.of_below HB2.out T).trans HT4.out (by simp)).setCell (.inl HA4.out.mem.2.2) _
  generalize Value.int .u32 (S.dir n : Nat) = z at q4
  clear d1 d2 d3
  go_wp2
  go_ret
  exact ⟨rfl, ⟨_, _, _, _, HA5.out⟩, HT5.out⟩
end Go.Proofs.Ytfipmpajdkgffaa

namespace Go.Proofs.Ytfipmpajdkgffaa
set_option linter.unusedVariables false
set_option linter.unusedSimpArgs false

/-- The map tells each sector hs, and lies well. -/
structure Pw (S : Sm) (sh : Sh) (hs : Nat → Nat) : Prop where
  wl : Wl S sh
  nw : Nw S sh
  vals : ∀ s, s < S.sectors → val S sh s = some (hs s)
  few : ∀ s, hs s ≤ 262144
  sec : 1 ≤ S.sectors
  out : ∀ s, S.sectors ≤ s → hs s = 0
def updH (hs : Nat → Nat) (s v : Nat) : Nat → Nat := fun i => if i = s then v else hs i
theorem each_pos {S : Sm} {sh : Sh} (h : Wl S sh) : 4 ≤ S.each ∧ S.each * 4 = S.page := by
  have := h.page
  unfold Sm.each; omega
theorem told_len {S : Sm} {sh : Sh} (h : Wl S sh) {n : Nat} {b : List Nat} (ht : told S sh n = some b) : okB S.page b := by
  unfold told at ht
  cases hp : S.parts n with
  | some x => rw [hp] at ht; injection ht with ht; rw [← ht]; exact h.ok n x hp
  | none => rw [hp] at ht; exact readR_okB ht h.page.2.2
theorem val_goes {S S' : Sm} {sh sh' : Sh} (h1 : S'.page = S.page) (ht : ∀ m b, told S sh m = some b → told S' sh' m = some b) {s v : Nat} (hv : val S sh s = some v) : val S' sh' s = some v := by
  unfold val at hv ⊢
  rw [show S'.each = S.each by unfold Sm.each; rw [h1]]
  cases hb : told S sh (s / S.each) with
  | none => rw [hb] at hv; cases hv
  | some b => rw [ht _ _ hb]; rw [hb] at hv; exact hv
theorem Pw.goes {S S' : Sm} {sh sh' : Sh} {hs : Nat → Nat} {k c : Nat} (h : Pw S sh hs) (hg : Goes k c S sh S' sh') : Pw S' sh' hs :=
  ⟨hg.wl, hg.nw h.nw, fun s hs' => val_goes hg.page hg.told (h.vals s (by rw [← hg.sectors]; exact hs')), h.few, by rw [hg.sectors]; exact h.sec, fun s hs' => h.out s (by rw [← hg.sectors]; exact hs')⟩
theorem Pw.tells {S : Sm} {sh : Sh} {hs : Nat → Nat} (h : Pw S sh hs) {n : Nat} (hn : n < S.np) : ∃ b, told S sh n = some b := by
  obtain ⟨h1, h2⟩ := each_pos h.wl
  have hs := h.sec
  have h3 : n * S.each < S.sectors := by
    unfold Sm.np at hn
    have h4 : n ≤ (S.sectors - 1) / S.each := by omega
    have h5 : n * S.each ≤ (S.sectors - 1) / S.each * S.each := Nat.mul_le_mul_right _ h4
    have h6 := Nat.div_mul_le_self (S.sectors - 1) S.each
    omega
  have hv := h.vals _ h3
  unfold val at hv
  rw [Nat.mul_div_cancel _ (by omega)] at hv
  cases ht : told S sh n with
  | none => rw [ht] at hv; cases hv
  | some b => exact ⟨b, rfl⟩
theorem Pw.tellsS {S : Sm} {sh : Sh} {hs : Nat → Nat} (h : Pw S sh hs) {s : Nat} (hs' : s < S.sectors) : ∃ b, told S sh (s / S.each) = some b := by
  have hv := h.vals s hs'
  unfold val at hv
  cases ht : told S sh (s / S.each) with
  | none => rw [ht] at hv; cases hv
  | some b => exact ⟨b, rfl⟩
theorem Pw.sets {S S' : Sm} {sh sh' : Sh} {hs : Nat → Nat} {k c s v : Nat} (h : Pw S sh hs) (hs' : s < S.sectors) (hv : v ≤ 262144) (hg : Sets s v k c S sh S' sh') : Pw S' sh' (updH hs s v) := by
  obtain ⟨h1, h2⟩ := each_pos h.wl
  have he : S'.each = S.each := by unfold Sm.each; rw [hg.page]
  refine ⟨hg.wl, hg.nw h.nw, fun i hi => ?_, fun i => ?_, by rw [hg.sectors]; exact h.sec, fun i hi => ?_⟩
  · have hi' : i < S.sectors := by rw [← hg.sectors]; exact hi
    have hold := h.vals i hi'
    obtain ⟨b, hb⟩ := h.tellsS hi'
    have hlen := told_len h.wl hb
    have hm1 := Nat.mod_lt i (show 0 < S.each by omega)
    have hm2 := Nat.mod_lt s (show 0 < S.each by omega)
    have ht := hg.told _ _ hb
    unfold val at hold ⊢
    rw [he, ht]
    rw [hb] at hold
    simp only [Option.map_some, Option.some.injEq] at hold ⊢
    unfold updH
    by_cases e : i / S.each = s / S.each
    · rw [if_pos e]
      by_cases e2 : i = s
      · subst e2
        rw [if_pos rfl]
        exact num4_setN_same b _ v (by rw [hlen.1]; omega) (by omega)
      · rw [if_neg e2, num4_setN_other b _ v _ (by rw [hlen.1]; omega) ?_]
        · exact hold
        · have : i % S.each ≠ s % S.each := fun e3 => e2 (by
            rw [← Nat.div_add_mod i S.each, ← Nat.div_add_mod s S.each, e, e3])
          omega
    · rw [if_neg e, if_neg (fun e2 => e (by rw [e2]))]
      exact hold
  · unfold updH; split
    · exact hv
    · exact h.few i
  · unfold updH
    rw [hg.sectors] at hi
    rw [if_neg (by omega)]
    exact h.out i hi
theorem num4_zeros (n i : Nat) : num4 (List.replicate n 0) i = 0 := by
  have h : ∀ j, (List.replicate n 0).getD j 0 = 0 := fun j => by
    rw [List.getD_eq_getElem?_getD, List.getElem?_replicate]; split <;> rfl
  unfold num4
  rw [h, h, h, h]
theorem new_wl {a b c : Nat} {sh : Sh} (hb : 16 ≤ b ∧ b ≤ 4096 ∧ b % 4 = 0) (h1 : ∀ d ∈ sh.L, d.length ≤ 65536) (h2 : sh.N.length = sh.L.length) (h3 : -1 ≤ sh.full ∧ sh.full ≤ 1048576) : Wl (Sm.new a b c) sh :=
  ⟨fun n x h => by simp [Sm.new] at h, fun n x h => by simp [Sm.new] at h, h1, h2, by simp [Sm.new], h3, hb⟩
theorem Pw.new {a b c : Nat} (ha : 1 ≤ a) (hb : 16 ≤ b ∧ b ≤ 4096 ∧ b % 4 = 0) : Pw (Sm.new a b c) sh0 (fun _ => 0) := by
  refine ⟨new_wl hb (by simp [sh0]) rfl (by simp [sh0]), fun n hn => .inl ⟨rfl, by simp [sh0]⟩, fun s hs => ?_, fun s => Nat.zero_le _, ha, fun _ _ => rfl⟩
  show (told (Sm.new a b c) sh0 _).map _ = _
  have : told (Sm.new a b c) sh0 (s / (Sm.new a b c).each) = some (List.replicate b 0) := by
    show readR (Sm.new a b c) sh0 _ = _
    unfold readR
    rw [if_pos (show (Sm.new a b c).dir (s / (Sm.new a b c).each) = 0 from rfl)]; rfl
  rw [this]
  simp [num4_zeros]
/-- Nothing is dirty: each part is what lies on the shelf. -/
theorem told_clean {S : Sm} {sh : Sh} (h : Wl S sh) (hc : ∀ m x, S.parts m = some x → x.d = false) (n : Nat) : told S sh n = readR S sh n := by
  unfold told
  cases hp : S.parts n with
  | none => rfl
  | some x => exact (h.clean n x hp (hc n x hp)).symm
theorem ldk_np (S : Sm) (d : List Nat) (k : Nat) : (S.ldk d k).np = S.np := rfl
theorem Pw.load {S : Sm} {sh : Sh} {hs : Nat → Nat} (h : Pw S sh hs) (hc : ∀ m x, S.parts m = some x → x.d = false) {d : List Nat} (hd : DirIs d S.np S.dir) : Pw ((Sm.new S.sectors S.page S.held).ldk d S.np) sh hs := by
  have hr : ∀ n, n < S.np → told ((Sm.new S.sectors S.page S.held).ldk d S.np) sh n = told S sh n := fun n hn => by
    rw [told_clean h.wl hc]
    show readR _ sh n = readR S sh n
    unfold readR
    rw [show ((Sm.new S.sectors S.page S.held).ldk d S.np).dir n = S.dir n by simp only [Sm.ldk]; rw [if_pos hn]; exact hd.dir n hn]
    rfl
  have hw := new_wl (a := S.sectors) (c := S.held) h.wl.page h.wl.len h.wl.same h.wl.full
  refine ⟨⟨hw.ok, fun n x hx => by simp [Sm.ldk, Sm.new] at hx, hw.len, hw.same, hw.held, hw.full, hw.page⟩, fun n hn => ?_, fun s hs' => ?_, h.few, h.sec, h.out⟩
  · have hn' : n < S.np := hn
    rw [show ((Sm.new S.sectors S.page S.held).ldk d S.np).dir n = S.dir n by simp only [Sm.ldk]; rw [if_pos hn']; exact hd.dir n hn']
    exact h.nw n hn'
  · have hs2 : s < S.sectors := hs'
    have := h.vals s hs2
    unfold val at this ⊢
    have e : ((Sm.new S.sectors S.page S.held).ldk d S.np).each = S.each := rfl
    rw [e, hr _ ?_]
    · exact this
    · unfold Sm.np
      have := Nat.div_le_div_right (c := S.each) (show s ≤ S.sectors - 1 by omega)
      omega
theorem DirIs.ok {S : Sm} {sh : Sh} {hs : Nat → Nat} (h : Pw S sh hs) {d : List Nat} (hd : DirIs d S.np S.dir) (hl : sh.L.length ≤ 262144) : DirOk d S.np := by
  refine ⟨hd.len, hd.m0, hd.m1, fun i hi => ?_⟩
  rw [hd.dir i hi]
  rcases h.nw i hi with ⟨h0, _⟩ | ⟨j, h0, h1, _⟩
  · omega
  · have := (List.getElem?_eq_some_iff.1 h1).1
    rw [h.wl.same] at this
    omega
/-- A part is moved. -/
def Sh.moved (sh : Sh) (n k : Nat) (b : List Nat) : Sh := { sh.put n b with L := (sh.L ++ [b]).set k [] }
theorem Pw.moved {S : Sm} {sh : Sh} {hs : Nat → Nat} (h : Pw S sh hs) (hc : ∀ m x, S.parts m = some x → x.d = false) (hpn : ∀ m x, S.parts m = some x → m < S.np) {n k : Nat} (hn : n < S.np) {b : List Nat} (hk : sh.N[k]? = some (n : Int)) (hlast : ∀ (i : Nat) (v : Int), k < i → sh.N[i]? = some v → v ≠ n) (hb : sh.L[k]? = some b) : Pw (S.dirAt n (sh.L.length + 1)) (sh.moved n k b) hs := by
  have hkl : k < sh.L.length := (List.getElem?_eq_some_iff.1 hb).1
  have hdn : S.dir n = k + 1 := by
    rcases h.nw n hn with ⟨_, h1⟩ | ⟨j, h0, h1, h2⟩
    · exact absurd rfl (h1 k n hk)
    · rcases Nat.lt_trichotomy j k with hj | hj | hj
      · exact absurd rfl (h2 k n hj hk)
      · omega
      · exact absurd rfl (hlast j n hj h1)
  obtain ⟨b', hb'⟩ := h.tells hn
  rw [told_clean h.wl hc] at hb'
  have hbb : readR S sh n = some b := by
    have h1 := hb'
    unfold readR at h1 ⊢
    rw [if_neg (by omega), hdn, Nat.add_sub_cancel, hb] at h1 ⊢
    simp only at h1 ⊢
    split at h1
    · rename_i hok; rw [if_pos hok]
    · cases h1
  have hok : okB S.page b := readR_okB hbb h.wl.page.2.2
  have hrn : readR (S.dirAt n (sh.L.length + 1)) (sh.moved n k b) n = some b := by
    unfold readR
    rw [show (S.dirAt n (sh.L.length + 1)).dir n = sh.L.length + 1 by simp [Sm.dirAt], if_neg (by omega)]
    have : (sh.moved n k b).L[sh.L.length + 1 - 1]? = some b := by
      show ((sh.L ++ [b]).set k [])[sh.L.length + 1 - 1]? = some b
      rw [Nat.add_sub_cancel, List.getElem?_set_ne (by omega)]
      simp
    rw [this]
    simp only
    rw [if_pos (show okB (S.dirAt n (sh.L.length + 1)).page b from hok)]
  have hro : ∀ m, m ≠ n → m < S.np → readR (S.dirAt n (sh.L.length + 1)) (sh.moved n k b) m = readR S sh m := fun m hm hmn => by
    unfold readR
    rw [show (S.dirAt n (sh.L.length + 1)).dir m = S.dir m by simp [Sm.dirAt, hm]]
    by_cases h0 : S.dir m = 0
    · rw [if_pos h0, if_pos h0]; rfl
    · rw [if_neg h0, if_neg h0]
      rcases h.nw m hmn with ⟨h1, _⟩ | ⟨j, h1, h2, _⟩
      · exact absurd h1 h0
      · have hj : j < sh.L.length := by have := (List.getElem?_eq_some_iff.1 h2).1; rw [h.wl.same] at this; exact this
        have hjk : k ≠ j := fun e => by
          subst e
          rw [hk] at h2; injection h2 with h2; omega
        have : (sh.moved n k b).L[S.dir m - 1]? = sh.L[S.dir m - 1]? := by
          show ((sh.L ++ [b]).set k [])[S.dir m - 1]? = _
          rw [h1, Nat.add_sub_cancel, List.getElem?_set_ne hjk, List.getElem?_append_left hj]
        rw [this]; rfl
  have hfull := h.wl.full
  refine ⟨⟨h.wl.ok, fun m x hx hd => ?_, fun d hd => ?_, ?_, h.wl.held, ?_, h.wl.page⟩, fun m hm => ?_, fun s hs' => ?_, h.few, h.sec, h.out⟩
  · have hx' : S.parts m = some x := hx
    have hcl := h.wl.clean m x hx' hd
    by_cases e : m = n
    · subst e; rw [hrn]; rw [hbb] at hcl; exact hcl
    · unfold readR at hcl ⊢
      rw [show (S.dirAt n (sh.L.length + 1)).dir m = S.dir m by simp [Sm.dirAt, e]]
      by_cases h0 : S.dir m = 0
      · rw [if_pos h0] at hcl ⊢; exact hcl
      · rw [if_neg h0] at hcl ⊢
        cases hL : sh.L[S.dir m - 1]? with
        | none => rw [hL] at hcl; cases hcl
        | some z =>
          rw [hL] at hcl
          have hj := (List.getElem?_eq_some_iff.1 hL).1
          by_cases ejk : S.dir m - 1 = k
          · exfalso
            have hmn := hpn m x hx'
            · rcases h.nw m hmn with ⟨h1, _⟩ | ⟨j, h1, h2, _⟩
              · exact absurd h1 h0
              · rw [h1, Nat.add_sub_cancel] at ejk
                subst ejk
                rw [hk] at h2; injection h2 with h2; omega
          · have : (sh.moved n k b).L[S.dir m - 1]? = some z := by
              show ((sh.L ++ [b]).set k [])[S.dir m - 1]? = _
              rw [List.getElem?_set_ne (fun e => ejk e.symm), List.getElem?_append_left hj, hL]
            rw [this]; exact hcl
  · have hd' : d ∈ (sh.L ++ [b]).set k [] := hd
    rcases List.mem_or_eq_of_mem_set hd' with h1 | h1
    · rcases List.mem_append.1 h1 with h2 | h2
      · exact h.wl.len d h2
      · rw [List.mem_singleton.1 h2, hok.1]; have := h.wl.page; omega
    · rw [h1]; simp
  · show (sh.N ++ [(n : Int)]).length = ((sh.L ++ [b]).set k []).length
    simp [h.wl.same]
  · show -1 ≤ (if 0 < sh.full then sh.full - 1 else sh.full) ∧ (if 0 < sh.full then sh.full - 1 else sh.full) ≤ 1048576
    split <;> omega
  · by_cases e : m = n
    · subst e
      rw [show (S.dirAt m (sh.L.length + 1)).dir m = sh.L.length + 1 by simp [Sm.dirAt]]
      exact NwAt.put_same (d := 0) h.wl.same
    · rw [show (S.dirAt n (sh.L.length + 1)).dir m = S.dir m by simp [Sm.dirAt, e]]
      exact (h.nw m hm).put_other e
  · have hs2 : s < S.sectors := hs'
    have hv := h.vals s hs2
    have hsn : s / S.each < S.np := by
      unfold Sm.np
      have := Nat.div_le_div_right (c := S.each) (show s ≤ S.sectors - 1 by omega)
      omega
    unfold val at hv ⊢
    rw [show (S.dirAt n (sh.L.length + 1)).each = S.each from rfl]
    have : told (S.dirAt n (sh.L.length + 1)) (sh.moved n k b) (s / S.each) = told S sh (s / S.each) := by
      by_cases e : s / S.each = n
      · rw [e]
        rw [told_clean h.wl hc n, hbb]
        unfold told
        cases hp : S.parts n with
        | none => rw [show (S.dirAt n (sh.L.length + 1)).parts n = none from hp]; exact hrn
        | some x =>
          rw [show (S.dirAt n (sh.L.length + 1)).parts n = some x from hp]
          have := h.wl.clean n x hp (hc n x hp)
          rw [hbb] at this; exact this.symm
      · unfold told
        rw [show (S.dirAt n (sh.L.length + 1)).parts = S.parts from rfl]
        cases hp : S.parts (s / S.each) with
        | some x => rfl
        | none => exact hro _ e hsn
    rw [this]; exact hv
end Go.Proofs.Ytfipmpajdkgffaa

namespace Go.Proofs.Ytfipmpajdkgffaa
open Go.RowKit Go.MapKept Go.ChangeMaps
attribute [local go_sem] Oper.semAt_some
attribute [local simp, local go_sem] wide_fn
set_option linter.unusedVariables false
set_option linter.unusedSimpArgs false

theorem place_fields : Try.prog.underlying 28 = some (.struct (Try.prog.fieldsOf 28)) := by
  unfold Program.fieldsOf; rw [Try.underlying28]
theorem run_eql_place (w : World) (a s a' s' : Int) : (binOp .eql 28 (.agg #[.int .i64 a, .int .i64 s]) (.agg #[.int .i64 a', .int .i64 s'])).run Try.prog w = .ok (.bool (decide (a = a' ∧ s = s'))) w := by
  have hf : (Try.prog.fieldsOf 28).toList.map (fun f => (f.name, f.type, f.offset)) = [("Block", 3, 0), ("Page", 3, 1)] := by
    unfold Program.fieldsOf; rw [Try.underlying28]; rfl
  rw [run_eql_struct, run_equalIn_struct w 9999 _ _ _ place_fields (by kernel_rfl)]
  generalize (Try.prog.fieldsOf 28).toList = fs at hf
  rw [List.map_eq_cons_iff] at hf
  obtain ⟨f0, l1, rfl, e0, hf⟩ := hf
  rw [List.map_eq_cons_iff] at hf
  obtain ⟨f1, l2, rfl, e1, hf⟩ := hf
  rw [List.map_eq_nil_iff] at hf
  subst hf
  simp only [Prod.mk.injEq] at e0 e1
  obtain ⟨n0, t0, o0⟩ := e0
  obtain ⟨n1, t1, o1⟩ := e1
  have pk : Try.prog.plainKey 3 = true := by kernel_rfl
  have p0 : ∀ x y : Int, (part 3 #[.int .i64 x, .int .i64 y] 0).run Try.prog w = .ok (.int .i64 x) w := fun x y => run_part_plain (P := Try.prog) w pk (by simp)
  have p1 : ∀ x y : Int, (part 3 #[.int .i64 x, .int .i64 y] 1).run Try.prog w = .ok (.int .i64 y) w := fun x y => run_part_plain (P := Try.prog) w pk (by simp)
  have e0 : ∀ x y : Int, (Op.equalIn 9999 3 (.int .i64 x) (.int .i64 y)).run Try.prog w = .ok (x == y) w := fun x y => run_equalIn_int (P := Try.prog) w 9998 _ _ _ x y Try.underlying3
  simp only [Op.eqFields, n0, t0, o0, n1, t1, o1]
  by_cases h0 : a = a'
  · by_cases h1 : s = s'
    · simp [p0, p1, e0, h0, h1, Result.andThen]
    · simp [p0, p1, e0, h0, h1, Result.andThen]
  · simp [p0, p1, e0, h0, Result.andThen]
theorem has_under : Try.prog.underlying 35 = some (.map 3 28) := Try.underlying35
theorem zero_place (w : World) : (zeroValue 28).run Try.prog w = .ok (numV 0) w := by kernel_rfl
/-- What the map must hold, in memory. -/
def HasIs (w : World) (Hb : Nat) (hs : Nat → Nat) : Prop :=
  (∃ n f, MapIs Try.prog 3 w Hb n f ∧ ∀ key v, f key = some v ↔ ∃ s : Nat, hs s ≠ 0 ∧ key = nk s ∧ v = numV (hs s)) ∧ ∀ s, hs s ≠ 0 → s < 4294967296
section
variable {w w' : World} {Hb : Nat} {hs : Nat → Nat} {T : List Nat}
theorem HasIs.lt (h : HasIs w Hb hs) : Hb < w.heap.size := by obtain ⟨⟨n, f, h, _⟩, _⟩ := h; exact h.lt
theorem HasIs.turns (h : HasIs w Hb hs) (ht : Turns w w' T) (hn : Hb ∉ T) : HasIs w' Hb hs := by
  obtain ⟨⟨n, f, h1, h2⟩, h3⟩ := h
  exact ⟨⟨n, f, h1.turns ht hn, h2⟩, h3⟩
theorem HasIs.fresh (w : World) : HasIs (w.alloc (.map #[] 0)) w.heap.size (fun _ => 0) := ⟨⟨0, _, MapIs.fresh _ _ w, by simp⟩, by simp⟩
theorem HasIs.look (h : HasIs w Hb hs) (s : Nat) (hs' : s < 4294967296) : (Instr.lookup 35 (.map (some Hb)) (.int .i64 s) true).run Try.prog w = .ok (.tuple #[numV (hs s), .bool (decide (hs s ≠ 0))]) w := by
  obtain ⟨⟨n, f, h1, h2⟩, h3⟩ := h
  rw [(h1.look intKeyed has_under (zero_place w) (int_key (n := s) (by omega))).2]
  by_cases h0 : hs s = 0
  · have : f (nk s) = none := by
      cases hf : f (nk s) with
      | none => rfl
      | some v =>
        obtain ⟨s', h4, h5, _⟩ := (h2 _ _).1 hf
        have := nk_inj h5
        subst this
        exact absurd h0 h4
    rw [this, h0]; rfl
  · rw [(h2 (nk s) (numV (hs s))).2 ⟨s, h0, rfl, rfl⟩]
    simp [h0]
theorem HasIs.set (h : HasIs w Hb hs) (s v : Nat) (hs' : s < 4294967296) (hv : v ≠ 0) : ∃ w', (Instr.mapUpdate 35 (.map (some Hb)) (.int .i64 s) (numV v)).run Try.prog w = .ok () w' ∧ HasIs w' Hb (updH hs s v) ∧ Turns w w' [Hb] := by
  obtain ⟨⟨n, f, h1, h2⟩, h3⟩ := h
  obtain ⟨w', hr, hm, hg⟩ := h1.update (val := numV v) intKeyed has_under (int_key (n := s) (by omega))
  refine ⟨w', hr, ⟨⟨_, _, hm, fun key u => ?_⟩, fun i hi => ?_⟩, Turns.of_grown hg⟩
  · by_cases he : key = nk s
    · subst he
      rw [updK_same]
      constructor
      · rintro h; injection h with h; exact ⟨s, by simp [updH]; exact hv, rfl, by simp [updH, ← h]⟩
      · rintro ⟨s', _, e, h⟩
        have := nk_inj e
        subst this
        rw [h]; simp [updH]
    · rw [updK_ne _ _ _ he, h2]
      constructor
      · rintro ⟨s', h4, rfl, h5⟩
        have : s' ≠ s := fun e => he (by rw [e])
        exact ⟨s', by simpa [updH, this] using h4, rfl, by simpa [updH, this] using h5⟩
      · rintro ⟨s', h4, rfl, h5⟩
        have : s' ≠ s := fun e => he (by rw [e])
        exact ⟨s', by simpa [updH, this] using h4, rfl, by simpa [updH, this] using h5⟩
  · by_cases e : i = s
    · rw [e]; exact hs'
    · exact h3 i (by simpa [updH, e] using hi)
theorem HasIs.clear (h : HasIs w Hb hs) (s : Nat) (hs' : s < 4294967296) : ∃ w', (∀ ty, (Builtin.delete_ #[35, 3] ty #[.map (some Hb), .int .i64 s]).run Try.prog w = .ok (.tuple #[]) w') ∧ HasIs w' Hb (updH hs s 0) ∧ Turns w w' [Hb] := by
  obtain ⟨⟨n, f, h1, h2⟩, h3⟩ := h
  obtain ⟨w', hr, hm, hg⟩ := h1.delete (ty := 0) intKeyed has_under (int_key (n := s) (by omega))
  refine ⟨w', fun ty => hr, ⟨⟨_, _, hm, fun key u => ?_⟩, fun i hi => ?_⟩, Turns.of_grown hg⟩
  · by_cases he : key = nk s
    · subst he
      rw [updK_same]
      constructor
      · intro h; cases h
      · rintro ⟨s', h4, e, h⟩
        have := nk_inj e
        subst this
        simp [updH] at h4
    · rw [updK_ne _ _ _ he, h2]
      constructor
      · rintro ⟨s', h4, rfl, h5⟩
        have : s' ≠ s := fun e => he (by rw [e])
        exact ⟨s', by simpa [updH, this] using h4, rfl, by simpa [updH, this] using h5⟩
      · rintro ⟨s', h4, rfl, h5⟩
        have : s' ≠ s := fun e => he (by rw [e])
        exact ⟨s', by simpa [updH, this] using h4, rfl, by simpa [updH, this] using h5⟩
  · by_cases e : i = s
    · rw [e]; exact hs'
    · exact h3 i (by simpa [updH, e] using hi)
end
/-- A law's World, all of it from block B on. -/
structure WdIs (w : World) (B Wb Mb Sb Hb : Nat) (T F : List Nat) (S : Sm) (sh : Sh) (hs : Nat → Nat) : Prop where
  row : Row w Wb 37 #[.int .i64 S.sectors, .int .i64 S.page, .int .i64 S.held, .pointer (some ⟨Sb, 0, none⟩), .pointer (some ⟨Mb, 0, none⟩), .map (some Hb)]
  sm : SmIs w Mb Sb T F S sh
  has : HasIs w Hb hs
  sepW : Wb ∉ T ∧ Wb ∉ F
  sepH : Hb ∉ T ∧ Hb ∉ F
  low : B ≤ Wb ∧ B ≤ Hb ∧ ∀ k ∈ T, B ≤ k
  pw : Pw S sh hs
section
variable {w w' : World} {B Wb Mb Sb Hb : Nat} {T F T2 : List Nat} {S S' : Sm} {sh sh' : Sh} {hs : Nat → Nat}
theorem WdIs.ne (h : WdIs w B Wb Mb Sb Hb T F S sh hs) : Wb ≠ Hb := fun e => by
  obtain ⟨⟨n, f, ⟨es, clock, hb, _⟩, _⟩, _⟩ := h.has
  have hr := h.row
  unfold Row at hr
  rw [e, hb] at hr; cases hr
theorem WdIs.B_le (h : WdIs w B Wb Mb Sb Hb T F S sh hs) : B ≤ w.heap.size := Nat.le_trans h.low.1 (Nat.le_of_lt h.row.lt)
theorem WdIs.keep (h : WdIs w B Wb Mb Sb Hb T F S sh hs) (ht : Turns w w' T2) (hT : ∀ k ∈ T2, (k ∉ T ∧ k ∉ F) ∧ k ≠ Wb ∧ k ≠ Hb) : WdIs w' B Wb Mb Sb Hb T F S sh hs :=
  ⟨ht.row h.row (fun hk => (hT _ hk).2.1 rfl), h.sm.keep ht (fun k hk => (hT k hk).1), h.has.turns ht (fun hk => (hT _ hk).2.2 rfl), h.sepW, h.sepH, h.low, h.pw⟩
theorem WdIs.below (h : WdIs w B Wb Mb Sb Hb T F S sh hs) (hb : Below w.heap.size w w') : WdIs w' B Wb Mb Sb Hb T F S sh hs := h.keep (Turns.of_below hb []) (by simp)
end
/-- A World whose map has gone on. -/
def WdM (w w' : World) (B Wb Mb Sb Hb : Nat) (T F : List Nat) (k c : Nat) (S : Sm) (sh : Sh) (hs : Nat → Nat) : Prop :=
  ∃ T' F' S' sh', WdIs w' B Wb Mb Sb Hb T' F' S' sh' hs ∧ Turns w w' T ∧ (∀ q ∈ T', q ∈ T ∨ w.heap.size ≤ q) ∧ (∀ q ∈ F', q ∈ F ∨ w.heap.size ≤ q) ∧ (S'.sectors = S.sectors ∧ S'.page = S.page ∧ S'.held = S.held) ∧ sh'.full = sh.full ∧ sh'.L.length ≤ sh.L.length + k ∧ S'.cnt ≤ S.cnt + c
/-- A World that has gone on. -/
def WdTo (w w' : World) (B Wb Sb Hb k c : Nat) (S : Sm) (sh : Sh) : Prop :=
  ∃ Mb T F S' sh' hs, WdIs w' B Wb Mb Sb Hb T F S' sh' hs ∧ Below B w w' ∧ (S'.sectors = S.sectors ∧ S'.page = S.page ∧ S'.held = S.held) ∧ sh'.full = sh.full ∧ sh'.L.length ≤ sh.L.length + k ∧ S'.cnt ≤ S.cnt + c
section
variable {w w' w2 : World} {B Wb Mb Sb Hb k c : Nat} {T F T2 : List Nat} {S S' : Sm} {sh sh' : Sh} {hs : Nat → Nat}
/-- The map has gone on. -/
theorem WdIs.to (h : WdIs w B Wb Mb Sb Hb T F S sh hs) (hto : SmTo w w' Mb Sb T F S' sh') (h1 : S'.sectors = S.sectors) (h2 : S'.page = S.page) (h3 : S'.held = S.held) (hp : Pw S' sh' hs) : ∃ T' F', WdIs w' B Wb Mb Sb Hb T' F' S' sh' hs ∧ Turns w w' T ∧ (∀ q ∈ T', q ∈ T ∨ w.heap.size ≤ q) ∧ (∀ q ∈ F', q ∈ F ∨ w.heap.size ≤ q) := by
  obtain ⟨T', F', g1, g2, g3, g4⟩ := hto
  have hW := h.row.lt
  have hH := h.has.lt
  exact ⟨T', F', ⟨by rw [h1, h2, h3]; exact g2.row h.row h.sepW.1, g1, h.has.turns g2 h.sepH.1, ⟨fun hk => (g3 _ hk).elim h.sepW.1 (fun h => by omega), fun hk => (g4 _ hk).elim h.sepW.2 (fun h => by omega)⟩, ⟨fun hk => (g3 _ hk).elim h.sepH.1 (fun h => by omega), fun hk => (g4 _ hk).elim h.sepH.2 (fun h => by omega)⟩, ⟨h.low.1, h.low.2.1, fun k hk => (g3 k hk).elim (h.low.2.2 k) (fun h5 => Nat.le_trans h.B_le h5)⟩, hp⟩, g2, g3, g4⟩
theorem WdM.below (h : WdM w w' B Wb Mb Sb Hb T F k c S sh hs) (hb : Below w'.heap.size w' w2) : WdM w w2 B Wb Mb Sb Hb T F k c S sh hs := by
  obtain ⟨T', F', S', sh', h1, h2, h3⟩ := h
  exact ⟨T', F', S', sh', h1.below hb, h2.then_below hb, h3⟩
theorem WdIs.goes (h : WdIs w B Wb Mb Sb Hb T F S sh hs) (hf : sh.full = -1) (hg : GoTo w w' Mb Sb T F k c S sh) : WdM w w' B Wb Mb Sb Hb T F k c S sh hs := by
  obtain ⟨S', sh', h1, h2⟩ := hg
  obtain ⟨T', F', h3, h4, h5, h6⟩ := h.to h1 h2.sectors h2.page h2.held (h.pw.goes h2)
  exact ⟨T', F', S', sh', h3, h4, h5, h6, ⟨h2.sectors, h2.page, h2.held⟩, by have := h2.full; omega, h2.puts.2, h2.cnt⟩
theorem WdM.refl (h : WdIs w B Wb Mb Sb Hb T F S sh hs) : WdM w w B Wb Mb Sb Hb T F k c S sh hs := ⟨T, F, S, sh, h, Turns.refl _ _, fun _ h => .inl h, fun _ h => .inl h, ⟨rfl, rfl, rfl⟩, rfl, by omega, by omega⟩
theorem WdM.wdTo (hi : WdIs w B Wb Mb Sb Hb T F S sh hs) (h : WdM w w' B Wb Mb Sb Hb T F k c S sh hs) : WdTo w w' B Wb Sb Hb k c S sh := by
  obtain ⟨T', F', S', sh', h1, h2, h3, h4, h5⟩ := h
  exact ⟨Mb, T', F', S', sh', hs, h1, h2.below (Below.refl _ _) hi.B_le hi.low.2.2, h5⟩
end
set_option maxRecDepth 100000 in
set_option maxHeartbeats 2000000 in
theorem get_in (w : World) (B Wb Mb Sb Hb : Nat) (T F : List Nat) (S : Sm) (sh : Sh) (hs : Nat → Nat) (h : WdIs w B Wb Mb Sb Hb T F S sh hs) (hf : sh.full = -1) (hl : sh.L.length ≤ 262143) (s : Nat) (hss : s < S.sectors) :
    Calls Try.prog 20 #[.pointer (some ⟨Wb, 0, none⟩), .int .i64 s] w fun e w' => e = .returned (.bool true) ∧ WdM w w' B Wb Mb Sb Hb T F 1 1 S sh hs := by
  have HG := Lib.hid (Get_any w Mb Sb T F S sh h.sm s hss hl h.pw.wl)
  have c0 := h.row.cell 0
  have c4 := h.row.cell 4
  have c5 := h.row.cell 5
  simp only [List.getElem?_toArray, List.getElem?_cons_zero, List.getElem?_cons_succ] at c0 c4 c5
  have hsec := h.sm.few
  have HH := Lib.hid h
  have HFl := Lib.hid hf
  have HV := Lib.hid (h.pw.vals s hss)
  have HFw := Lib.hid (h.pw.few s)
  have heq := run_eql_place
  obtain ⟨st, hst⟩ : ∃ st, st = S.sectors := ⟨_, rfl⟩
  have HSt := Lib.hid hst
  rw [← hst] at c0 hss hsec
  clear h hf hl hst
  go_enter Try.func20, Try.ntmps20
  go_wp2_with fail
  refine HG.out.mono ?_
  rintro e w2 (⟨v, hv, rfl, hg⟩ | ⟨c, rfl, hc, hg⟩)
  · have HTo := Lib.hid (HH.out.goes HFl.out hg)
    have hve : v = hs s := by
      have := HV.out
      rw [this] at hv; injection hv with hv; exact hv.symm
    obtain ⟨a, b, hab⟩ : ∃ a b : Int, numV v = .agg #[.int .i64 a, .int .i64 b] := ⟨_, _, rfl⟩
    rw [hab]
    have HVe := Lib.hid hve
    have HAb := Lib.hid hab
    clear hv hg hve hab
    obtain ⟨u1, hu1⟩ : ∃ u1, u1 = w2.alloc (.cells #[.int .i64 a, .int .i64 b] 28) := ⟨_, rfl⟩
    have HB1 : Hid (Below w2.heap.size w2 u1) := by unfold Hid; rw [hu1]; (repeat (first | (with_reducible refine Below.drew ?_) | (with_reducible refine below_drewN0 ?_ _) | ((with_reducible refine Below.setCell ?_ ?_ _); rotate_left; focus (first | omega | (simp; done) | (simp; omega) | (simp at *; omega))) | ((with_reducible refine Below.alloc ?_ ?_ _); rotate_left; focus (first | omega | (simp; done) | (simp; omega) | (simp at *; omega))) | (with_reducible exact Below.refl _ _)))
    have HTo1 := Lib.hid (HTo.out.below HB1.out)
    obtain ⟨T', F', S', sh', hd, _, _, _, ⟨hs1, _⟩, _⟩ := HTo1.out
    have d0 := hd.row.cell 0
    have d5 := hd.row.cell 5
    simp only [List.getElem?_toArray, List.getElem?_cons_zero, List.getElem?_cons_succ] at d0 d5
    rw [show S'.sectors = st from hs1.trans HSt.out.symm] at d0
    have hlk := hd.has.look s (by omega)
    rw [← HVe.out, HAb.out] at hlk
    rw [hu1] at d0 d5 hlk
    have HB2 : Hid (Below w2.heap.size w2 (u1.alloc (.cells #[.int .i64 a, .int .i64 b] 28))) := by unfold Hid; rw [hu1]; (repeat (first | (with_reducible refine Below.drew ?_) | (with_reducible refine below_drewN0 ?_ _) | ((with_reducible refine Below.setCell ?_ ?_ _); rotate_left; focus (first | omega | (simp; done) | (simp; omega) | (simp at *; omega))) | ((with_reducible refine Below.alloc ?_ ?_ _); rotate_left; focus (first | omega | (simp; done) | (simp; omega) | (simp at *; omega))) | (with_reducible exact Below.refl _ _)))
    rw [hu1] at HB2
    clear hd hs1 hu1 c0 c4 c5
    go_wp2
    go_ret
    refine ⟨by simp, HTo.out.below HB2.out⟩
  · exfalso
    rcases hc with ⟨_, h1⟩ | ⟨_, h1⟩
    · rw [HV.out] at h1; cases h1
    · have := HFl.out; omega
set_option maxRecDepth 100000 in
set_option maxHeartbeats 2000000 in
theorem get_out (w : World) (B Wb Mb Sb Hb : Nat) (T F : List Nat) (S : Sm) (sh : Sh) (hs : Nat → Nat) (h : WdIs w B Wb Mb Sb Hb T F S sh hs) (hf : sh.full = -1) (s : Int) (hss : s < 0 ∨ (S.sectors : Int) ≤ s) :
    Calls Try.prog 20 #[.pointer (some ⟨Wb, 0, none⟩), .int .i64 s] w fun e w' => e = .returned (.bool true) ∧ WdM w w' B Wb Mb Sb Hb T F 1 1 S sh hs := by
  have HG := Lib.hid (Get_out w Mb Sb T F S sh h.sm s hss)
  have c0 := h.row.cell 0
  have c4 := h.row.cell 4
  simp only [List.getElem?_toArray, List.getElem?_cons_zero, List.getElem?_cons_succ] at c0 c4
  have hsec := h.sm.few
  have HTo0 : Hid (WdM w w B Wb Mb Sb Hb T F 1 1 S sh hs) := WdM.refl h
  have heq := run_eql_place
  have HH := Lib.hid h
  obtain ⟨st, hst⟩ : ∃ st, st = S.sectors := ⟨_, rfl⟩
  have HSt := Lib.hid hst
  rw [← hst] at c0 hss hsec
  clear h hf hst
  by_cases h0 : s < 0
  · clear hss
    go_enter Try.func20, Try.ntmps20
    go_wp2_with fail
    refine HG.out.mono ?_
    rintro e w2 ⟨rfl, hb⟩
    have HTo := Lib.hid (HTo0.out.below hb)
    clear hb c4 c0 HG
    rw [show numV 0 = .agg #[.int .i64 0, .int .i64 0] from rfl]
    have HB1 : Hid (Below w2.heap.size w2 (w2.alloc (.cells #[.int .i64 0, .int .i64 0] 28))) := by unfold Hid; (repeat (first | (with_reducible refine Below.drew ?_) | (with_reducible refine below_drewN0 ?_ _) | ((with_reducible refine Below.setCell ?_ ?_ _); rotate_left; focus (first | omega | (simp; done) | (simp; omega) | (simp at *; omega))) | ((with_reducible refine Below.alloc ?_ ?_ _); rotate_left; focus (first | omega | (simp; done) | (simp; omega) | (simp at *; omega))) | (with_reducible exact Below.refl _ _)))
    go_wp2
    go_ret
    refine ⟨by simp, HTo.out.below HB1.out⟩
  · have h1 : (st : Int) ≤ s := by omega
    clear hss
    go_enter Try.func20, Try.ntmps20
    go_wp2_with fail
    refine HG.out.mono ?_
    rintro e w2 ⟨rfl, hb⟩
    have HTo := Lib.hid (HTo0.out.below hb)
    rw [show numV 0 = .agg #[.int .i64 0, .int .i64 0] from rfl]
    have HB1 : Hid (Below w2.heap.size w2 (w2.alloc (.cells #[.int .i64 0, .int .i64 0] 28))) := by unfold Hid; (repeat (first | (with_reducible refine Below.drew ?_) | (with_reducible refine below_drewN0 ?_ _) | ((with_reducible refine Below.setCell ?_ ?_ _); rotate_left; focus (first | omega | (simp; done) | (simp; omega) | (simp at *; omega))) | ((with_reducible refine Below.alloc ?_ ?_ _); rotate_left; focus (first | omega | (simp; done) | (simp; omega) | (simp at *; omega))) | (with_reducible exact Below.refl _ _)))
    have d0 := keep_below HB1.out _ _ (keep_below hb _ _ c0)
    clear hb c4 c0 HG
    go_wp2
    go_ret
    refine ⟨by simp, HTo.out.below HB1.out⟩
theorem get_any' (w : World) (B Wb Mb Sb Hb : Nat) (T F : List Nat) (S : Sm) (sh : Sh) (hs : Nat → Nat) (h : WdIs w B Wb Mb Sb Hb T F S sh hs) (hf : sh.full = -1) (hl : sh.L.length ≤ 262143) (s : Int) :
    Calls Try.prog 20 #[.pointer (some ⟨Wb, 0, none⟩), .int .i64 s] w fun e w' => e = .returned (.bool true) ∧ WdM w w' B Wb Mb Sb Hb T F 1 1 S sh hs := by
  by_cases h1 : 0 ≤ s ∧ s < S.sectors
  · obtain ⟨k, rfl⟩ : ∃ k : Nat, s = k := ⟨s.toNat, by omega⟩
    exact get_in w B Wb Mb Sb Hb T F S sh hs h hf hl k (by omega)
  · exact get_out w B Wb Mb Sb Hb T F S sh hs h hf s (by omega)
end Go.Proofs.Ytfipmpajdkgffaa
