/- What follows is laid together from several texts of mine, in their order. -/
import Derived.Test.YtlidbkofjchnnaaDoorQ19

namespace Go.Proofs.YtlidbkofjchnnaaDoor
open Go.RowKit
set_option linter.unusedVariables false
set_option linter.unusedSimpArgs false

section
variable {w0 w : World} {W M Q F L n : Nat} {P g : Nat → Nat} {v : Nat → Value} {S : Fl} {bad : Nat → Bool} {md : Int} {m : Pm}
set_option maxRecDepth 100000 in
set_option maxHeartbeats 1000000 in
theorem read_out (h : PSt w0 w W M Q F L P g v S n bad md m) {I : Nat → Array Value → Prop} (hI : ∀ x cs, I x cs → Row w x 3 cs) (ha : Agr S bad n m) (k p : Int) (hk : (k < 0 ∨ S.nb ≤ k)) : Calls Tryd.prog 25 #[.pointer (some ⟨W, 0, none⟩), .int .i64 k, .int .i64 p] w fun e w' => e = .returned (.bool true) ∧ PRd w0 W M Q F L P g v S n bad m I w' := by
  have HR := Lib.hid (h.read_out hI k p hk)
  have c1 := h.mem.cells.2.1
  have HO : Hid (∀ {w1 : World} {md1 : Int}, PSt w0 w1 W M Q F L P g v S n bad md1 m → Calls Tryd.prog 45 #[.pointer (some ⟨W, 0, none⟩), .int .i64 k] w1 fun e w' => e = .returned (.bool false) ∧ w1 = w') := fun h1 => h1.is_out hk 0
  clear h ha hk
  go_enter Tryd.func25, Tryd.ntmps25
  go_wp2_with fail
  refine HR.out.mono ?_
  rintro e w1 ⟨rfl, hp⟩
  have HP := Lib.hid hp
  obtain ⟨⟨md1, h1⟩, _⟩ := hp
  have HIs := Lib.hid (HO.out h1)
  clear HR h1 HO c1
  go_wp2_with fail
  refine HIs.out.mono ?_
  rintro e w2 ⟨rfl, rfl⟩
  clear HIs
  go_wp2
  go_ret
  exact ⟨rfl, HP.out⟩
set_option maxRecDepth 100000 in
set_option maxHeartbeats 1000000 in
theorem read_page (h : PSt w0 w W M Q F L P g v S n bad md m) {I : Nat → Array Value → Prop} (hI : ∀ x cs, I x cs → Row w x 3 cs) (ha : Agr S bad n m) (k : Nat) (p : Int) (hk : k < S.nb) (hp : ¬ (0 ≤ p ∧ p < S.has k)) : Calls Tryd.prog 25 #[.pointer (some ⟨W, 0, none⟩), .int .i64 k, .int .i64 p] w fun e w' => e = .returned (.bool true) ∧ PRd w0 W M Q F L P g v S n bad m I w' := by
  have HR := Lib.hid (h.read_page hI k p hk hp)
  have c1 := h.mem.cells.2.1
  have HO : Hid (∀ {w1 : World} {md1 : Int}, PSt w0 w1 W M Q F L P g v S n bad md1 m → Calls Tryd.prog 45 #[.pointer (some ⟨W, 0, none⟩), .int .i64 k] w1 fun e w' => e = .returned (.bool true) ∧ w1 = w') := fun h1 => h1.is_in hk 0
  have HH : Hid (∀ {w1 : World} {md1 : Int}, PSt w0 w1 W M Q F L P g v S n bad md1 m → Calls Tryd.prog 24 #[.pointer (some ⟨W, 0, none⟩), .int .i64 k] w1 fun e w' => e = .returned (.int .i64 (S.has k : Nat)) ∧ w1 = w') := fun h1 => h1.has_in ha hk 0
  by_cases h0 : p < 0
  · clear h ha hk hp HH
    go_enter Tryd.func25, Tryd.ntmps25
    go_wp2_with fail
    refine HR.out.mono ?_
    rintro e w1 ⟨rfl, hp⟩
    have HP := Lib.hid hp
    obtain ⟨⟨md1, h1⟩, _⟩ := hp
    have HIs := Lib.hid (HO.out h1)
    clear HR h1 HO c1
    go_wp2_with fail
    refine HIs.out.mono ?_
    rintro e w2 ⟨rfl, rfl⟩
    clear HIs
    go_wp2
    go_ret
    exact ⟨rfl, HP.out⟩
  · have hge : (p : Int) ≥ (S.has k : Nat) := by omega
    generalize S.has k = hs at *
    clear h ha hk hp
    go_enter Tryd.func25, Tryd.ntmps25
    go_wp2_with fail
    refine HR.out.mono ?_
    rintro e w1 ⟨rfl, hp⟩
    have HP := Lib.hid hp
    obtain ⟨⟨md1, h1⟩, _⟩ := hp
    have HIs := Lib.hid (HO.out h1)
    have HHs := Lib.hid (HH.out h1)
    clear HR h1 HO c1 HH
    go_wp2_with fail
    refine HIs.out.mono ?_
    rintro e w2 ⟨rfl, rfl⟩
    clear HIs
    go_wp2_with fail
    refine HHs.out.mono ?_
    rintro e w2 ⟨rfl, rfl⟩
    clear HHs
    go_wp2
    go_ret
    exact ⟨rfl, HP.out⟩
set_option maxRecDepth 100000 in
set_option maxHeartbeats 1000000 in
theorem read_blank (h : PSt w0 w W M Q F L P g v S n bad md m) {I : Nat → Array Value → Prop} (hI : ∀ x cs, I x cs → Row w x 3 cs) (ha : Agr S bad n m) (k p : Nat) (hk : k < S.nb) (hp : p < S.has k) (ho : S.off = false) (hn : m.half k = true ∨ (m.b k)[p]? = some none ∨ (m.b k)[p]? = none) : Calls Tryd.prog 25 #[.pointer (some ⟨W, 0, none⟩), .int .i64 k, .int .i64 p] w fun e w' => e = .returned (.bool true) ∧ PRd w0 W M Q F L P g v S n bad m I w' := by
  have hR0 := h.read_none hI ha k p hk hp ho hn
  have HR := Lib.hid hR0
  have c1 := h.mem.cells.2.1
  have HO : Hid (∀ {w1 : World} {md1 : Int}, PSt w0 w1 W M Q F L P g v S n bad md1 m → Calls Tryd.prog 45 #[.pointer (some ⟨W, 0, none⟩), .int .i64 k] w1 fun e w' => e = .returned (.bool true) ∧ w1 = w') := fun h1 => h1.is_in hk 0
  have HH : Hid (∀ {w1 : World} {md1 : Int}, PSt w0 w1 W M Q F L P g v S n bad md1 m → Calls Tryd.prog 24 #[.pointer (some ⟨W, 0, none⟩), .int .i64 k] w1 fun e w' => e = .returned (.int .i64 (S.has k : Nat)) ∧ w1 = w') := fun h1 => h1.has_in ha hk 0
  have hge : ¬ (p : Int) ≥ (S.has k : Nat) := by omega
  have hki : (k : Int) < S.nb := by omega
  have q22 : ∀ (w : World) (a : Option Addr) (n c n' c' : Nat), (binOp .eql 46 (.slice a n c) (.slice none n' c')).run Tryd.prog w = .ok (.bool a.isNone) w := fun w a n c n' c' => Lib.run_eql_slice_nil w _ _ a n c n' c' Tryd.underlying46
  have H5 : Hid (∀ {w1 : World} {md1 : Int}, PSt w0 w1 W M Q F L P g v S n bad md1 m → w1.cell? ⟨W, 6, none⟩ = some (.slice (some ⟨g 9, 0, none⟩) S.nb S.nb) ∧ w1.cell? ⟨g 9, k, none⟩ = some (.bool (m.half k)) ∧ w1.cell? ⟨W, 4, none⟩ = some (.slice (some ⟨g 5, 0, none⟩) S.nb S.nb) ∧ w1.cell? ⟨g 5, k, none⟩ = some (v k)) := fun h1 =>
    ⟨h1.mem.cells.2.2.2.2.2.1, (h1.mem.at_k hk).2.1, h1.mem.cells.2.2.2.2.1, (h1.mem.at_k hk).1⟩
  have HPg : Hid (∀ {w1 : World} {md1 : Int}, PSt w0 w1 W M Q F L P g v S n bad md1 m → ∃ A c, v k = .slice A (m.b k).length c ∧ ((m.b k)[p]? = some none → ∃ G, A = some ⟨G, 0, none⟩ ∧ w1.cell? ⟨G, p, none⟩ = some (.slice none 0 0))) := fun h1 => by
    obtain ⟨A, c, e⟩ := (h1.mem.pgs k hk).shape
    refine ⟨A, c, e, fun hx => ?_⟩
    obtain ⟨G, c', e2, hcell, _⟩ := h1.page hk hx
    rw [e] at e2
    injection e2 with e2
    exact ⟨G, e2, hcell rfl⟩
  clear hR0 h hk hp ho ha
  generalize S.has k = hs at *
  generalize S.nb = nb at *
  generalize hbl : m.b k = bl at *
  have HN := Lib.hid hn
  clear hn hbl
  generalize m.half k = hf at *
  generalize v k = u at *
  go_enter Tryd.func25, Tryd.ntmps25
  go_wp2_with fail
  refine HR.out.mono ?_
  rintro e w1 ⟨rfl, hp⟩
  have HP := Lib.hid hp
  obtain ⟨⟨md1, h1⟩, _⟩ := hp
  have HIs := Lib.hid (HO.out h1)
  obtain ⟨c6, ck9, c4, ck5⟩ := H5.out h1
  obtain ⟨A, c, rfl, hpg⟩ := HPg.out h1
  have HG := Lib.hid hpg
  clear H5 HPg hpg
  have HHs := Lib.hid (HH.out h1)
  clear HR HO c1 HH
  go_wp2_with fail
  refine HIs.out.mono ?_
  rintro e w2 ⟨rfl, rfl⟩
  clear HIs
  go_wp2_with fail
  refine HHs.out.mono ?_
  rintro e w2 ⟨rfl, rfl⟩
  clear HHs
  clear h1
  cases hf with
  | true =>
    clear HG HN
    generalize bl.length = ln at *
    go_wp2
    go_ret
    exact ⟨rfl, HP.out⟩
  | false =>
    by_cases hlt : p < bl.length
    · have hx : bl[p]? = some none := by
        rcases HN.out with h | h | h
        · cases h
        · exact h
        · rw [List.getElem?_eq_getElem hlt] at h; cases h
      obtain ⟨G, rfl, cG⟩ := HG.out hx
      generalize bl.length = ln at *
      have hlt2 : ¬ (p : Int) ≥ ln := by omega
      clear HG HN hx
      go_wp2
      go_ret
      exact ⟨rfl, HP.out⟩
    · generalize bl.length = ln at *
      have hlt2 : (p : Int) ≥ ln := by omega
      clear HG HN
      go_wp2
      go_ret
      exact ⟨rfl, HP.out⟩
set_option maxRecDepth 100000 in
set_option maxHeartbeats 1000000 in
theorem read_some (h : PSt w0 w W M Q F L P g v S n bad md m) {I : Nat → Array Value → Prop} (hI : ∀ x cs, I x cs → Row w x 3 cs) (ha : Agr S bad n m) (k p : Nat) (hk : k < S.nb) (hp : p < S.has k) (ho : S.off = false) (hh : m.half k = false) {d : List Nat} (hd : (m.b k)[p]? = some (some d)) : Calls Tryd.prog 25 #[.pointer (some ⟨W, 0, none⟩), .int .i64 k, .int .i64 p] w fun e w' => e = .returned (.bool true) ∧ PRd w0 W M Q F L P g v S n bad m I w' := by
  have hR0 := h.read_some hI ha k p hk hp ho hh hd
  have HR := Lib.hid hR0
  have c1 := h.mem.cells.2.1
  have HO : Hid (∀ {w1 : World} {md1 : Int}, PSt w0 w1 W M Q F L P g v S n bad md1 m → Calls Tryd.prog 45 #[.pointer (some ⟨W, 0, none⟩), .int .i64 k] w1 fun e w' => e = .returned (.bool true) ∧ w1 = w') := fun h1 => h1.is_in hk 0
  have HH : Hid (∀ {w1 : World} {md1 : Int}, PSt w0 w1 W M Q F L P g v S n bad md1 m → Calls Tryd.prog 24 #[.pointer (some ⟨W, 0, none⟩), .int .i64 k] w1 fun e w' => e = .returned (.int .i64 (S.has k : Nat)) ∧ w1 = w') := fun h1 => h1.has_in ha hk 0
  have hge : ¬ (p : Int) ≥ (S.has k : Nat) := by omega
  have hki : (k : Int) < S.nb := by omega
  have q22 : ∀ (w : World) (a : Option Addr) (n c n' c' : Nat), (binOp .eql 46 (.slice a n c) (.slice none n' c')).run Tryd.prog w = .ok (.bool a.isNone) w := fun w a n c n' c' => Lib.run_eql_slice_nil w _ _ a n c n' c' Tryd.underlying46
  have H5 : Hid (∀ {w1 : World} {md1 : Int}, PSt w0 w1 W M Q F L P g v S n bad md1 m → w1.cell? ⟨W, 6, none⟩ = some (.slice (some ⟨g 9, 0, none⟩) S.nb S.nb) ∧ w1.cell? ⟨g 9, k, none⟩ = some (.bool false) ∧ w1.cell? ⟨W, 4, none⟩ = some (.slice (some ⟨g 5, 0, none⟩) S.nb S.nb) ∧ w1.cell? ⟨g 5, k, none⟩ = some (v k)) := fun h1 =>
    ⟨h1.mem.cells.2.2.2.2.2.1, hh ▸ (h1.mem.at_k hk).2.1, h1.mem.cells.2.2.2.2.1, (h1.mem.at_k hk).1⟩
  have hlt : p < (m.b k).length := (List.getElem?_eq_some_iff.1 hd).1
  have HPg : Hid (∀ {w1 : World} {md1 : Int}, PSt w0 w1 W M Q F L P g v S n bad md1 m → ∃ G c A0 O0 c0, v k = .slice (some ⟨G, 0, none⟩) (m.b k).length c ∧ PgAt w1 G p A0 O0 d.length c0 (textOf d)) := fun h1 => by
    obtain ⟨G, c', e2, _, hs⟩ := h1.page hk hd
    obtain ⟨A0, O0, c0, hA⟩ := hs d rfl
    exact ⟨G, c', A0, O0, c0, e2, hA⟩
  clear hR0 h hk hp ho ha hh hd
  generalize S.has k = hs at *
  generalize S.nb = nb at *
  generalize (m.b k).length = ln at *
  generalize v k = u at *
  generalize textOf d = tx at *
  generalize d.length = dl at *
  have hlt2 : ¬ (p : Int) ≥ ln := by omega
  have hlt3 : (p : Int) < ln := by omega
  go_enter Tryd.func25, Tryd.ntmps25
  go_wp2_with fail
  refine HR.out.mono ?_
  rintro e w1 ⟨A, q, rfl, hp, hcv⟩
  have HP := Lib.hid hp
  obtain ⟨⟨md1, h1⟩, _⟩ := hp
  have HIs := Lib.hid (HO.out h1)
  obtain ⟨c6, ck9, c4, ck5⟩ := H5.out h1
  obtain ⟨G, c, A0, O0, c0, rfl, hpg⟩ := HPg.out h1
  have cG := hpg.cell
  have hcv2 := hpg.conv
  clear H5 HPg hpg
  have HHs := Lib.hid (HH.out h1)
  clear HR HO c1 HH
  go_wp2_with fail
  refine HIs.out.mono ?_
  rintro e w2 ⟨rfl, rfl⟩
  clear HIs
  go_wp2_with fail
  refine HHs.out.mono ?_
  rintro e w2 ⟨rfl, rfl⟩
  clear HHs
  clear h1
  go_wp2
  go_quiet (fail)
  go_wp2
  go_ret
  obtain ⟨⟨md1, h1⟩, h2⟩ := HP.out
  exact ⟨rfl, ⟨md1, h1.drewN _⟩, h2⟩
end
end Go.Proofs.YtlidbkofjchnnaaDoor

namespace Go.Proofs.YtlidbkofjchnnaaDoor
open Go.RowKit Go.MapKept Go.ChangeMaps
set_option linter.unusedVariables false
set_option linter.unusedSimpArgs false

theorem spotV_inj {k p s k' p' s' : Nat} (h : spotV k p s = spotV k' p' s') : k = k' ∧ p = p' ∧ s = s' := by
  have := sv_inj h
  omega
/-- A sweep of the map of words: of those of block k some may be gone, those told are gone; the others are there. -/
structure TSw (tn : Nat → Nat → Nat → Bool) (k : Nat) (f : Value → Option Value) : Prop where
  src : ∀ key v, f key = some v → ∃ i p s : Nat, key = spotV i p s ∧ v = .bool true ∧ tn i p s = true ∧ i < 1024 ∧ p < 1024 ∧ s < 1024
  there : ∀ i p s : Nat, i ≠ k → tn i p s = true → f (spotV i p s) = some (.bool true)
def notK (k : Nat) (y : Value) : Prop := ∃ i p s : Nat, y = spotV i p s ∧ i ≠ k
theorem TSw.drop {tn : Nat → Nat → Nat → Bool} {k : Nat} {f : Value → Option Value} (h : TSw tn k f) {p s : Nat} : TSw tn k (updK f (spotV k p s) none) := by
  refine ⟨fun key v hv => ?_, fun i p' s' hi ht => ?_⟩
  · by_cases e : key = spotV k p s
    · subst e; rw [updK_same] at hv; cases hv
    · rw [updK_ne _ _ _ e] at hv; exact h.src key v hv
  · rw [updK_ne _ _ _ (fun e => hi (spotV_inj e).1)]
    exact h.there i p' s' hi ht
section
variable {w0 w : World} {W M Q F L n : Nat} {P g : Nat → Nat} {v : Nat → Value} {S : Fl} {bad : Nat → Bool} {md : Int} {m : Pm}
/-- Its map, swept of a block. -/
theorem PSt.sweep (h : PSt w0 w W M Q F L P g v S n bad md m) (k : Nat) : ∃ c f, MapIs Tryd.prog 101 w (g 16) c f ∧ TSw m.tn k f := by
  obtain ⟨c, f, h1, h2, h3⟩ := h.mem.tn
  exact ⟨c, f, h1, h2, fun i p s _ ht => h3 i p s ht⟩
theorem PSt.swept (h : PSt w0 w W M Q F L P g v S n bad md m) {k r cnt : Nat} {f : Value → Option Value} {w' : World} (ht : Turns w w' [g 16]) (hs : SweepIs Tryd.prog 101 w' (g 16) r f (notK k) cnt) (ht2 : TSw m.tn k f) (hall : ∀ key v, f key = some v → notK k key) :
    PSt w0 w' W M Q F L P g v S n bad md { m with tn := fun i p s => if i = k then false else m.tn i p s } := by
  obtain ⟨c, hm⟩ := hs.isMap
  refine h.put_tn ht ⟨c, f, hm, fun key v hv => ?_, fun i p s hi => ?_⟩
  · obtain ⟨i, p, s, rfl, rfl, htn, hb⟩ := ht2.src key v hv
    obtain ⟨i', p', s', e, hne⟩ := hall _ _ hv
    obtain ⟨rfl, rfl, rfl⟩ := spotV_inj e
    exact ⟨i, p, s, rfl, rfl, by show (if i = k then false else m.tn i p s) = true; rw [if_neg hne]; exact htn, hb⟩
  · have hi : (if i = k then false else m.tn i p s) = true := hi
    by_cases e : i = k
    · rw [if_pos e] at hi; cases hi
    · rw [if_neg e] at hi; exact ht2.there i p s e hi
structure Swp (W0 wr : World) (G r k : Nat) (tn : Nat → Nat → Nat → Bool) : Prop where
  ex : ∃ f cnt, SweepIs Tryd.prog 101 wr G r f (notK k) cnt ∧ TSw tn k f ∧ Turns W0 wr [G]
theorem PgsIs.nil (w0 w : World) : PgsIs w0 w (.slice none 0 0) [] := ⟨[], World.ownsRow_nil _ _ _ _, fun p x hx => by simp at hx⟩
set_option maxRecDepth 100000 in
set_option maxHeartbeats 2000000 in
theorem clear_any (h : PSt w0 w W M Q F L P g v S n bad md m) (k : Nat) (hk : k < S.nb) (one : Bool) : Calls Tryd.prog 60 #[.pointer (some ⟨W, 0, none⟩), .int .i64 k, .bool one] w fun e w' => e = .returned (.tuple #[]) ∧ ∃ v', PSt w0 w' W M Q F L P g v' S n bad md (m.clear k one) := by
  have c4 := h.mem.cells.2.2.2.2.1
  have k4 := (h.mem.at_k hk).1
  have f4 := (h.mem.thaw k).1
  have hA := h.push (k := k) hk (w1 := w) (u := .slice none 0 0) (l := []) (grown_self w _) (fun x hx => by cases hx) (PgsIs.nil _ _)
  have c6 := hA.mem.cells.2.2.2.2.2.1
  have k6 := (hA.mem.at_k hk).2.1
  have f6 := (hA.mem.thaw k).2.1
  have hB := hA.put_half hk false
  have c7 := hB.mem.cells.2.2.2.2.2.2.1
  have k7 := (hB.mem.at_k hk).2.2.1
  have f7 := (hB.mem.thaw k).2.2.1
  have hC := hB.put_one hk one
  have c10 := hC.mem.cells.2.2.2.2.2.2.2.2.2
  obtain ⟨cn, f, hmap, hsw⟩ := hC.sweep k
  have HMap := Lib.hid hmap
  have HSw := Lib.hid hsw
  have HC := Lib.hid hC
  have hki : (k : Int) < S.nb := by omega
  have HN : Hid (S.nb ≤ 1024) := h.med.fl.ok.nb.2
  have HK := Lib.hid hk
  generalize hnb : S.nb = nb at c4 c6 c7 hki
  clear h hA hB hC hmap hsw hk hnb
  go_enter Tryd.func60, Tryd.ntmps60
  go_wp2_with (at_range; refine wpList_range_sweep rfl _ 29 rfl 101 4 spot_under (g 16) cn f rfl HMap.out ?_; intro w7 hit7 hb7)
  have HSz : Hid ((((w.setCell ⟨g 5, k, none⟩ (.slice none 0 0)).setCell ⟨g 9, k, none⟩ (.bool false)).setCell ⟨g 11, k, none⟩ (.bool one)).heap.size = w.heap.size) := by unfold Hid; simp
  generalize (((w.setCell ⟨g 5, k, none⟩ (.slice none 0 0)).setCell ⟨g 9, k, none⟩ (.bool false)).setCell ⟨g 11, k, none⟩ (.bool one)) = W0 at *
  clear k4 f4 k6 f6 k7 f7 c4 c6 c7 c10
  have HIt7 : Hid (SweepIs Tryd.prog 101 w7 (g 16) w.heap.size f (notK k) cn) := by have := hit7.mono (K' := notK k) (fun _ _ _ h => h.elim); rw [HSz.out] at this; exact this
  have HT7 : Hid (Turns W0 w7 [g 16]) := Turns.of_below hb7 _
  clear hit7 hb7
  obtain ⟨r, hr⟩ : ∃ r, r = w.heap.size := ⟨_, rfl⟩
  have HR := Lib.hid hr
  rw [← hr] at HIt7 ⊢
  clear hr
  go_loopw [6] (fun _ wr => Swp W0 wr (g 16) r k m.tn) (fun _ wr => wr.rangeLeft (g 16) r)
  case atStart => exact ⟨⟨f, cn, HIt7.out, HSw.out, HT7.out⟩⟩
  case round =>
    obtain ⟨f', cnt, hit, hsw, ht⟩ := hrel.ex
    have HIt := Lib.hid hit
    have HSw' := Lib.hid hsw
    have HT := Lib.hid ht
    clear HIt7 HT7 hit hsw ht HSw HMap
    go_wp2_with (at_next; refine wpList_next_sweep rfl _ rfl 101 (g 16) r f' (notK k) cnt rfl HIt.out ?_ ?_)
    · intro h0 hall
      have HP := Lib.hid (HC.out.swept HT.out HIt.out HSw'.out hall)
      clear h0 hall
      go_wp2
      go_end0
      exact ⟨rfl, _, HP.out⟩
    · intro key vv w8 cnt8 hfk hit8 hlt8 hg8 hen
      obtain ⟨i, p, s, rfl, rfl, _, hi, hp, hs⟩ := HSw'.out.src key vv hfk
      have HT8 : Hid (Turns W0 w8 [g 16]) := HT.out.trans (Turns.of_grown hg8) (fun q hq => by simp at hq; subst hq; right; rw [HR.out, ← HSz.out]; exact Nat.le_refl _)
      have HB := Lib.hid (And.intro hi (And.intro hp hs))
      have HIt8 := Lib.hid hit8
      have HLt := Lib.hid hlt8
      clear hfk hit8 hlt8 hg8 hi hp hs
      have hWg : W ∉ [g 16] := by simp; intro e; exact HC.out.mem.tn.not_row _ _ (e ▸ HC.out.mem.row)
      have hW8 : Row w8 W 31 (wcells F M n S.pages S.nb g) := HT8.out.row HC.out.mem.row hWg
      obtain ⟨wL, hwL⟩ : ∃ wL, wL = w8.alloc (.cells #[.int .i64 i, .int .i64 p, .int .i64 s] 101) := ⟨_, rfl⟩
      have hbL : Below w8.heap.size w8 wL := by rw [hwL]; (repeat (first | (with_reducible refine Below.drew ?_) | (with_reducible refine below_drewN0 ?_ _) | ((with_reducible refine Below.setCell ?_ ?_ _); rotate_left; focus (first | omega | (simp; done) | (simp; omega) | (simp at *; omega))) | ((with_reducible refine Below.alloc ?_ ?_ _); rotate_left; focus (first | omega | (simp; done) | (simp; omega) | (simp at *; omega))) | (with_reducible exact Below.refl _ _)))
      have HTL : Hid (Turns W0 wL [g 16]) := HT8.out.then_below hbL
      have HItL := Lib.hid (HIt8.out.below hbL)
      have HWL : Hid (Row wL W 31 (wcells F M n S.pages S.nb g)) := by unfold Hid; rw [hwL]; exact ((Turns.refl w8 []).alloc _).row hW8 (by simp)
      have HRL : Hid (Row wL w8.heap.size 101 #[.int .i64 i, .int .i64 p, .int .i64 s]) := by unfold Hid; rw [hwL]; exact Row.fresh _ _ _
      clear hWg hW8 hbL HT8 HIt8
      simp only [spotV] at hen ⊢
      by_cases e : i = k
      · subst e
        have hsw2 := HSw'.out.drop (p := p) (s := s)
        obtain ⟨w9, cnt9, hdel, hit9, hle9, hg9⟩ := (HItL.out.below (show Below wL.heap.size wL wL.drew from (Below.refl _ _).drew)).delete (ty := 0) spotKeyed spot_under (spot_key (a := i) (b := p) (s := s) (by have := HB.out; unfold R64; omega) (by have := HB.out; unfold R64; omega) (by have := HB.out; unfold R64; omega))
        have HIt9 : Hid (SweepIs Tryd.prog 101 w9 (g 16) r (updK f' (spotV i p s) none) (notK i) cnt9) := hit9.mono (fun y _ _ hy => hy.1.resolve_left hy.2)
        have HT9 : Hid (Turns W0 w9 [g 16]) := HTL.out.drew.trans (Turns.of_grown hg9) (fun q hq => .inl hq)
        have HLe := Lib.hid hle9
        have HSw9 := Lib.hid hsw2
        have k1 : ∀ t : Kept wL [], t.u.cell? ⟨W, 10, none⟩ = some (.map (some (g 16))) := fun t => (t.h.row HWL.out (by simp)).cell 10
        have k2 : ∀ t : Kept wL [], t.u.cell? ⟨w8.heap.size, 0, none⟩ = some (.int .i64 i) := fun t => (t.h.row HRL.out (by simp)).cell 0
        have k3 : ∀ t : Kept wL [], t.u.cell? ⟨w8.heap.size, 1, none⟩ = some (.int .i64 p) := fun t => (t.h.row HRL.out (by simp)).cell 1
        have k4 : ∀ t : Kept wL [], t.u.cell? ⟨w8.heap.size, 2, none⟩ = some (.int .i64 s) := fun t => (t.h.row HRL.out (by simp)).cell 2
        clear hit9 hle9 hg9 hsw2 HTL HItL HWL HRL
        subst hwL
        go_wp2
        (refine region_kept ([]) [0, 1, 2, 3, 4] [5] (by kernel_rfl) (by kernel_rfl) (fun _ _ _ _ _ h => h) ?_; simp only [List.filterMap_cons, List.getElem?_cons_zero, List.getElem?_cons_succ, List.filterMap_nil]; (repeat ((show wpQuiet _ _ _ _ (_ :: _) _); go_big_quiet_step (fail))); refine wpQuiet_nil ?_)
        clear k1 k2 k3 k4
        refine wpSeqS_last ?_
        go_wp2
        go_roundw
        case rel =>
          exact ⟨_, cnt9, HIt9.out, HSw9.out, HT9.out⟩
        case measure => rw [HIt9.out.left_eq, HIt.out.left_eq]; have := HLt.out; have := HLe.out; omega
      · have hne : ¬ (i : Int) = k := by omega
        have HIt9 : Hid (SweepIs Tryd.prog 101 wL (g 16) r f' (notK k) cnt8) := HItL.out.mono (fun y _ _ hy => hy.elim (fun h => ⟨i, p, s, h, e⟩) id)
        clear HWL HRL HItL
        subst hwL
        go_wp2
        go_roundw
        case rel =>
          exact ⟨f', cnt8, HIt9.out, HSw'.out, HTL.out⟩
        case measure => rw [HIt9.out.left_eq, HIt.out.left_eq]; exact HLt.out
end
end Go.Proofs.YtlidbkofjchnnaaDoor
