/- What follows is laid together from several texts of mine, in their order. -/
import Derived.Test.YtlidbkofjchnnaaDoorQ8

namespace Go.Proofs.YtlidbkofjchnnaaDoor
open Go.RowKit Go.MapKept Go.ChangeMaps
open Go.Maps (Keyed)
set_option linter.unusedVariables false
set_option linter.unusedSimpArgs false

theorem intKeyed : Keyed Tryd.prog 3 := Go.Maps.int_keyed Tryd.underlying3
theorem bad_under : Tryd.prog.underlying 76 = some (.map 3 4) := Tryd.underlying76
theorem zero_bool (w : World) : (zeroValue 4).run Tryd.prog w = .ok (.bool false) w := by kernel_rfl
theorem int_key {k : Nat} (h : k < 1024) : keyOf Tryd.prog 3 (.int .i64 (k : Nat)) = some (.int .i64 (k : Nat)) := Go.Maps.keyOf_int_mk Tryd.underlying3 (WalkArith.wf_i64 (by omega))
/-- The blocks that are known to be bad, as a map. -/
def BadIs (w : World) (Q nb : Nat) (bad : Nat → Bool) : Prop :=
  ∃ n f, MapIs Tryd.prog 3 w Q n f ∧ ∀ key v, f key = some v ↔ ∃ k : Nat, k < nb ∧ bad k = true ∧ key = .int .i64 k ∧ v = .bool true
def setBad (bad : Nat → Bool) (k : Nat) : Nat → Bool := fun i => i == k || bad i
section
variable {w w' : World} {Q nb : Nat} {bad : Nat → Bool}
theorem BadIs.lt (h : BadIs w Q nb bad) : Q < w.heap.size := by obtain ⟨n, f, h, _⟩ := h; exact h.lt
theorem BadIs.turns {T : List Nat} (h : BadIs w Q nb bad) (ht : Turns w w' T) (hb : Q ∉ T) : BadIs w' Q nb bad := by obtain ⟨n, f, h, h2⟩ := h; exact ⟨n, f, h.turns ht hb, h2⟩
theorem BadIs.not_row (h : BadIs w Q nb bad) (t : TypeId) (cs : Array Value) : ¬ Row w Q t cs := by
  obtain ⟨n, f, ⟨es, clock, hb, _⟩, _⟩ := h
  intro hr
  unfold Row at hr
  rw [hr] at hb; cases hb
theorem BadIs.fresh (w : World) (nb : Nat) : BadIs (w.alloc (.map #[] 0)) w.heap.size nb (fun _ => false) := ⟨_, _, MapIs.fresh _ _ w, by simp⟩
theorem BadIs.look (h : BadIs w Q nb bad) (hn : nb ≤ 1024) {k : Nat} (hk : k < nb) : (Instr.lookup 76 (.map (some Q)) (.int .i64 k) false).run Tryd.prog w = .ok (.bool (bad k)) w := by
  obtain ⟨n, f, h, h2⟩ := h
  rw [(h.look intKeyed bad_under (zero_bool w) (int_key (by omega))).1]
  cases hb : bad k with
  | true => rw [(h2 (.int .i64 k) (.bool true)).2 ⟨k, hk, hb, rfl, rfl⟩]; rfl
  | false =>
    cases hf : f (.int .i64 k) with
    | none => rfl
    | some v =>
      obtain ⟨k', _, h3, h4, _⟩ := (h2 _ _).1 hf
      injection h4 with _ h4
      obtain rfl : k = k' := by omega
      rw [hb] at h3; cases h3
theorem BadIs.set (h : BadIs w Q nb bad) (hn : nb ≤ 1024) {k : Nat} (hk : k < nb) :
    ∃ w', (Instr.mapUpdate 76 (.map (some Q)) (.int .i64 k) (.bool true)).run Tryd.prog w = .ok () w' ∧ BadIs w' Q nb (setBad bad k) ∧ Turns w w' [Q] := by
  obtain ⟨n, f, h, h2⟩ := h
  obtain ⟨w', hr, hm, hg⟩ := h.update (val := .bool true) intKeyed bad_under (int_key (k := k) (by omega))
  refine ⟨w', hr, ⟨_, _, hm, fun key v => ?_⟩, Turns.of_grown hg⟩
  by_cases he : key = .int .i64 k
  · subst he
    rw [updK_same]
    constructor
    · rintro h; injection h with h; exact ⟨k, hk, by simp [setBad], rfl, h.symm⟩
    · rintro ⟨k', _, _, _, rfl⟩; rfl
  · rw [updK_ne _ _ _ he, h2]
    constructor
    · rintro ⟨k', h1, h3, h4, h5⟩
      exact ⟨k', h1, by simp [setBad, h3], h4, h5⟩
    · rintro ⟨k', h1, h3, rfl, h5⟩
      have : k' ≠ k := fun e => he (by rw [e])
      exact ⟨k', h1, by simpa [setBad, this] using h3, rfl, h5⟩
end
/-- A media: its own cells. -/
def mcells (F n Q : Nat) (md : Int) : Array Value := #[.iface 25 (.pointer (some ⟨F, 0, none⟩)), .pointer (some ⟨F, 0, none⟩), .int .i64 n, .map (some Q), .int .i64 md]
structure MedIs (w : World) (B M Q F L : Nat) (P : Nat → Nat) (S : Fl) (n : Nat) (bad : Nat → Bool) (md : Int) : Prop where
  hB : 1 ≤ B
  hM : B ≤ M
  hQ : B ≤ Q
  fl : FlIs w B F L P S
  row : Row w M 78 (mcells F n Q md)
  bad : BadIs w Q S.nb bad
  bytes : 1 ≤ n ∧ n ≤ 64 * S.chunks
  tab : Tab w
/-- The blocks of memory that a media may turn. -/
def medT (M Q F L : Nat) (P : Nat → Nat) (nb : Nat) : List Nat := M :: Q :: flS F L P nb
section
variable {w w' : World} {B M Q F L n : Nat} {P : Nat → Nat} {S S' : Fl} {bad : Nat → Bool} {md : Int}
theorem Tab.turns {T : List Nat} (h : Tab w) (ht : Turns w w' T) (h0 : 0 ∉ T) : Tab w' := fun j hj => ht.cell (h j hj) h0
theorem mem_flS {g : Nat} : g ∈ flS F L P S.nb ↔ g = F ∨ g = L ∨ ∃ i, i < S.nb ∧ g = P i := by simp [flS, eq_comm]
theorem mem_medT {g : Nat} : g ∈ medT M Q F L P S.nb ↔ g = M ∨ g = Q ∨ g = F ∨ g = L ∨ ∃ i, i < S.nb ∧ g = P i := by simp [medT, mem_flS]
theorem MedIs.at_least (h : MedIs w B M Q F L P S n bad md) : ∀ g ∈ medT M Q F L P S.nb, B ≤ g := fun g hg => by
  rcases mem_medT.1 hg with rfl | rfl | rfl | rfl | ⟨i, hi, rfl⟩
  · exact h.hM
  · exact h.hQ
  · exact h.fl.hF
  · exact h.fl.hL
  · exact h.fl.hP i hi
theorem MedIs.zero (h : MedIs w B M Q F L P S n bad md) : 0 ∉ medT M Q F L P S.nb := fun hm => by have := h.at_least 0 hm; have := h.hB; omega
theorem MedIs.m_flash (h : MedIs w B M Q F L P S n bad md) : M ∉ flS F L P S.nb := fun hm => by
  rcases mem_flS.1 hm with rfl | rfl | ⟨i, hi, rfl⟩
  · obtain ⟨_, hr⟩ := h.fl.rowF; exact Row.ne_type h.row hr (by decide) rfl
  · obtain ⟨_, hr⟩ := h.fl.rowL; exact Row.ne_type h.row hr (by decide) rfl
  · obtain ⟨_, hr⟩ := h.fl.rowP hi; exact Row.ne_type h.row hr (by decide) rfl
theorem MedIs.q_flash (h : MedIs w B M Q F L P S n bad md) : Q ∉ flS F L P S.nb := fun hm => by
  rcases mem_flS.1 hm with rfl | rfl | ⟨i, hi, rfl⟩
  · obtain ⟨_, hr⟩ := h.fl.rowF; exact h.bad.not_row _ _ hr
  · obtain ⟨_, hr⟩ := h.fl.rowL; exact h.bad.not_row _ _ hr
  · obtain ⟨_, hr⟩ := h.fl.rowP hi; exact h.bad.not_row _ _ hr
theorem MedIs.m_q (h : MedIs w B M Q F L P S n bad md) : M ≠ Q := fun e => h.bad.not_row _ _ (e ▸ h.row)
/-- No row of bytes is one of its blocks. -/
theorem MedIs.no_bytes (h : MedIs w B M Q F L P S n bad md) {g : Nat} {cs : Array Value} (hr : Row w g 5 cs) : g ∉ medT M Q F L P S.nb := fun hm => by
  rcases mem_medT.1 hm with rfl | rfl | rfl | rfl | ⟨i, hi, rfl⟩
  · exact Row.ne_type hr h.row (by decide) rfl
  · exact h.bad.not_row _ _ hr
  · obtain ⟨_, hr'⟩ := h.fl.rowF; exact Row.ne_type hr hr' (by decide) rfl
  · obtain ⟨_, hr'⟩ := h.fl.rowL; exact Row.ne_type hr hr' (by decide) rfl
  · obtain ⟨_, hr'⟩ := h.fl.rowP hi; exact Row.ne_type hr hr' (by decide) rfl
/-- The flash alone has turned. -/
theorem MedIs.flash {T : List Nat} (h : MedIs w B M Q F L P S n bad md) (hf : FlIs w' B F L P S') (ht : Turns w w' T) (hT : ∀ g ∈ T, g ∈ flS F L P S.nb) (hn : S'.nb = S.nb) (hc : S'.chunks = S.chunks) : MedIs w' B M Q F L P S' n bad md :=
  ⟨h.hB, h.hM, h.hQ, hf, ht.row h.row (fun hm => h.m_flash (hT _ hm)), by rw [hn]; exact h.bad.turns ht (fun hm => h.q_flash (hT _ hm)), by rw [hc]; exact h.bytes,
    h.tab.turns ht (fun hm => h.zero (by unfold medT; simp [hT _ hm]))⟩
theorem MedIs.keep (h : MedIs w B M Q F L P S n bad md) (ht : Turns w w' []) : MedIs w' B M Q F L P S n bad md := h.flash (h.fl.keep ht) ht (by simp) rfl rfl
theorem MedIs.drewN (h : MedIs w B M Q F L P S n bad md) (m : Nat) : MedIs (w.drewN m) B M Q F L P S n bad md := h.keep ((Turns.refl w []).drewN m)
theorem FlIs.turns {T : List Nat} (h : FlIs w B F L P S) (ht : Turns w w' T) (hT : ∀ g ∈ T, g ∉ flS F L P S.nb) (hb : ∀ g cs, Row w g 5 cs → g ∉ T) : FlIs w' B F L P S := by
  refine ⟨h.hF, h.hL, h.hP, ?_, ?_, ?_, h.inj, h.ok⟩
  · obtain ⟨s, p, r, e, hr⟩ := h.row
    exact ⟨s, p, r, e, ht.row hr (fun hm => hT _ hm (by simp [flS]))⟩
  · obtain ⟨cur, hr, h2⟩ := h.bl
    exact ⟨cur, ht.row hr (fun hm => hT _ hm (by simp [flS])), h2⟩
  · intro i hi
    obtain ⟨cur, hr, hs, h2⟩ := h.pg i hi
    refine ⟨cur, ht.row hr (fun hm => hT _ hm (mem_flS.2 (.inr (.inr ⟨i, hi, rfl⟩)))), hs, fun j hj => ?_⟩
    obtain ⟨v, hv, hp⟩ := h2 j hj
    refine ⟨v, hv, ?_⟩
    cases hx : (S.b i).pg j with
    | none => rw [hx] at hp; exact hp
    | some l =>
      rw [hx] at hp
      refine ht.own hp (fun g hg hm => ?_)
      rcases hp.2 with ⟨rfl, _⟩ | ⟨g2, cap, cur, rfl, _, hr, _⟩
      · cases hg
      · have e : g2 = g := by injection hg
        subst e
        exact hb _ _ hr hm
theorem MedIs.put4 (h : MedIs w B M Q F L P S n bad md) (md' : Int) : MedIs (w.setCell ⟨M, 4, none⟩ (.int .i64 md')) B M Q F L P S n bad md' := by
  have ht : Turns w (w.setCell ⟨M, 4, none⟩ (.int .i64 md')) [M] := (Turns.refl _ _).setCell (by simp) _
  refine ⟨h.hB, h.hM, h.hQ, h.fl.turns ht (fun g hg => by simp at hg; subst hg; exact h.m_flash) (fun g cs hr hm => by simp at hm; subst hm; exact Row.ne_type hr h.row (by decide) rfl), ?_, h.bad.turns ht (by simpa using Ne.symm h.m_q), h.bytes, h.tab.turns ht (fun hm => ?_)⟩
  · have := h.row.put 4 (.int .i64 md')
    simpa [mcells] using this
  · have := h.hB; have := h.hM; simp at hm; omega
theorem MedIs.markBad (h : MedIs w B M Q F L P S n bad md) {k : Nat} (hk : k < S.nb) :
    ∃ w', (Instr.mapUpdate 76 (.map (some Q)) (.int .i64 k) (.bool true)).run Tryd.prog w = .ok () w' ∧ MedIs w' B M Q F L P S n (setBad bad k) md ∧ Turns w w' [Q] := by
  obtain ⟨w', hr, hb, ht⟩ := h.bad.set h.fl.ok.nb.2 hk
  refine ⟨w', hr, ⟨h.hB, h.hM, h.hQ, h.fl.turns ht (fun g hg => by obtain rfl := List.mem_singleton.1 hg; exact h.q_flash) (fun g cs hr2 hm => by rw [List.mem_singleton.1 hm] at hr2; exact h.bad.not_row _ _ hr2), ht.row h.row (by simpa using h.m_q), hb, h.bytes, h.tab.turns ht (fun hm => ?_)⟩, ht⟩
  have := h.hB; have := h.hQ; simp at hm; omega
end
end Go.Proofs.YtlidbkofjchnnaaDoor
namespace Go.Proofs.YtlidbkofjchnnaaDoor
open Go.RowKit
set_option linter.unusedVariables false
set_option linter.unusedSimpArgs false

/-- How many pages can still be written. -/
def Fl.room (S : Fl) (bad : Nat → Bool) (k : Nat) : Nat := if (S.b k).half || bad k then 0 else S.has k - (S.b k).next
section
variable {w : World} {B M Q F L n : Nat} {P : Nat → Nat} {S : Fl} {bad : Nat → Bool} {md : Int}
theorem MedIs.cells (h : MedIs w B M Q F L P S n bad md) : w.cell? ⟨M, 0, none⟩ = some (.iface 25 (.pointer (some ⟨F, 0, none⟩))) ∧ w.cell? ⟨M, 2, none⟩ = some (.int .i64 n) ∧ w.cell? ⟨M, 3, none⟩ = some (.map (some Q)) ∧ w.cell? ⟨M, 4, none⟩ = some (.int .i64 md) :=
  ⟨h.row.cell 0, h.row.cell 2, h.row.cell 3, h.row.cell 4⟩
theorem MedIs.lookN (h : MedIs w B M Q F L P S n bad md) {k : Nat} (hk : k < S.nb) (m : Nat) : (Instr.lookup 76 (.map (some Q)) (.int .i64 k) false).run Tryd.prog (w.drewN m) = .ok (.bool (bad k)) (w.drewN m) := (h.drewN m).bad.look h.fl.ok.nb.2 hk
set_option maxRecDepth 100000 in
theorem Room_in (h : MedIs w B M Q F L P S n bad md) (k : Nat) (hk : k < S.nb) : Calls Tryd.prog 19 #[.pointer (some ⟨M, 0, none⟩), .int .i64 k] w fun e w' => e = .returned (.int .i64 (S.room bad k : Nat)) ∧ ∃ m, w' = w.drewN m := by
  have HN := Lib.hid (Next_in h.fl k hk)
  have hn := nil_next F
  have hm := met_next F
  obtain ⟨c0, _, c3, _⟩ := h.cells
  have HP := Lib.hid (Pages_in h.fl M k hk c0)
  have hl : (Instr.lookup 76 (.map (some Q)) (.int .i64 k) false).run Tryd.prog w = .ok (.bool (bad k)) w := h.lookN hk 0
  have hnx : (S.b k).next ≤ S.has k := (h.fl.ok.wf k hk).next
  have hle := has_le h.fl.ok k
  have hpg := h.fl.ok.pages
  unfold Fl.room
  generalize S.nb = nb at *
  generalize S.pages = pages at *
  generalize (S.b k).half = hf at *
  generalize (S.b k).next = nx at *
  generalize S.has k = hs at *
  generalize bad k = bk at *
  clear h
  cases hf
  · cases bk
    · have hnl : ¬ (nx : Int) < 0 := by omega
      have he : ((hs - nx : Nat) : Int) = (hs : Int) - nx := by omega
      rw [if_neg (by simp), he]
      rw [if_neg (by simp)] at HN
      clear he
      have HX := Lib.hid hnx
      have HL := Lib.hid (And.intro hle hpg)
      clear hnx hle hpg
      go_enter Tryd.func19, Tryd.ntmps19
      go_wp2_with fail
      refine HN.out.mono ?_
      rintro e w1 ⟨rfl, rfl⟩
      clear HN hn hm
      go_wp2_with fail
      refine HP.out.mono ?_
      rintro e w1 ⟨rfl, m, rfl⟩
      clear HP
      have hwr : IntKind.i64.wrap ((hs : Int) - nx) = (hs : Int) - nx := by rw [IntKind.wrap_i64]; have := HX.out; have := HL.out; omega
      go_wp2
      go_ret
      exact ⟨rfl, m, rfl⟩
    · have hnl : ¬ (nx : Int) < 0 := by omega
      rw [if_pos (by simp)]
      rw [if_neg (by simp)] at HN
      go_enter Tryd.func19, Tryd.ntmps19
      go_wp2_with fail
      refine HN.out.mono ?_
      rintro e w1 ⟨rfl, rfl⟩
      clear HN hn hm
      go_wp2
      go_ret
      exact ⟨rfl, 0, rfl⟩
  · rw [if_pos (by simp)]
    rw [if_pos (by simp)] at HN
    go_enter Tryd.func19, Tryd.ntmps19
    go_wp2_with fail
    refine HN.out.mono ?_
    rintro e w1 ⟨rfl, rfl⟩
    clear HN hn hm
    go_wp2
    go_ret
    exact ⟨rfl, 0, rfl⟩
theorem Room_out (h : MedIs w B M Q F L P S n bad md) (k : Int) (hk : k < 0 ∨ S.nb ≤ k) : Calls Tryd.prog 19 #[.pointer (some ⟨M, 0, none⟩), .int .i64 k] w fun e w' => e = .returned (.int .i64 0) ∧ ∃ m, w' = w.drewN m := by
  have HN := Lib.hid (Next_out h.fl k hk)
  have hn := nil_next F
  have hm := met_next F
  obtain ⟨c0, _, c3, _⟩ := h.cells
  clear h
  go_enter Tryd.func19, Tryd.ntmps19
  go_wp2_with fail
  refine HN.out.mono ?_
  rintro e w1 ⟨rfl, rfl⟩
  clear HN hn hm
  go_wp2
  go_ret
  exact ⟨rfl, 0, rfl⟩
theorem fail_no (M : Nat) (k e0 : Int) (he : e0 ≠ 7) (w : World) : Calls Tryd.prog 30 #[.pointer (some ⟨M, 0, none⟩), .int .i64 k, .int .i64 e0] w fun e w' => e = .returned (.int .i64 e0) ∧ w = w' := by
  go_enter Tryd.func30, Tryd.ntmps30
  go_wp2
  go_ret
  exact ⟨rfl, rfl⟩
theorem fail_yes (h : MedIs w B M Q F L P S n bad md) (k : Nat) (hk : k < S.nb) : Calls Tryd.prog 30 #[.pointer (some ⟨M, 0, none⟩), .int .i64 k, .int .i64 7] w fun e w' => e = .returned (.int .i64 7) ∧ MedIs w' B M Q F L P S n (setBad bad k) md ∧ Turns w w' [Q] := by
  obtain ⟨c0, _, c3, _⟩ := h.cells
  obtain ⟨w', hr, h', ht⟩ := h.markBad hk
  have H' := Lib.hid h'
  have HT := Lib.hid ht
  clear h h' ht
  go_enter Tryd.func30, Tryd.ntmps30
  go_wp2
  go_ret
  exact ⟨rfl, H'.out, HT.out⟩
theorem Mended_any (h : MedIs w B M Q F L P S n bad md) : Calls Tryd.prog 27 #[.pointer (some ⟨M, 0, none⟩)] w fun e w' => e = .returned (.int .i64 md) ∧ w = w' := by
  obtain ⟨_, _, _, c4⟩ := h.cells
  have HL := Lib.hid (Load_any M 4 md w c4)
  clear h c4
  go_enter Tryd.func27, Tryd.ntmps27
  go_wp2_with fail
  refine HL.out.mono ?_
  rintro e w1 ⟨rfl, rfl⟩
  clear HL
  go_wp2
  go_ret
  exact ⟨rfl, rfl⟩
end
end Go.Proofs.YtlidbkofjchnnaaDoor
