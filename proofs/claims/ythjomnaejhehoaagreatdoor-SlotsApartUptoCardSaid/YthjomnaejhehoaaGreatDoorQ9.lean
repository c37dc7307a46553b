/- What follows is laid together from several texts of mine, in their order. -/
import Derived.Test.YthjomnaejhehoaaGreatDoorQ8
import Derived.Laws.IdiomCopy
import Derived.Lib.SliceRun

namespace Go.Proofs.YthjomnaejhehoaaGreatDoor
open Go.RowKit
set_option linter.unusedVariables false
set_option linter.unusedSimpArgs false

theorem setCells_row {g : Nat} {t : TypeId} : ∀ (vs : List Value) (o : Nat) (w : World) (cs : Array Value), Row w g t cs → ∃ cs', Row (w.setCells g o vs) g t cs' ∧ cs'.size = cs.size
  | [], _, _, cs, h => ⟨cs, h, rfl⟩
  | v :: r, o, w, cs, h => by
    obtain ⟨cs', h1, h2⟩ := setCells_row r (o + 1) _ _ (h.put o v)
    exact ⟨cs', h1, by rw [h2, Array.size_setIfInBounds]⟩
theorem setCells_turns {g : Nat} : ∀ (vs : List Value) (o : Nat) (w0 w : World), Turns w0 w [g] → Turns w0 (w.setCells g o vs) [g]
  | [], _, _, _, h => h
  | v :: r, o, w0, w, h => setCells_turns r (o + 1) w0 _ (h.setCell (by simp) v)
theorem zero_bytes (w : World) : (zeroValue 22).run Tryz.prog w = .ok (.slice none 0 0) w := by kernel_rfl
section
variable {w w' : World} {B F L : Nat} {P : Nat → Nat} {S : Fl}
/-- A block whose pages are nil. -/
theorem FlIs.clear (h : FlIs w B F L P S) {k : Nat} (hk : k < S.nb) (ty : TypeId) : ∃ w', (Builtin.clear_ #[30] ty #[.slice (some ⟨P k, 0, none⟩) S.pages S.pages]).run Tryz.prog w = .ok (.tuple #[]) w' ∧ FlIs w' B F L P (S.setB k { S.b k with pg := fun _ => none }) ∧ Turns w w' [P k] := by
  obtain ⟨cur, hr, hs, hc⟩ := h.pg k hk
  have hpp := h.ok.pages
  have hne := h.ne
  have hcell : ∀ j, j < S.pages → (w.cell? ⟨P k, 0 + j, none⟩).isSome = true := fun j hj => by
    rw [Nat.zero_add, hr.cell, Array.getElem?_eq_getElem (by omega)]; rfl
  have hrun := Lib.run_clear_slice w 30 22 ty (.slice none 0 0) Tryz.underlying30 zero_bytes rfl rfl (P k) 0 S.pages S.pages (by omega) hcell (fun j _ => by rw [Nat.zero_add]; exact hr.frozen j)
  obtain ⟨cs', hr', hs'⟩ := setCells_row (List.replicate S.pages (.slice none 0 0)) 0 w cur hr
  have ht : Turns w (w.setCells (P k) 0 (List.replicate S.pages (.slice none 0 0))) [P k] := setCells_turns _ _ _ _ (Turns.refl _ _)
  refine ⟨_, hrun, ?_, ht⟩
  have hF : S.off = S.off := rfl
  have := h.prog hk (ht.mono (by simp)) S.off S.armed h.ok.armed (x := { S.b k with pg := fun _ => none }) ?_ ?_ ⟨cs', hr', by rw [hs', hs], fun j hj => ⟨.slice none 0 0, ?_, rfl⟩⟩ ⟨(h.ok.wf k hk).next, fun _ _ => rfl, fun j l hl => by cases hl⟩
  · exact this
  · obtain ⟨s, r, e, hr⟩ := h.row
    exact ⟨s, r, e, ht.row hr (by simpa using hne.2.1 k hk)⟩
  · obtain ⟨cur, hr, hs, hc⟩ := h.bl
    refine ⟨cur, ht.row hr (by simpa using hne.2.2 k hk), hs, fun i hi j v hv => hc i hi j v ?_⟩
    by_cases e : i = k
    · subst e; rw [if_pos rfl] at hv; exact hv
    · rw [if_neg e] at hv; exact hv
  · have h1 := World.cell?_setCells_in (P k) (List.replicate S.pages (.slice none 0 0)) 0 w (fun i hi => hcell i (by simpa using hi)) j (by simpa using hj)
    rw [Nat.zero_add, hr'.cell] at h1
    simpa using h1
end
end Go.Proofs.YthjomnaejhehoaaGreatDoor

namespace Go.Proofs.YthjomnaejhehoaaGreatDoor
open Go.RowKit
set_option linter.unusedVariables false
set_option linter.unusedSimpArgs false

theorem Fl.setB_setB (S : Fl) (k : Nat) (x y : Bk) : (S.setB k x).setB k y = S.setB k y := by
  unfold Fl.setB
  congr 1
  funext i
  split
  · rfl
  · rename_i h; simp [h]
/-- A block that is half erased; erased. -/
def Fl.halfE (S : Fl) (k : Nat) : Fl := S.setB k { S.b k with half := true }
def Fl.wholeE (S : Fl) (k : Nat) : Fl := S.setB k { S.b k with pg := fun _ => none, next := 0, half := false }
section
variable {w w' : World} {B F L : Nat} {P : Nat → Nat} {S : Fl}
theorem FlIs.eqv {T : Fl} (h : FlIs w B F L P S) (e : S = T) : FlIs w B F L P T := e ▸ h
theorem FlIs.half (h : FlIs w B F L P S) {k : Nat} (hk : k < S.nb) (b : Bool) : FlIs (w.setCell ⟨L, k * 5 + 2, none⟩ (.bool b)) B F L P (S.setB k { S.b k with half := b }) ∧ Turns w (w.setCell ⟨L, k * 5 + 2, none⟩ (.bool b)) [L] :=
  ⟨h.put hk (by omega) _ _ rfl rfl ⟨(h.ok.wf k hk).next, (h.ok.wf k hk).none, (h.ok.wf k hk).raw⟩, (Turns.refl _ _).setCell (by simp) _⟩
theorem FlIs.nought (h : FlIs w B F L P S) {k : Nat} (hk : k < S.nb) (hn : ∀ j, (S.b k).pg j = none) : FlIs (w.setCell ⟨L, k * 5 + 1, none⟩ (.int .i64 0)) B F L P (S.setB k { S.b k with next := 0 }) ∧ Turns w (w.setCell ⟨L, k * 5 + 1, none⟩ (.int .i64 0)) [L] :=
  ⟨h.put hk (by omega) _ _ rfl rfl ⟨Nat.zero_le _, fun j _ => hn j, (h.ok.wf k hk).raw⟩, (Turns.refl _ _).setCell (by simp) _⟩
theorem Erase_failed (h : FlIs w B F L P S) (k : Nat) (hk : k < S.nb) (ho : S.off = false) (hf : (S.b k).failed = true) :
    Calls Tryz.prog 132 #[.pointer (some ⟨F, 0, none⟩), .int .i64 k] w fun e w' => e = .returned (.int .i64 7) ∧ w = w' := by
  have HBl := Lib.hid (block_in h k hk)
  have hmy0 := may_in h k hk true
  rw [ho, hf] at hmy0
  have HMy : Hid (Calls Tryz.prog 137 #[.pointer (some ⟨F, 0, none⟩), .pointer (some ⟨L, k * 5, none⟩), .bool true] w fun e w' => e = .returned (.int .i64 7) ∧ w = w') := hmy0
  clear h hmy0 ho hf
  go_enter Tryz.func132, Tryz.ntmps132
  go_wp2_with fail
  refine HBl.out.mono ?_
  rintro e w' ⟨rfl, rfl⟩
  clear HBl
  go_wp2_with fail
  refine HMy.out.mono ?_
  rintro e w' ⟨rfl, rfl⟩
  clear HMy
  go_wp2
  go_ret
  exact ⟨rfl, rfl⟩
/-- What Erase leaves. -/
def ErasePost (w : World) (B F L : Nat) (P : Nat → Nat) (S : Fl) (k : Nat) (e : Ending) (w' : World) : Prop :=
  Turns w w' [F, L, P k] ∧ (S.armed = 1 → e = .returned (.int .i64 4) ∧ FlIs w' B F L P { S with off := true, armed := 0 }) ∧
    (S.armed = 2 → e = .returned (.int .i64 4) ∧ FlIs w' B F L P { S.halfE k with off := true, armed := 0 }) ∧
    (S.armed ≠ 1 → S.armed ≠ 2 → e = .returned (.int .i64 0) ∧ FlIs w' B F L P { S.wholeE k with armed := S.armed - 2 })
set_option maxRecDepth 100000 in
set_option maxHeartbeats 4000000 in
theorem Erase_any (h : FlIs w B F L P S) (k : Nat) (hk : k < S.nb) (ho : S.off = false) (hf : (S.b k).failed = false) :
    Calls Tryz.prog 132 #[.pointer (some ⟨F, 0, none⟩), .int .i64 k] w (ErasePost w B F L P S k) := by
  have HBl := Lib.hid (block_in h k hk)
  have hmy0 := may_in h k hk true
  rw [ho, hf] at hmy0
  have HMy : Hid (Calls Tryz.prog 137 #[.pointer (some ⟨F, 0, none⟩), .pointer (some ⟨L, k * 5, none⟩), .bool true] w fun e w' => e = .returned (.int .i64 0) ∧ w = w') := hmy0
  have HH := Lib.hid h
  have HK := Lib.hid hk
  have HPost : Hid (∀ e w', Turns w w' [F, L, P k] → (S.armed = 1 → e = .returned (.int .i64 4) ∧ FlIs w' B F L P { S with off := true, armed := 0 }) →
    (S.armed = 2 → e = .returned (.int .i64 4) ∧ FlIs w' B F L P { S.halfE k with off := true, armed := 0 }) →
    (S.armed ≠ 1 → S.armed ≠ 2 → e = .returned (.int .i64 0) ∧ FlIs w' B F L P { S.wholeE k with armed := S.armed - 2 }) → ErasePost w B F L P S k e w') := fun e w' a b c d => ⟨a, b, c, d⟩
  have HOf := Lib.hid ho
  clear h hmy0 ho hf hk
  go_enter Tryz.func132, Tryz.ntmps132
  go_wp2_with fail
  refine HBl.out.mono ?_
  rintro e w' ⟨rfl, rfl⟩
  clear HBl
  go_wp2_with fail
  refine HMy.out.mono ?_
  rintro e w' ⟨rfl, rfl⟩
  clear HMy
  go_wp2
  go_loopw [19] (fun iv wr => ∃ (j : Nat) (T : Fl), iv = .int .i64 j ∧ FlIs wr B F L P T ∧ Turns w wr [F, L, P k] ∧ ((j = 0 ∧ T = S) ∨ (j = 1 ∧ S.armed ≠ 1 ∧ T = { S.halfE k with armed := S.armed - 1 }) ∨ (j = 2 ∧ S.armed ≠ 1 ∧ S.armed ≠ 2 ∧ T = { S.setB k { S.b k with half := false } with armed := S.armed - 2 }))) (fun i _ => 2 - (intOf i).toNat)
  case atStart => exact ⟨0, S, rfl, HH.out, Turns.refl _ _, .inl ⟨rfl, rfl⟩⟩
  case round =>
    obtain ⟨j, T, rfl, hT, ht, hj⟩ := hrel
    have HT := Lib.hid ht
    have HTf := Lib.hid hT
    have HSt := Lib.hid (step_fl hT)
    clear hT ht
    rcases hj with ⟨rfl, rfl⟩ | ⟨rfl, hs1, hTe⟩ | ⟨rfl, hs1, hs2, hTe⟩
    · by_cases ha : T.armed = 1
      · rw [decide_eq_false (by omega)] at HSt
        have HA := Lib.hid ha
        clear ha
        go_wp2_with fail
        refine HSt.out.mono ?_
        rintro e w2 ⟨rfl, h2, ht2⟩
        have H2 := Lib.hid h2
        have HT2 := Lib.hid ht2
        clear HSt h2 ht2
        go_wp2
        refine bodyPost_ret (v := .int .i64 4) (by simp [results, Tryz.results132, go_sem]) rfl (HPost.out _ _ (HT.out.trans HT2.out (by simp)) (fun _ => ⟨rfl, H2.out.eqv (by unfold Fl.step; rw [if_pos HA.out])⟩) (fun h => by have := HA.out; omega) (fun h => absurd HA.out h))
      · rw [decide_eq_true ha] at HSt
        have HA := Lib.hid ha
        clear ha
        go_wp2_with fail
        refine HSt.out.mono ?_
        rintro e w2 ⟨rfl, h2, ht2⟩
        have h2' := h2.eqv (T := { T with armed := T.armed - 1 }) (by unfold Fl.step; rw [if_neg HA.out])
        have h3 := h2'.half HK.out true
        have H3 := Lib.hid h3.1
        have HT3 : Hid (Turns w _ [F, L, P k]) := (HT.out.trans ht2 (by simp)).trans h3.2 (by simp)
        have d2 := (h2'.cells HK.out).2.2.1
        have f2 := h2'.frozenL (k * 5 + 2)
        clear HSt h2 ht2 h2' h3 HTf
        go_wp2
        go_roundw
        case rel => exact ⟨1, _, rfl, H3.out, HT3.out, .inr (.inl ⟨rfl, HA.out, rfl⟩)⟩
        case measure => simp [intOf]
    · have HKT : Hid (k < T.nb) := by rw [hTe]; exact HK.out
      have hTa : T.armed = S.armed - 1 := by rw [hTe]
      have HTe := Lib.hid hTe
      have HTa := Lib.hid hTa
      have HS1 := Lib.hid hs1
      by_cases ha : T.armed = 1
      · rw [decide_eq_false (by omega)] at HSt
        have HA := Lib.hid ha
        clear ha hTe hTa hs1
        go_wp2_with fail
        refine HSt.out.mono ?_
        rintro e w2 ⟨rfl, h2, ht2⟩
        have H2 := Lib.hid (h2.eqv (T := { S.halfE k with off := true, armed := 0 }) (by unfold Fl.step; rw [if_pos HA.out, HTe.out]))
        have HT2 := Lib.hid ht2
        clear HSt h2 ht2
        go_wp2
        refine bodyPost_ret (v := .int .i64 4) (by simp [results, Tryz.results132, go_sem]) rfl (HPost.out _ _ (HT.out.trans HT2.out (by simp)) (fun h => absurd h HS1.out) (fun _ => ⟨rfl, H2.out⟩) (fun _ h => by have := HA.out; have := HTa.out; omega))
      · rw [decide_eq_true ha] at HSt
        have HA := Lib.hid ha
        clear ha hTe hTa hs1
        go_wp2_with fail
        refine HSt.out.mono ?_
        rintro e w2 ⟨rfl, h2, ht2⟩
        have h2' := h2.eqv (T := { T with armed := T.armed - 1 }) (by unfold Fl.step; rw [if_neg HA.out])
        have h3 := h2'.half HKT.out false
        have H3 := Lib.hid (h3.1.eqv (T := { S.setB k { S.b k with half := false } with armed := S.armed - 2 }) (by
          rw [HTe.out]
          simp only [Fl.halfE, Fl.setB]
          congr 1
          funext i
          by_cases h : i = k <;> simp [h]))
        have HT3 : Hid (Turns w _ [F, L, P k]) := (HT.out.trans ht2 (by simp)).trans h3.2 (by simp)
        have d2 := (h2'.cells HKT.out).2.2.1
        have f2 := h2'.frozenL (k * 5 + 2)
        clear HSt h2 ht2 h2' h3 HTf
        go_wp2
        go_roundw
        case rel => exact ⟨2, _, rfl, H3.out, HT3.out, .inr (.inr ⟨rfl, HS1.out, fun h => HA.out (by have := HTa.out; omega), rfl⟩)⟩
        case measure => simp [intOf]
    · have HKT : Hid (k < T.nb) := by rw [hTe]; exact HK.out
      have HTe := Lib.hid hTe
      have HS1 := Lib.hid hs1
      have HS2 := Lib.hid hs2
      have d0 := (HTf.out.cells HKT.out).1
      obtain ⟨w2, hrun, h2, ht2⟩ := HTf.out.clear HKT.out 0
      have h3 := h2.nought (k := k) HKT.out (fun j => by rw [Fl.setB_self])
      have d1 := (h2.cells (k := k) HKT.out).2.1
      have f1 := h2.frozenL (k * 5 + 1)
      have HAd := Lib.hid (Add_fl h3.1 8 (by omega))
      have HT3 : Hid (Turns w (w2.setCell ⟨L, k * 5 + 1, none⟩ (.int .i64 0)) [F, L, P k]) := (HT.out.trans ht2 (by simp)).trans h3.2 (by simp)
      have HEq : Hid (((T.setB k { T.b k with pg := fun _ => none }).setB k { (T.setB k { T.b k with pg := fun _ => none }).b k with next := 0 }) = { S.wholeE k with armed := S.armed - 2 }) := by
        unfold Hid
        rw [HTe.out]
        simp only [Fl.wholeE, Fl.setB]
        congr 1
        funext i
        by_cases h : i = k <;> simp [h]
      clear HSt HTf hTe hs1 hs2 h2 ht2 h3
      go_wp2_with fail
      refine HAd.out.mono ?_
      rintro e w4 ⟨⟨v, rfl⟩, h4, ht4⟩
      have H4 := Lib.hid (h4.eqv HEq.out)
      have HT4 := Lib.hid ht4
      clear HAd h4 ht4
      go_wp2
      refine bodyPost_ret (v := .int .i64 0) (by simp [results, Tryz.results132, go_sem]) rfl (HPost.out _ _ (HT3.out.trans HT4.out (by simp)) (fun h => absurd h HS1.out) (fun h => absurd h HS2.out) (fun _ _ => ⟨rfl, H4.out⟩))
end
end Go.Proofs.YthjomnaejhehoaaGreatDoor

namespace Go.Proofs.YthjomnaejhehoaaGreatDoor
open Go.RowKit
set_option linter.unusedVariables false
set_option linter.unusedSimpArgs false

theorem block_info : (Tryz.prog.info? 85).map (fun i => (i.zero, i.size, i.bytes)) = some (some (.agg #[.slice none 0 0, .int .i64 0, .bool false, .bool false, .bool false]), 5, 40) := by kernel_rfl
theorem bytes_info : (Tryz.prog.info? 22).map (fun i => (i.zero, i.size, i.bytes)) = some (some (.slice none 0 0), 1, 24) := by kernel_rfl
def bk0 : Bk := ⟨fun _ => none, 0, false, false, false⟩
/-- A new flash. -/
def Fl.new (nb pages chunks : Nat) : Fl := ⟨false, 0, nb, pages, chunks, fun _ => bk0, 0⟩
/-- What New has laid when i blocks have their pages. -/
structure NewIs (w wr : World) (F L : Nat) (nb pages chunks i : Nat) (P : Nat → Nat) : Prop where
  row : Row wr F 46 (fcells false 0 0 [.slice (some ⟨L, 0, none⟩) nb nb, .int .i64 pages, .int .i64 chunks, .int .i64 0, .int .i64 0, .int .i64 0])
  bl : ∃ cur, Row wr L 85 cur ∧ cur.size = nb * 5 ∧ ∀ j, j < nb → ∀ m v, ((.slice (if j < i then some ⟨P j, 0, none⟩ else none) (if j < i then pages else 0) (if j < i then pages else 0) :: [.int .i64 0, .bool false, .bool false, .bool false] : List Value))[m]? = some v → cur[j * 5 + m]? = some v
  pg : ∀ j, j < i → w.heap.size ≤ P j ∧ Row wr (P j) 22 (madeCells #[.slice none 0 0] pages)
  inj : ∀ j m, j < i → m < i → P j = P m → j = m
  below : Below w.heap.size w wr
theorem made_at (v : Value) (n j : Nat) (h : j < n) : (madeCells #[v] n)[j]? = some v := by
  simp [madeCells, h, Nat.mod_one]
theorem NewIs.done {w wr : World} {F L nb pages chunks : Nat} {P : Nat → Nat} (h : NewIs w wr F L nb pages chunks nb P) (hF : w.heap.size ≤ F) (hL : w.heap.size ≤ L) (h1 : 1 ≤ nb ∧ nb ≤ 1024) (h2 : 2 ≤ pages ∧ pages ≤ 256 ∧ pages % 2 = 0) (h3 : 1 ≤ chunks ∧ chunks ≤ 8) :
    FlIs wr w.heap.size F L P (Fl.new nb pages chunks) := by
  refine ⟨hF, hL, fun i hi => (h.pg i hi).1, ⟨0, 0, 0, h.row⟩, ?_, ?_, h.inj, ⟨h1, h2, h3, by show 0 < _; omega, fun i _ => ⟨Nat.zero_le _, fun _ _ => rfl, fun j l hl => by cases hl⟩⟩⟩
  · obtain ⟨cur, hr, hs, hc⟩ := h.bl
    refine ⟨cur, hr, hs, fun i hi j v hv => hc i hi j v ?_⟩
    have hi' : i < nb := hi
    rw [if_pos hi', if_pos hi']
    exact hv
  · intro i hi
    refine ⟨_, (h.pg i hi).2, by simp [madeCells]; rfl, fun j hj => ⟨_, made_at _ _ _ hj, rfl⟩⟩
end Go.Proofs.YthjomnaejhehoaaGreatDoor
namespace Go.Proofs.YthjomnaejhehoaaGreatDoor
open Go.RowKit
set_option linter.unusedVariables false
set_option linter.unusedSimpArgs false

def five : List Value := [.slice none 0 0, .int .i64 0, .bool false, .bool false, .bool false]
theorem made_get (cs : Array Value) (n i : Nat) (hi : i < n) (hs : 0 < cs.size) : (madeCells cs n)[i]? = cs[i % cs.size]? := by
  have hm : i % cs.size < cs.size := Nat.mod_lt _ hs
  simp [madeCells, hi, Array.getElem?_eq_getElem hm]
  exact getElem!_pos cs _ hm
theorem made5 (n j m : Nat) (v : Value) (hj : j < n) (hm : five[m]? = some v) : (madeCells (.agg #[.slice none 0 0, .int .i64 0, .bool false, .bool false, .bool false] : Value).cells (n * 5))[j * 5 + m]? = some v := by
  have h5 : m < 5 := by have := (List.getElem?_eq_some_iff.1 hm).1; simpa [five] using this
  have hc : (.agg #[.slice none 0 0, .int .i64 0, .bool false, .bool false, .bool false] : Value).cells = five.toArray := rfl
  rw [hc, made_get _ _ _ (by omega) (by decide), show five.toArray.size = 5 from rfl, show (j * 5 + m) % 5 = m by omega, List.getElem?_toArray]
  exact hm
theorem NewIs.step {w wr : World} {F L nb pages chunks i : Nat} {P : Nat → Nat} (h : NewIs w wr F L nb pages chunks i P) (hi : i < nb) (hF : w.heap.size ≤ F) (hL : w.heap.size ≤ L) :
    NewIs w ((wr.drew.alloc (.cells (madeCells #[.slice none 0 0] pages) 22)).setCell ⟨L, i * 5, none⟩ (.slice (some ⟨wr.drew.heap.size, 0, none⟩) pages pages)) F L nb pages chunks (i + 1) (fun x => if x = i then wr.drew.heap.size else P x) := by
  obtain ⟨cur, hrL, hs, hc⟩ := h.bl
  have hFL : F ≠ L := h.row.ne_type hrL (by decide)
  have hPL : ∀ j, j < i → P j ≠ L := fun j hj => (h.pg j hj).2.ne_type hrL (by decide)
  have hnew : wr.drew.heap.size ≠ L := Nat.ne_of_gt hrL.lt
  have hPn : ∀ j, j < i → P j ≠ wr.drew.heap.size := fun j hj => Nat.ne_of_lt (h.pg j hj).2.lt
  refine ⟨?_, ⟨_, ((show Row wr.drew L _ cur from hrL).alloc _).put (i * 5) _, by rw [Array.size_setIfInBounds]; exact hs, fun j hj m v hv => ?_⟩, fun j hj => ?_, fun j m hj hm he => ?_, ?_⟩
  · exact ((show Row wr.drew F _ _ from h.row).alloc _).far hFL _
  · have hm5 : m < 5 := by have := (List.getElem?_eq_some_iff.1 hv).1; simpa using this
    rw [Array.getElem?_setIfInBounds]
    by_cases e : j = i
    · subst e
      by_cases em : m = 0
      · subst em
        rw [if_pos (by omega), if_pos (by omega)]
        simpa using hv
      · rw [if_neg (by omega)]
        refine hc j hj m v ?_
        obtain ⟨m', rfl⟩ : ∃ m', m = m' + 1 := ⟨m - 1, by omega⟩
        simpa using hv
    · rw [if_neg (by omega)]
      refine hc j hj m v ?_
      by_cases hji : j < i
      · rw [if_pos hji, if_pos hji]
        rw [if_pos (show j < i + 1 by omega), if_pos (show j < i + 1 by omega)] at hv
        simp only [if_neg e] at hv
        exact hv
      · rw [if_neg hji, if_neg hji]
        rw [if_neg (show ¬ j < i + 1 by omega), if_neg (show ¬ j < i + 1 by omega)] at hv
        exact hv
  · by_cases e : j = i
    · subst e
      simp only [if_true]
      exact ⟨h.below.size, (Row.fresh _ _ _).far hnew _⟩
    · simp only [if_neg e]
      have := h.pg j (by omega)
      exact ⟨this.1, ((show Row wr.drew _ _ _ from this.2).alloc _).far (hPL j (by omega)) _⟩
  · by_cases ej : j = i
    · by_cases em : m = i
      · omega
      · simp only [if_pos ej, if_neg em] at he
        exact absurd he.symm (hPn m (by omega))
    · by_cases em : m = i
      · simp only [if_neg ej, if_pos em] at he
        exact absurd he (hPn j (by omega))
      · simp only [if_neg ej, if_neg em] at he
        exact h.inj j m (by omega) (by omega) he
  · exact Turns.below (S := [L]) ((((Turns.refl wr [L]).drew).alloc _).setCell (by simp) _) h.below h.below.size (by simpa using hL)
set_option maxRecDepth 100000 in
set_option maxHeartbeats 4000000 in
theorem New_any (nb pages chunks : Nat) (h1 : 1 ≤ nb ∧ nb ≤ 1024) (h2 : 2 ≤ pages ∧ pages ≤ 256 ∧ pages % 2 = 0) (h3 : 1 ≤ chunks ∧ chunks ≤ 8) (w : World) :
    Calls Tryz.prog 19 #[.int .i64 nb, .int .i64 pages, .int .i64 chunks] w fun e w' => ∃ F L P, e = .returned (.tuple #[.pointer (some ⟨F, 0, none⟩), .int .i64 0]) ∧ FlIs w' w.heap.size F L P (Fl.new nb pages chunks) ∧ Below w.heap.size w w' := by
  obtain ⟨i1, ji, jz0, jz1, jz2⟩ := info_parts block_info
  obtain ⟨i2, ki, kz0, kz1, kz2⟩ := info_parts bytes_info
  have hb1 : Hid (i1.bytes * nb ≤ 281474976710656) := by unfold Hid; rw [jz2]; omega
  have hb2 : Hid (nb ≤ maxLen) := by unfold Hid maxLen; omega
  have hb3 : Hid (i2.bytes * pages ≤ 281474976710656) := by unfold Hid; rw [kz2]; omega
  have H2 := Lib.hid h2
  have hp2 : 2 ≤ pages ∧ pages ≤ 256 := ⟨h2.1, h2.2.1⟩
  have hrem : (pages : Int).tmod 2 = 0 := by rw [Int.tmod_eq_emod_of_nonneg (by omega)]; have := h2.2.2; omega
  have hrem2 : (pages : Int) % 2 = 0 := by have := h2.2.2; omega
  clear h2
  go_enter Tryz.func19, Tryz.ntmps19
  go_wp2_with ((with_reducible refine wpList_make_full _ (o := ⟨some 38, .makeSlice 44 (.tmp 37) (.tmp 37), _, _, _, _⟩) rfl (.tmp 37) (.tmp 37) 44 rfl w.heap.size 85 i1 _ 5 Tryz.underlying44 ji jz0 jz1 .i64 .i64 _ _ nb rfl rfl rfl rfl hb1.out hb2.out (Nat.le_refl _) ?_); intro w1 ho1 hg1)
  obtain ⟨_, cL, hrL, hsL, _, _, htL⟩ := own_row ho1
  have HL0 : Hid (Row w1 w.heap.size 85 cL) := hrL
  have HLs : Hid (cL.size = nb * 5) := hsL
  have HLc : Hid (∀ j, j < nb → ∀ m v, five[m]? = some v → cL[j * 5 + m]? = some v) := fun j hj m v hv => by
    have h := made5 nb j m v hj hv
    have h5 : m < 5 := by have := (List.getElem?_eq_some_iff.1 hv).1; simpa [five] using this
    have e : cL = madeCells (.agg #[.slice none 0 0, .int .i64 0, .bool false, .bool false, .bool false] : Value).cells (nb * 5) := by
      apply Array.ext'
      rw [← htL, List.take_of_length_le (by simp [hsL])]
    rw [e]; exact h
  have HBw : Hid (Below w.heap.size w w1) := (Below.refl _ _).grown hg1 (Nat.le_refl _) (by intro k hk; cases hk)
  have hlt1 : w.heap.size < w1.heap.size := hrL.lt
  obtain ⟨wB, hwB⟩ : ∃ wB, wB = w1.alloc (.cells #[.bool false, .int .i64 0, .int .i64 0, .slice (some ⟨w.heap.size, 0, none⟩) nb nb, .int .i64 pages, .int .i64 chunks, .int .i64 0, .int .i64 0, .int .i64 0] 46) := ⟨_, rfl⟩
  have HN0 : Hid (NewIs w wB w1.heap.size w.heap.size nb pages chunks 0 (fun _ => 0)) := by
    refine ⟨by rw [hwB]; exact Row.fresh _ _ _, ⟨cL, by rw [hwB]; exact hrL.alloc _, hsL, fun j hj m v hv => HLc.out j hj m v ?_⟩, fun j hj => by omega, fun j m hj => by omega, by rw [hwB]; exact HBw.out.alloc HBw.out.size _⟩
    rw [if_neg (by omega), if_neg (by omega)] at hv
    exact hv
  rw [← hwB]
  have hbsz : w.heap.size ≤ w1.heap.size := Nat.le_of_lt hlt1
  have HLt := Lib.hid hbsz
  generalize w1.heap.size = F at *
  clear hwB HLc HLs HL0 HBw hrL hsL htL ho1 hg1 hlt1 hbsz
  go_loopw [48] (fun iv wr => ∃ (i : Nat) (P : Nat → Nat), iv = .int .i64 i ∧ i ≤ nb ∧ NewIs w wr F w.heap.size nb pages chunks i P) (fun i _ => nb - (intOf i).toNat)
  case atStart => exact ⟨0, _, rfl, by omega, HN0.out⟩
  case round =>
    obtain ⟨i, P, rfl, hi, hN⟩ := hrel
    have HN := Lib.hid hN
    clear hN HN0
    by_cases hlt : i < nb
    · obtain ⟨cur, hrL, hs, hc⟩ := HN.out.bl
      have HrL := Lib.hid hrL
      have k1 : ∀ t : Kept wr [w.heap.size], t.u.cell? ⟨F, 3, none⟩ = some (.slice (some ⟨w.heap.size, 0, none⟩) nb nb) := fun t => by
        rw [(t.h.row HN.out.row (by simp; exact HN.out.row.ne_type hrL (by decide))).cell]; rfl
      have hii : (i : Int) < nb := by omega
      have HSt := Lib.hid (HN.out.step hlt HLt.out (Nat.le_refl _))
      obtain ⟨v1, q1⟩ := Row.some ((show Row wr.drew w.heap.size _ cur from hrL).alloc (.cells (madeCells #[.slice none 0 0] pages) 22)) (i := i * 5) (by omega)
      have q2 := Row.frozen ((show Row wr.drew w.heap.size _ cur from hrL).alloc (.cells (madeCells #[.slice none 0 0] pages) 22)) (i * 5)
      have hwi : IntKind.i64.wrap ((i : Int) + 1) = (i : Int) + 1 := by rw [IntKind.wrap_i64]; omega
      clear hrL hs hc
      go_wp2
      (refine region_kept ([w.heap.size]) [0, 1, 2, 3, 4, 5] [6, 7, 8, 9] (by kernel_rfl) (by kernel_rfl) (fun _ _ _ _ _ h => h) ?_; simp only [List.filterMap_cons, List.getElem?_cons_zero, List.getElem?_cons_succ, List.filterMap_nil]; (repeat ((show wpQuiet _ _ _ _ (_ :: _) _); go_big_quiet_step (fail))); refine wpQuiet_nil ?_)
      refine wpSeqS_step (wpList_make_row _ rfl (.tmp 56) (.tmp 56) 30 rfl 22 i2 _ Tryz.underlying30 ki kz0 kz1 rfl .i64 .i64 pages rfl rfl hb3.out (by omega) ?_)
      have HTz : Hid (Turns wr (wr.drew.alloc (.cells (madeCells #[.slice none 0 0] pages) 22)) [w.heap.size]) := ((Turns.refl _ _).drew).alloc _
      refine wpList_nil (outQ_normal HTz.out ?_)
      clear k1
      generalize wr.drew.alloc (.cells (madeCells #[.slice none 0 0] pages) 22) = wz at HSt HTz q1 q2 ⊢
      refine wpSeqS_step ?_
      go_wp2_with fail
      refine outQ_normal HTz.out ?_
      refine wpSeqS_step ?_
      go_wp2_with fail
      refine outQ_normal HTz.out ?_
      refine wpSeqS_last ?_
      go_wp2
      go_roundw
      case rel => exact ⟨i + 1, _, by go_num, by omega, HSt.out⟩
      case measure => simp [intOf]; omega
    · obtain rfl : i = nb := by omega
      have HD := Lib.hid (HN.out.done HLt.out (Nat.le_refl _) h1 H2.out h3)
      go_wp2
      refine bodyPost_ret (v := .tuple #[.pointer (some ⟨F, 0, none⟩), .int .i64 0]) (by simp [results, Tryz.results19, go_sem]) rfl ⟨F, _, P, rfl, HD.out, HN.out.below⟩
end Go.Proofs.YthjomnaejhehoaaGreatDoor

namespace Go.Proofs.YthjomnaejhehoaaGreatDoor
open Go.RowKit
set_option linter.unusedVariables false
set_option linter.unusedSimpArgs false

section
variable {w : World} {B F L : Nat} {P : Nat → Nat} {S : Fl}
set_option maxHeartbeats 1000000 in
theorem Program_failed (h : FlIs w B F L P S) (k : Nat) (hk : k < S.nb) (ho : S.off = false) (hf : (S.b k).failed = true) (hn : (S.b k).next < S.has k) (A : Option Addr) (rc : Nat) :
    Calls Tryz.prog 135 #[.pointer (some ⟨F, 0, none⟩), .int .i64 k, .int .i64 ((S.b k).next : Nat), .slice A (73 * S.chunks) rc] w fun e w' => e = .returned (.int .i64 7) ∧ w = w' := by
  have HBl := Lib.hid (block_in h k hk)
  have hpg0 := page_in h k hk ((S.b k).next : Nat)
  rw [decide_eq_true (by omega)] at hpg0
  have HPg := Lib.hid hpg0
  have hmy0 := may_in h k hk true
  rw [ho, hf] at hmy0
  have HMy : Hid (Calls Tryz.prog 137 #[.pointer (some ⟨F, 0, none⟩), .pointer (some ⟨L, k * 5, none⟩), .bool true] w fun e w' => e = .returned (.int .i64 7) ∧ w = w') := hmy0
  obtain ⟨_, _, _, c5⟩ := h.fcell
  have hch := h.ok.chunks
  obtain ⟨n, hn73⟩ : ∃ n, n = 73 * S.chunks := ⟨_, rfl⟩
  rw [← hn73]
  have hw : IntKind.i64.wrap ((S.chunks : Int) * 73) = (n : Int) := by rw [IntKind.wrap_i64]; omega
  generalize S.chunks = ch at *
  generalize (S.b k).next = m at *
  clear h hpg0 hmy0 ho hf hn hn73
  go_enter Tryz.func135, Tryz.ntmps135
  go_wp2_with fail
  refine HBl.out.mono ?_
  rintro e w' ⟨rfl, rfl⟩
  clear HBl
  go_wp2_with fail
  refine HPg.out.mono ?_
  rintro e w' ⟨rfl, rfl⟩
  clear HPg
  go_wp2_with fail
  refine HMy.out.mono ?_
  rintro e w' ⟨rfl, rfl⟩
  clear HMy
  go_wp2
  go_ret
  exact ⟨rfl, rfl⟩
end
end Go.Proofs.YthjomnaejhehoaaGreatDoor

namespace Go.Proofs.YthjomnaejhehoaaGreatDoor
open Go.RowKit
set_option linter.unusedVariables false
set_option linter.unusedSimpArgs false

section
variable {w : World} {B F L : Nat} {P : Nat → Nat} {S : Fl}
theorem nil_shape (b : Nat) (w : World) : (nilAhead 340 31 (.pointer (some ⟨b, 0, none⟩)) "Shape").run Tryz.prog w = .ok (some false) w := by kernel_rfl
theorem met_shape (b : Nat) (w : World) : (method 340 31 (.pointer (some ⟨b, 0, none⟩)) "Shape").run Tryz.prog w = .ok (37, .pointer (some ⟨b, 0, none⟩)) w := by kernel_rfl
theorem there_any (h : FlIs w B F L P S) (M : Nat) (k : Int) (hc : w.cell? ⟨M, 0, none⟩ = some (.iface 31 (.pointer (some ⟨F, 0, none⟩)))) : Calls Tryz.prog 59 #[.pointer (some ⟨M, 0, none⟩), .int .i64 k] w fun e w' => e = .returned (.bool (decide (0 ≤ k ∧ k < S.nb))) ∧ ∃ n, w' = w.drewN n := by
  have HS := Lib.hid (Shape_any h)
  have hn := nil_shape F
  have hm := met_shape F
  generalize S.nb = nb at *
  generalize S.pages = pages at *
  generalize S.chunks = ch at *
  clear h
  by_cases h0 : 0 ≤ k
  · have h0' : ¬ k < 0 := by omega
    by_cases h1 : k < nb
    · rw [decide_eq_true ⟨h0, h1⟩]
      go_enter Tryz.func59, Tryz.ntmps59
      go_wp2_with fail
      refine HS.out.mono ?_
      rintro e w1 ⟨rfl, n, rfl⟩
      clear HS hn hm
      go_wp2
      go_ret
      exact ⟨rfl, n, rfl⟩
    · rw [decide_eq_false (by omega)]
      go_enter Tryz.func59, Tryz.ntmps59
      go_wp2_with fail
      refine HS.out.mono ?_
      rintro e w1 ⟨rfl, n, rfl⟩
      clear HS hn hm
      go_wp2
      go_ret
      exact ⟨by rw [decide_eq_false (by omega)]; rfl, n, rfl⟩
  · rw [decide_eq_false (by omega)]
    go_enter Tryz.func59, Tryz.ntmps59
    go_wp2_with fail
    refine HS.out.mono ?_
    rintro e w1 ⟨rfl, n, rfl⟩
    clear HS hn hm
    go_wp2
    go_ret
    exact ⟨rfl, n, rfl⟩
end
end Go.Proofs.YthjomnaejhehoaaGreatDoor
namespace Go.Proofs.YthjomnaejhehoaaGreatDoor
open Go.RowKit
set_option linter.unusedVariables false
set_option linter.unusedSimpArgs false

section
theorem nil_off (b : Nat) (w : World) : (nilAhead 340 31 (.pointer (some ⟨b, 0, none⟩)) "Off").run Tryz.prog w = .ok (some false) w := by kernel_rfl
theorem met_off (b : Nat) (w : World) : (method 340 31 (.pointer (some ⟨b, 0, none⟩)) "Off").run Tryz.prog w = .ok (33, .pointer (some ⟨b, 0, none⟩)) w := by kernel_rfl
theorem nil_next (b : Nat) (w : World) : (nilAhead 340 31 (.pointer (some ⟨b, 0, none⟩)) "Next").run Tryz.prog w = .ok (some false) w := by kernel_rfl
theorem met_next (b : Nat) (w : World) : (method 340 31 (.pointer (some ⟨b, 0, none⟩)) "Next").run Tryz.prog w = .ok (23, .pointer (some ⟨b, 0, none⟩)) w := by kernel_rfl
theorem nil_one (b : Nat) (w : World) : (nilAhead 340 31 (.pointer (some ⟨b, 0, none⟩)) "One").run Tryz.prog w = .ok (some false) w := by kernel_rfl
theorem met_one (b : Nat) (w : World) : (method 340 31 (.pointer (some ⟨b, 0, none⟩)) "One").run Tryz.prog w = .ok (134, .pointer (some ⟨b, 0, none⟩)) w := by kernel_rfl
theorem nil_program (b : Nat) (w : World) : (nilAhead 340 31 (.pointer (some ⟨b, 0, none⟩)) "Program").run Tryz.prog w = .ok (some false) w := by kernel_rfl
theorem met_program (b : Nat) (w : World) : (method 340 31 (.pointer (some ⟨b, 0, none⟩)) "Program").run Tryz.prog w = .ok (135, .pointer (some ⟨b, 0, none⟩)) w := by kernel_rfl
theorem nil_read (b : Nat) (w : World) : (nilAhead 340 31 (.pointer (some ⟨b, 0, none⟩)) "Read").run Tryz.prog w = .ok (some false) w := by kernel_rfl
theorem met_read (b : Nat) (w : World) : (method 340 31 (.pointer (some ⟨b, 0, none⟩)) "Read").run Tryz.prog w = .ok (136, .pointer (some ⟨b, 0, none⟩)) w := by kernel_rfl
theorem nil_erase (b : Nat) (w : World) : (nilAhead 340 31 (.pointer (some ⟨b, 0, none⟩)) "Erase").run Tryz.prog w = .ok (some false) w := by kernel_rfl
theorem met_erase (b : Nat) (w : World) : (method 340 31 (.pointer (some ⟨b, 0, none⟩)) "Erase").run Tryz.prog w = .ok (132, .pointer (some ⟨b, 0, none⟩)) w := by kernel_rfl
theorem nil_mode (b : Nat) (w : World) : (nilAhead 340 31 (.pointer (some ⟨b, 0, none⟩)) "Mode").run Tryz.prog w = .ok (some false) w := by kernel_rfl
theorem met_mode (b : Nat) (w : World) : (method 340 31 (.pointer (some ⟨b, 0, none⟩)) "Mode").run Tryz.prog w = .ok (133, .pointer (some ⟨b, 0, none⟩)) w := by kernel_rfl
variable {w : World} {B F L : Nat} {P : Nat → Nat} {S : Fl}
theorem FlIs.drewN (h : FlIs w B F L P S) (n : Nat) : FlIs (w.drewN n) B F L P S := h.keep ((Turns.refl w []).drewN n)
theorem Pages_in (h : FlIs w B F L P S) (M : Nat) (k : Nat) (hk : k < S.nb) (hc : w.cell? ⟨M, 0, none⟩ = some (.iface 31 (.pointer (some ⟨F, 0, none⟩)))) : Calls Tryz.prog 77 #[.pointer (some ⟨M, 0, none⟩), .int .i64 k] w fun e w' => e = .returned (.int .i64 (S.has k : Nat)) ∧ ∃ n, w' = w.drewN n := by
  have HS := Lib.hid (Shape_any h)
  have HO : Hid (∀ n, Calls Tryz.prog 134 #[.pointer (some ⟨F, 0, none⟩), .int .i64 k] (w.drewN n) fun e w' => e = .returned (.bool (S.b k).one) ∧ w.drewN n = w') := fun n => One_in (h.drewN n) k hk
  have hn := nil_shape F
  have hm := met_shape F
  have hn2 := nil_one F
  have hm2 := met_one F
  have hp := h.ok.pages
  have hcn : ∀ n, (w.drewN n).cell? ⟨M, 0, none⟩ = some (.iface 31 (.pointer (some ⟨F, 0, none⟩))) := fun n => hc
  unfold Fl.has hasOf
  generalize S.nb = nb at *
  generalize S.pages = pages at *
  generalize S.chunks = ch at *
  generalize (S.b k).one = o at *
  obtain ⟨m, hm0⟩ : ∃ m, m = pages / 2 := ⟨_, rfl⟩
  rw [← hm0]
  have hd : (pages : Int) / 2 = (m : Int) := by omega
  clear h hm0
  cases o
  all_goals
    go_enter Tryz.func77, Tryz.ntmps77
    go_wp2_with fail
    refine HS.out.mono ?_
    rintro e w1 ⟨rfl, n, rfl⟩
    clear HS hn hm
    go_wp2_with fail
    refine (HO.out n).mono ?_
    rintro e w1 ⟨rfl, rfl⟩
    clear HO
    go_wp2
    go_ret
    exact ⟨rfl, n, rfl⟩
end
end Go.Proofs.YthjomnaejhehoaaGreatDoor
