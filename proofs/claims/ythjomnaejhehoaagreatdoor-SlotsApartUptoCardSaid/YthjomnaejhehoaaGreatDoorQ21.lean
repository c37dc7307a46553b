/- What follows is laid together from several texts of mine, in their order. -/
import Derived.Test.YthjomnaejhehoaaGreatDoorQ20
import Derived.Stop.Asserts
import Derived.LaidEql
import Derived.Lib.IfaceEq
import Derived.RowKitTokens
import Derived.Laws.BytesString

namespace Go.Proofs.YthjomnaejhehoaaGreatDoor
open Go.RowKit Go.MapKept Go.ChangeMaps Go.Extern.Stop Go.Stop Go.Extern
set_option linter.unusedVariables false
set_option linter.unusedSimpArgs false

def erCmp (t : TypeId) : Sem Value := do Extern.Rtype.noPackHeld "Comparable" t; pure (.bool (← typeInfo t).comparable)
theorem er_typeOf (v : Value) (w : World) : (Extern.ReflectliteType.typeOf #[.iface 48 v]).run Tryz.prog w = .ok (.iface 130 (.agg #[.pointer (some ⟨1, 48, none⟩)])) w := by kernel_rfl
theorem er_comparable (w : World) : ((Extern.ReflectliteType.method erCmp) #[.agg #[.pointer (some ⟨1, 48, none⟩)]]).run Tryz.prog w = .ok (.bool true) w := by kernel_rfl
theorem er_method (v : Value) (w : World) : (Go.method 340 130 v "Comparable").run Tryz.prog w = .ok (153, v) w := by kernel_rfl
theorem er_noIs (v : Value) (xT : TypeId) (w : World) : (Instr.typeAssert (.iface 96 v) xT 132 true).run Tryz.prog w = .ok (.tuple #[.nilIface, .bool false]) w := run_typeAssert_lacksB Tryz.underlying132 (by kernel_rfl) (by kernel_rfl) v xT w
theorem er_unwrap (v : Value) (xT : TypeId) (w : World) : (Instr.typeAssert (.iface 96 v) xT 135 true).run Tryz.prog w = .ok (.tuple #[.iface 96 v, .bool true]) w := run_typeAssert_hasB Tryz.underlying135 (by kernel_rfl) v xT w
theorem er_methodUnwrap (b : Nat) (w : World) : (Go.method 340 96 (.pointer (some ⟨b, 0, none⟩)) "Unwrap").run Tryz.prog w = .ok (149, .pointer (some ⟨b, 0, none⟩)) w := by kernel_rfl
theorem er_nilUnwrap (b : Nat) (w : World) : (nilAhead 340 96 (.pointer (some ⟨b, 0, none⟩)) "Unwrap").run Tryz.prog w = .ok (some false) w := by kernel_rfl
theorem er_same (i : Int) (w : World) : (binOp .eql 66 (.iface 48 (.int .i64 i)) (.iface 48 (.int .i64 i))).run Tryz.prog w = .ok (.bool true) w := by
  have := Go.Lib.run_eql_iface_int (P := Tryz.prog) w (t := 66) (tx := 48) (k := .i64) i i Tryz.underlying66 (by kernel_rfl) Tryz.underlying48
  simpa using this
theorem er_types (b : Nat) (i : Int) (w : World) : (binOp .eql 66 (.iface 96 (.pointer (some ⟨b, 0, none⟩))) (.iface 48 (.int .i64 i))).run Tryz.prog w = .ok (.bool false) w :=
  run_eql_iface_types (P := Tryz.prog) 96 48 (.pointer (some ⟨b, 0, none⟩)) (.int .i64 i) Tryz.underlying66 (by decide) w
set_option maxRecDepth 100000 in
set_option maxHeartbeats 1000000 in
theorem is_any (v : Value) (i : Int) (w : World) (h : FailIs w v i) :
    Calls Tryz.prog 22 #[v, .iface 48 (.int .i64 i)] w fun e w' => e = .returned (.bool true) ∧ w' = w := by
  obtain ⟨E, rfl, hr⟩ := h
  have h1 := hr.cell 0
  simp only [List.getElem?_toArray, List.getElem?_cons_zero] at h1
  have h8 := @run_callFunc_extern Tryz.prog 43 _ Extern.ReflectliteType.typeOf Tryz.func43 (by kernel_rfl) (by kernel_rfl) (by kernel_rfl) (by kernel_rfl)
  have h32 := @run_callFunc_extern Tryz.prog 153 _ (Extern.ReflectliteType.method erCmp) Tryz.func153 (by kernel_rfl) (by kernel_rfl) (by kernel_rfl) (by kernel_rfl)
  have tT := er_typeOf
  have cT := er_comparable
  have mR := er_method
  have nE := er_noIs
  have uE := er_unwrap
  have mU := er_methodUnwrap E
  have nU := er_nilUnwrap E
  have heq := er_same i
  have hty := er_types E i
  clear hr
  go_enter Tryz.func22, Tryz.ntmps22
  go_wp2
  refine wp_loop_rounds 2 ?_
  rw [rounds_succ]
  go_wp2
  rw [rounds_succ]
  go_wp2
  go_ret
  exact ⟨rfl, rfl⟩
end Go.Proofs.YthjomnaejhehoaaGreatDoor

namespace Go.Proofs.YthjomnaejhehoaaGreatDoor
open Go.RowKit Go.MapKept Go.ChangeMaps
set_option linter.unusedVariables false
set_option linter.unusedSimpArgs false

section
variable {w : World} {B M Q F L n : Nat} {P : Nat → Nat} {S : Fl} {bad : Nat → Bool} {md : Int}
theorem Count_any (h : FlIs w B F L P S) : Calls Tryz.prog 30 #[.pointer (some ⟨F, 0, none⟩)] w fun e w' => (∃ s r x : Int, e = .returned (.tuple #[.int .i64 s, .int .i64 S.progs, .int .i64 r, .int .i64 x])) ∧ Below w.heap.size w w' := by
  obtain ⟨s, r, x, hr⟩ := h.row
  have c2 : w.cell? ⟨F, 2, none⟩ = some (.int .i64 s) := hr.cell 2
  have c6 : w.cell? ⟨F, 6, none⟩ = some (.int .i64 S.progs) := hr.cell 6
  have c7 : w.cell? ⟨F, 7, none⟩ = some (.int .i64 r) := hr.cell 7
  have c8 : w.cell? ⟨F, 8, none⟩ = some (.int .i64 x) := hr.cell 8
  have L2 : Hid (∀ w', Turns w w' [] → Calls Tryz.prog 53 #[.pointer (some ⟨F, 2, none⟩)] w' fun e w'' => e = .returned (.int .i64 s) ∧ w' = w'') := fun w' ht => Load_any F 2 s w' (ht.cell c2 (by simp))
  have L6 : Hid (∀ w', Turns w w' [] → Calls Tryz.prog 53 #[.pointer (some ⟨F, 6, none⟩)] w' fun e w'' => e = .returned (.int .i64 S.progs) ∧ w' = w'') := fun w' ht => Load_any F 6 S.progs w' (ht.cell c6 (by simp))
  have L7 : Hid (∀ w', Turns w w' [] → Calls Tryz.prog 53 #[.pointer (some ⟨F, 7, none⟩)] w' fun e w'' => e = .returned (.int .i64 r) ∧ w' = w'') := fun w' ht => Load_any F 7 r w' (ht.cell c7 (by simp))
  have L8 : Hid (∀ w', Turns w w' [] → Calls Tryz.prog 53 #[.pointer (some ⟨F, 8, none⟩)] w' fun e w'' => e = .returned (.int .i64 x) ∧ w' = w'') := fun w' ht => Load_any F 8 x w' (ht.cell c8 (by simp))
  generalize S.progs = pg at *
  clear h hr c2 c6 c7 c8
  go_enter Tryz.func30, Tryz.ntmps30
  go_wp2
  (refine region_kept ([]) [0, 1, 2, 3, 5, 6, 7, 9, 10, 11, 13, 14, 15] [4, 8, 12, 16, 17, 18, 19, 20] (by kernel_rfl) (by kernel_rfl) (fun _ _ _ _ _ h => h) ?_; simp only [List.filterMap_cons, List.getElem?_cons_zero, List.getElem?_cons_succ, List.filterMap_nil]; (repeat ((show wpQuiet _ _ _ _ (_ :: _) _); go_big_quiet_step (fail))); refine wpQuiet_nil ?_)
  refine wpSeqS_step ?_
  go_wp2_with fail
  refine (L2.out w.drew ⟨rfl, rfl, rfl, Nat.le_refl _, fun _ _ _ => rfl⟩).mono ?_
  rintro e w1 ⟨rfl, rfl⟩
  go_wp2_with fail
  refine outQ_normal ⟨rfl, rfl, rfl, Nat.le_refl _, fun _ _ _ => rfl⟩ ?_
  refine wpSeqS_step ?_
  go_wp2_with fail
  refine (L6.out w.drew ⟨rfl, rfl, rfl, Nat.le_refl _, fun _ _ _ => rfl⟩).mono ?_
  rintro e w1 ⟨rfl, rfl⟩
  go_wp2_with fail
  refine outQ_normal ⟨rfl, rfl, rfl, Nat.le_refl _, fun _ _ _ => rfl⟩ ?_
  refine wpSeqS_step ?_
  go_wp2_with fail
  refine (L7.out w.drew ⟨rfl, rfl, rfl, Nat.le_refl _, fun _ _ _ => rfl⟩).mono ?_
  rintro e w1 ⟨rfl, rfl⟩
  go_wp2_with fail
  refine outQ_normal ⟨rfl, rfl, rfl, Nat.le_refl _, fun _ _ _ => rfl⟩ ?_
  refine wpSeqS_step ?_
  go_wp2_with fail
  refine (L8.out w.drew ⟨rfl, rfl, rfl, Nat.le_refl _, fun _ _ _ => rfl⟩).mono ?_
  rintro e w1 ⟨rfl, rfl⟩
  go_wp2_with fail
  refine outQ_normal ⟨rfl, rfl, rfl, Nat.le_refl _, fun _ _ _ => rfl⟩ ?_
  refine wpSeqS_step ?_
  go_wp2
  refine outQ_normal ⟨rfl, rfl, rfl, Nat.le_refl _, fun _ _ _ => rfl⟩ ?_
  refine wpSeqS_step ?_
  go_wp2
  refine outQ_normal ⟨rfl, rfl, rfl, Nat.le_refl _, fun _ _ _ => rfl⟩ ?_
  refine wpSeqS_step ?_
  go_wp2
  refine outQ_normal ⟨rfl, rfl, rfl, Nat.le_refl _, fun _ _ _ => rfl⟩ ?_
  refine wpSeqS_last ?_
  go_wp2
  refine bodyPost_ret (v := .tuple #[.int .i64 s, .int .i64 pg, .int .i64 r, .int .i64 x]) (by simp [results, Tryz.results30, go_sem]) rfl ⟨⟨_, _, _, rfl⟩, ⟨rfl, rfl, rfl, Nat.le_refl _, fun _ _ => rfl⟩⟩
theorem Failed_any (h : FlIs w B F L P S) (k : Nat) (hk : k < S.nb) : Calls Tryz.prog 35 #[.pointer (some ⟨F, 0, none⟩), .int .i64 k] w fun e w' => e = .returned (.bool (S.b k).failed) ∧ w = w' := by
  have HB := Lib.hid (block_in h k hk)
  obtain ⟨_, _, _, _, d4⟩ := h.cells hk
  generalize (S.b k).failed = f at *
  clear h
  go_enter Tryz.func35, Tryz.ntmps35
  go_wp2_with fail
  refine HB.out.mono ?_
  rintro e w' ⟨rfl, rfl⟩
  clear HB
  go_wp2
  go_ret
  exact ⟨rfl, rfl⟩
theorem PAPost.low {w w2 w' : World} {St Bk Vb : Nat} {l : List Nat} {c : Nat} {a : Int} {q : Nat} {V : Vals} {ks : List Int} {vss : List (List Nat)} {e : Ending} (hb : Below w.heap.size w w2) (h : PAPost w2 B M Q F L P S n St Bk Vb l c a q V ks vss e w') : PAPost w B M Q F L P S n St Bk Vb l c a q V ks vss e w' :=
  ⟨fun h1 => ⟨(h.1 h1).1, hb.trans ((h.1 h1).2.mono hb.size)⟩, fun h1 h2 => ⟨(h.2.1 h1 h2).1, hb.trans ((h.2.1 h1 h2).2.mono hb.size)⟩, fun h1 h2 => by
    obtain ⟨w1, Nb, h3, h4, h5, h6⟩ := h.2.2 h1 h2
    exact ⟨w1, Nb, hb.trans (h3.mono hb.size), Nat.le_trans hb.size h4, h5, h6⟩⟩
set_option maxRecDepth 100000 in
set_option maxHeartbeats 2000000 in
theorem Put_any (h : MedIs w B M Q F L P S n bad md) {St Bk Vb : Nat} {l : List Nat} {c : Nat} {a : Int} {q : Nat} {V : Vals} (st : StIs w B St Bk Vb M l c a q V) (hVQ : Vb ≠ Q)
    (k : Int) (Ay : Option Addr) (cy : Nat) (y : List Nat) (hy : Cells8 w Ay y) (h256 : (∀ u ∈ y, u < 256) ∧ y.length ≤ 1048576)
    (hV : OkV V) (hVm : ∀ k x, V k = some x → x.length ≤ 1048576) (ho : S.off = false) (hbad : ∀ k, bad k = true → (S.b k).failed = true) (hl : ∀ k ∈ l, k < S.nb) (hg : 2 ≤ (good bad l).length) (hq : q + 1 < 9223372036854775808) :
    Calls Tryz.prog 14 #[.pointer (some ⟨St, 0, none⟩), .int .i64 k, .slice Ay y.length cy] w (PAPost w B M Q F L P S n St Bk Vb l c a q V [k] [y]) := by
  obtain ⟨m, hm⟩ : ∃ m, m = y.length := ⟨_, rfl⟩
  obtain ⟨w2, hw2⟩ : ∃ w2, w2 = (w.alloc (.cells #[.int .i64 k] 3)).alloc (.cells #[.slice Ay m cy] 22) := ⟨_, rfl⟩
  have HB2 : Hid (Below w.heap.size w w2) := by unfold Hid; rw [hw2]; (repeat (first | (with_reducible refine Below.drew ?_) | (with_reducible refine below_drewN0 ?_ _) | ((with_reducible refine Below.setCell ?_ ?_ _); rotate_left; focus (first | omega | (simp; done) | (simp; omega) | (simp at *; omega))) | ((with_reducible refine Below.alloc ?_ ?_ _); rotate_left; focus (first | omega | (simp; done) | (simp; omega) | (simp at *; omega))) | (with_reducible exact Below.refl _ _)))
  have hk2 : CellsI w2 (some ⟨w.heap.size, 0, none⟩) [k] := fun i hi => ⟨_, _, rfl, by
    obtain rfl : i = 0 := by simp at hi; omega
    rw [hw2]
    exact ((Row.fresh w 3 #[.int .i64 k]).alloc _).cell 0⟩
  have hv2 : SvIs w2 (some ⟨w.heap.size + 1, 0, none⟩) [y] := fun i hi => by
    obtain rfl : i = 0 := by simp at hi; omega
    refine ⟨_, _, Ay, cy, rfl, ?_, fun t ht => ?_⟩
    · have := Row.fresh (w.alloc (.cells #[.int .i64 k] 3)) 22 #[.slice Ay m cy]
      rw [World.size_alloc, ← hw2] at this
      show w2.cell? ⟨w.heap.size + 1, 0, none⟩ = some (.slice Ay y.length cy)
      rw [← hm]
      exact this.cell 0
    · obtain ⟨b', off', e, hc⟩ := hy t ht
      exact ⟨b', off', e, keep_below HB2.out _ _ hc⟩
  have HPA := Lib.hid (PutAll_any (h.below HB2.out) (st.below HB2.out) hVQ _ 1 [k] hk2 (by simp) _ 1 [y] hv2 (by simp) (fun x hx => by rw [List.mem_singleton.1 hx]; exact h256) hV hVm ho hbad hl hg hq)
  have HW := Lib.hid hw2
  simp only [List.length_cons, List.length_nil, Nat.zero_add] at HPA
  rw [← hm]
  clear h st hVQ hy h256 hV hVm ho hbad hl hg hq hm hk2 hv2 hw2
  go_enter Tryz.func14, Tryz.ntmps14
  go_wp2_with fail
  rw [← HW.out]
  refine HPA.out.mono ?_
  rintro e w3 hp
  have hx : ∃ v, e = .returned v := by
    obtain ⟨h1, h2, h3⟩ := hp
    by_cases hok : okKs [k] [y].length
    · by_cases hf : FitV n (putV V [k] [y] [k].length)
      · obtain ⟨_, _, _, _, _, _, _, _, _, ⟨_, _, _, rfl, _⟩ | ⟨_, _, _, _, rfl, _⟩ | ⟨rfl, _⟩⟩ := h3 hok hf <;> exact ⟨_, rfl⟩
      · exact ⟨_, (h2 hok hf).1⟩
    · exact ⟨_, (h1 hok).1⟩
  obtain ⟨v, rfl⟩ := hx
  have HP := Lib.hid (hp.low HB2.out)
  clear HPA hp
  go_wp2
  go_ret
  exact HP.out
end
end Go.Proofs.YthjomnaejhehoaaGreatDoor

namespace Go.Proofs.YthjomnaejhehoaaGreatDoor
open Go.RowKit Go.MapKept Go.ChangeMaps
set_option linter.unusedVariables false
set_option linter.unusedSimpArgs false

theorem textOf_data (l : List Nat) : (textOf l).data.toList = l.map UInt8.ofNat := by
  have key : ∀ (m : List Int) (r : ByteArray), (m.foldl (fun r n => r.push (UInt8.ofNat n.toNat)) r).data.toList = r.data.toList ++ m.map fun n => UInt8.ofNat n.toNat := by
    intro m
    induction m with
    | nil => intro r; simp
    | cons x m ih => intro r; rw [List.foldl_cons, ih]; simp
  unfold textOf
  rw [key]
  simp
theorem textOf_size (d : List Nat) : (textOf d).size = d.length := by
  have := congrArg List.length (textOf_data d)
  rw [List.length_map] at this
  rw [← this]; rfl
theorem textOf_inj {a b : List Nat} (ha : ∀ x ∈ a, x < 256) (hb : ∀ x ∈ b, x < 256) (h : textOf a = textOf b) : a = b := by
  have h1 : a.map UInt8.ofNat = b.map UInt8.ofNat := by rw [← textOf_data, ← textOf_data, h]
  have h2 : ∀ (l : List Nat), (∀ x ∈ l, x < 256) → (l.map UInt8.ofNat).map UInt8.toNat = l := by
    intro l hl
    rw [List.map_map]
    conv => rhs; rw [← List.map_id l]
    apply List.map_congr_left
    intro x hx
    have := hl x hx
    simp [Function.comp, UInt8.toNat_ofNat', Nat.mod_eq_of_lt this]
  rw [← h2 a ha, ← h2 b hb, h1]
theorem text_ne {a b : ByteArray} (h : ¬ a = b) : (a.toList == b.toList) = false := by
  rw [beq_eq_false_iff_ne]
  intro e
  rw [ByteArray.toList_eq, ByteArray.toList_eq] at e
  exact h (ByteArray.ext (Array.toList_inj.1 e))
theorem SlIs.lies {w : World} {B : Nat} {A : Option Addr} {n c : Nat} {l : List Nat} (h : SlIs w B (.slice A n c) l) (hn : n = l.length) : Cells8 w A l := by
  subst hn
  intro i hi
  obtain ⟨g, cc, e, _⟩ := own_at (show w.ownsRow B _ 1 _ l.length _ from h) (by omega)
  injection e with e _ _
  subst e
  exact ⟨g, 0, rfl, by rw [Nat.zero_add]; exact own_get h i _ (intsV_get .u8 l i hi)⟩
/-- Texts by key, as a map. -/
def HasIs (w : World) (Q : Nat) (V : Vals) : Prop :=
  ∃ f, MapIs Tryz.prog 3 w Q (keysOf V).length f ∧ ∀ key v, f key = some v ↔ ∃ (k : Nat) (l : List Nat), k < 32 ∧ V k = some l ∧ key = .int .i64 k ∧ v = .string (textOf l)
theorem ms_under : Tryz.prog.underlying 34 = some (.map 3 9) := Tryz.underlying34
theorem zero_text (w : World) : (zeroValue 9).run Tryz.prog w = .ok (.string (textOf [])) w := by kernel_rfl
section
variable {w w' : World} {Q : Nat} {V : Vals}
theorem HasIs.lt (h : HasIs w Q V) : Q < w.heap.size := by obtain ⟨f, h, _⟩ := h; exact h.lt
theorem HasIs.turns {T : List Nat} (h : HasIs w Q V) (ht : Turns w w' T) (hb : Q ∉ T) : HasIs w' Q V := by obtain ⟨f, h, h2⟩ := h; exact ⟨f, h.turns ht hb, h2⟩
theorem HasIs.below (h : HasIs w Q V) (hb : Below w.heap.size w w') : HasIs w' Q V := h.turns (Turns.of_below hb []) (by simp)
theorem HasIs.fresh (w : World) : HasIs (w.alloc (.map #[] 0)) w.heap.size fun _ => none := ⟨_, MapIs.fresh _ _ w, by simp⟩
theorem HasIs.not_row (h : HasIs w Q V) (t : TypeId) (cs : Array Value) : ¬ Row w Q t cs := by
  obtain ⟨f, ⟨es, clock, hb, _⟩, _⟩ := h
  intro hr
  unfold Row at hr
  rw [hr] at hb; cases hb
theorem HasIs.len (h : HasIs w Q V) (ty : TypeId) : (Builtin.len_ #[34] ty #[.map (some Q)]).run Tryz.prog w = .ok (goInt (keysOf V).length) w := by
  obtain ⟨f, h1, _⟩ := h
  exact h1.len ms_under
theorem HasIs.look (h : HasIs w Q V) {k : Nat} (hk : k < 32) : (Instr.lookup 34 (.map (some Q)) (.int .i64 k) true).run Tryz.prog w = .ok (.tuple #[.string (textOf (valOf V k)), .bool (V k).isSome]) w := by
  obtain ⟨f, h1, h2⟩ := h
  have hl := h1.look intKeyed ms_under (zero_text w) (int_key (k := k) (by omega))
  unfold valOf
  cases hv : V k with
  | none =>
    have hf : f (.int .i64 k) = none := by
      cases hf : f (.int .i64 k) with
      | none => rfl
      | some v =>
        obtain ⟨k', l, _, h4, h5, _⟩ := (h2 _ _).1 hf
        obtain rfl := nk_inj h5
        rw [hv] at h4; cases h4
    rw [hf] at hl
    exact hl.2
  | some l =>
    rw [(h2 (.int .i64 k) (.string (textOf l))).2 ⟨k, l, hk, hv, rfl, rfl⟩] at hl
    exact hl.2
theorem HasIs.set (h : HasIs w Q V) {k : Nat} (hk : k < 32) (l : List Nat) :
    ∃ w', (Instr.mapUpdate 34 (.map (some Q)) (.int .i64 k) (.string (textOf l))).run Tryz.prog w = .ok () w' ∧ HasIs w' Q (updV V k l) ∧ Turns w w' [Q] := by
  obtain ⟨f, h1, h2⟩ := h
  obtain ⟨w', hr, hm, hg⟩ := h1.update (val := .string (textOf l)) intKeyed ms_under (int_key (k := k) (by omega))
  have hsome : (f (.int .i64 k)).isSome = (V k).isSome := by
    cases hV : V k with
    | none =>
      cases hf : f (.int .i64 k) with
      | none => rfl
      | some u =>
        obtain ⟨k', l', _, h4, h5, _⟩ := (h2 _ _).1 hf
        obtain rfl := nk_inj h5
        rw [hV] at h4; cases h4
    | some l' => rw [(h2 (.int .i64 k) (.string (textOf l'))).2 ⟨k, l', hk, hV, rfl, rfl⟩]; rfl
  refine ⟨w', hr, ⟨_, by rw [keysOf_upd V k l hk, ← hsome]; exact hm, fun key u => ?_⟩, Turns.of_grown hg⟩
  by_cases he : key = .int .i64 k
  · subst he
    rw [updK_same]
    constructor
    · rintro h; injection h with h; exact ⟨k, l, hk, by simp [updV], rfl, h.symm⟩
    · rintro ⟨k', l', _, h4, h5, rfl⟩
      obtain rfl := nk_inj h5
      simp [updV] at h4
      rw [h4]
  · rw [updK_ne _ _ _ he, h2]
    constructor
    · rintro ⟨k', l', h1, h3, h4, h5⟩
      refine ⟨k', l', h1, ?_, h4, h5⟩
      unfold updV
      rw [if_neg (fun e => he (by rw [h4, e]))]; exact h3
    · rintro ⟨k', l', h1, h3, h4, h5⟩
      refine ⟨k', l', h1, ?_, h4, h5⟩
      unfold updV at h3
      rwa [if_neg (fun e => he (by rw [h4, e]))] at h3
end
theorem vals_none {V : Vals} (hV : OkV V) {k : Nat} (hk : k ∉ keysOf V) : V k = none := by
  rcases Nat.lt_or_ge k 32 with h | h
  · cases hv : V k with
    | none => rfl
    | some l => exact absurd ((mem_keysOf V k).2 ⟨h, by rw [hv]; rfl⟩) hk
  · exact hV.key k h
/-- The same values are told. -/
theorem vals_eq {V V2 : Vals} (hV : OkV V) (hV2 : OkV V2) (hn : (keysOf V).length = (keysOf V2).length) (h : ∀ k ∈ keysOf V, V2 k = V k) : V = V2 := by
  have hsub : ∀ k ∈ keysOf V, k ∈ keysOf V2 := fun k hk => by
    obtain ⟨a, b⟩ := (mem_keysOf V k).1 hk
    exact (mem_keysOf V2 k).2 ⟨a, by rw [h k hk]; exact b⟩
  have hall : ∀ k ∈ keysOf V2, k ∈ keysOf V := fun k hk => Classical.byContradiction fun hne => by
    have h1 := nodup_le (l := k :: keysOf V) (m := keysOf V2) (List.nodup_cons.2 ⟨hne, (keysOf_lt V).imp fun h => Nat.ne_of_lt h⟩) (fun i hi => by
      rcases List.mem_cons.1 hi with e | hi
      · rw [e]; exact hk
      · exact hsub i hi)
    simp at h1; omega
  funext k
  by_cases hk : k ∈ keysOf V
  · exact (h k hk).symm
  · have h1 : V k = none := vals_none hV hk
    have h2 : V2 k = none := vals_none hV2 (fun h => hk (hall k h))
    rw [h1, h2]
end Go.Proofs.YthjomnaejhehoaaGreatDoor

namespace Go.Proofs.YthjomnaejhehoaaGreatDoor
open Go.RowKit Go.MapKept Go.ChangeMaps
set_option linter.unusedVariables false
set_option linter.unusedSimpArgs false

set_option maxRecDepth 100000 in
set_option maxHeartbeats 4000000 in
theorem same_any {w : World} {B St Bk Vb M : Nat} {l : List Nat} {c : Nat} {a : Int} {q : Nat} {V : Vals} (h : StIs w B St Bk Vb M l c a q V) (hV : OkV V) (hVm : ∀ k x, V k = some x → x.length ≤ 100000) (Q : Nat) (V2 : Vals) (hQ : HasIs w Q V2) (hV2 : OkV V2) :
    Calls Tryz.prog 15 #[.pointer (some ⟨St, 0, none⟩), .map (some Q)] w fun e w' => (∃ b : Bool, e = .returned (.bool b) ∧ (b = true ↔ V = V2)) ∧ Below w.heap.size w w' := by
  have HKe := Lib.hid (Keys_any h)
  obtain ⟨n, hn⟩ : ∃ n, n = (keysOf V).length := ⟨_, rfl⟩
  obtain ⟨n2, hn2⟩ : ∃ n2, n2 = (keysOf V2).length := ⟨_, rfl⟩
  have HN := Lib.hid (And.intro hn hn2)
  have hn32 : n ≤ 32 := by rw [hn]; exact told_le (V := V) (ts := keysOf V) ((keysOf_lt V).imp fun h => Nat.ne_of_lt h) (fun k hk => hk)
  have HH := Lib.hid (And.intro h (And.intro hV (And.intro hV2 hVm)))
  have HQ := Lib.hid hQ
  rw [← hn] at HKe
  clear h hV hVm hQ hV2 hn hn2
  go_enter Tryz.func15, Tryz.ntmps15
  go_wp2_with fail
  refine HKe.out.mono ?_
  rintro e w1 ⟨v, rfl, ho, hb⟩
  obtain ⟨A1, c1, rfl, hc1, _⟩ := own_shape ho
  have HO := Lib.hid ho
  have HB := Lib.hid hb
  have hlen := fun ty => (HQ.out.below hb).len ty
  rw [← HN.out.2] at hlen
  clear HKe ho hb
  by_cases hnn : n = n2
  · have hne : ((n : Int) != (n2 : Int)) = false := by simp; omega
    subst hnn
    go_wp2
    clear hlen
    go_loopw [6] (fun i wr => ∃ j : Nat, i = .int .i64 j ∧ j ≤ n ∧ Below w1.heap.size w1 wr ∧ ∀ t, t < j → V2 ((keysOf V).getD t 0) = V ((keysOf V).getD t 0)) (fun i _ => n - (intOf i).toNat)
    case atStart => exact ⟨0, rfl, by omega, Below.refl _ _, fun t ht => by omega⟩
    case round =>
      obtain ⟨j, rfl, hj, hb, hall⟩ := hrel
      have HBr := Lib.hid hb
      have HAll := Lib.hid hall
      have HBw : Hid (Below w.heap.size w wr) := HB.out.trans (hb.mono HB.out.size)
      clear hb hall
      by_cases hjn : j < n
      · obtain ⟨k, hk⟩ : ∃ k, k = (keysOf V).getD j 0 := ⟨_, rfl⟩
        have hkm : k ∈ keysOf V := by rw [hk]; exact getD_in _ j (by rw [← HN.out.1]; exact hjn)
        obtain ⟨hk32, hks⟩ := (mem_keysOf V k).1 hkm
        obtain ⟨g, cc, hA, hg1, _⟩ := own_at HO.out (by omega)
        injection hA with hA _ hA2
        subst hA hA2
        have hcell : ∀ i, i < n → w1.cell? ⟨g, i, none⟩ = some (.int .i64 ((keysOf V).getD i 0 : Nat)) := fun i hi => own_get HO.out i _ (natsV_get _ i (by rw [← HN.out.1]; exact hi))
        have hcw : ∀ W, Below w1.heap.size w1 W → ∀ i, i < n → W.cell? ⟨g, i, none⟩ = some (.int .i64 ((keysOf V).getD i 0 : Nat)) := fun W hW i hi => keep_below hW _ _ (hcell i hi)
        have HCw := Lib.hid hcw
        have ck := hcw wr HBr.out j hjn
        rw [← hk] at ck
        have HGe := Lib.hid (Get_in (HH.out.1.below HBw.out) k hk32 (HH.out.2.2.2 k))
        have HK := Lib.hid hk
        rw [hks] at HGe
        clear hcell hcw hk hkm
        go_wp2_with fail
        refine HGe.out.mono ?_
        rintro e w2 ⟨A', m', rfl, hsl, hb2⟩
        have hcv : ∀ q', (convert 22 9 (.slice A' (valOf V k).length m')).run Tryz.prog (w2.drewN q') = .ok (.string (textOf (valOf V k))) (w2.drewN q') := fun q' => conv_text (SlIs.lies hsl rfl)
        have HB2 : Hid (Below w1.heap.size w1 w2) := HBr.out.trans (hb2.mono HBr.out.size)
        have hlook := (HQ.out.below (HB.out.trans (HB2.out.mono HB.out.size))).look hk32
        have c2 := HCw.out w2 HB2.out j hjn
        rw [← HK.out] at c2
        have HX : Hid (V k = some (valOf V k) ∧ ∀ u ∈ valOf V k, u < 256) := by
          obtain ⟨x, hx⟩ := Option.isSome_iff_exists.1 hks
          have e : valOf V k = x := by unfold valOf; rw [hx]; rfl
          rw [e]; exact ⟨hx, HH.out.2.1.byte k x hx⟩
        have hm1 : 0 < j → w2.cell? ⟨g, j - 1, none⟩ = some (.int .i64 ((keysOf V).getD (j - 1) 0 : Nat)) ∧ ¬ ((k : Int) ≤ (((keysOf V).getD (j - 1) 0 : Nat) : Int)) := fun h0 => by
          refine ⟨HCw.out w2 HB2.out (j - 1) (by omega), ?_⟩
          have h1 := List.pairwise_iff_getElem.1 (keysOf_lt V) (j - 1) j (by rw [← HN.out.1]; omega) (by rw [← HN.out.1]; omega) (by omega)
          have h2 : (keysOf V).getD (j - 1) 0 = (keysOf V)[j - 1]'(by rw [← HN.out.1]; omega) := by rw [List.getD_eq_getElem?_getD, List.getElem?_eq_getElem (by rw [← HN.out.1]; omega)]; rfl
          have h3 : (keysOf V).getD j 0 = (keysOf V)[j]'(by rw [← HN.out.1]; omega) := by rw [List.getD_eq_getElem?_getD, List.getElem?_eq_getElem (by rw [← HN.out.1]; omega)]; rfl
          rw [HK.out, h3, h2]; omega
        have HM1 := Lib.hid hm1
        clear HGe hsl hb2 hm1 ck
        cases h2k : V2 k with
        | none =>
          have HNo : Hid (¬ V = V2) := fun e => by subst e; rw [h2k] at hks; cases hks
          rw [h2k] at hlook
          have hv2 : valOf V2 k = [] := by unfold valOf; rw [h2k]; rfl
          rw [hv2] at hlook
          have HBz : Hid (∀ q', Below w.heap.size w (w2.drewN q')) := fun q' => below_drewN0 (HB.out.trans (HB2.out.mono HB.out.size)) q'
          clear h2k hks hv2
          generalize valOf V k = x at *
          generalize x.length = ln at *
          generalize textOf x = tx at *
          generalize textOf [] = ty at *
          go_wp2
          go_quiet (fail)
          go_wp2
          go_ret
          exact ⟨⟨false, rfl, by simp [HNo.out]⟩, HBz.out _⟩
        | some y =>
          have hv2 : valOf V2 k = y := by unfold valOf; rw [h2k]; rfl
          have hy := HH.out.2.2.1.byte k y h2k
          rw [h2k, hv2] at hlook
          by_cases hxy : valOf V k = y
          · have HAll2 : Hid (∀ t, t < j + 1 → V2 ((keysOf V).getD t 0) = V ((keysOf V).getD t 0)) := fun t ht => by
              rcases Nat.lt_or_eq_of_le (Nat.le_of_lt_succ ht) with h | rfl
              · exact HAll.out t h
              · rw [← HK.out, h2k, HX.out.1, hxy]
            have hxe : ((textOf (valOf V k)).toList == (textOf y).toList) = true := by rw [hxy]; simp
            have HBz : Hid (∀ q', Below w1.heap.size w1 (w2.drewN q')) := fun q' => below_drewN0 HB2.out q'
            clear h2k hks hv2 hy hxy
            generalize valOf V k = x at *
            generalize x.length = ln at *
            generalize textOf x = tx at *
            generalize textOf y = ty at *
            by_cases h0 : j = 0
            · subst h0
              go_wp2
              go_quiet (fail)
              go_wp2
              go_roundw
              case rel => exact ⟨1, by go_num, by omega, HBz.out _, HAll2.out⟩
              case measure => simp [intOf]; omega
            · have h0' : 0 < j := by omega
              have h0d : decide (0 < j) = true := decide_eq_true h0'
              have h0e : decide (0 < (j : Int)) = true := decide_eq_true (by omega)
              obtain ⟨p1, p2⟩ := HM1.out (by omega)
              have e1 : (j : Int) - 1 = ((j - 1 : Nat) : Int) := by omega
              have hj1 : j - 1 < n := by omega
              generalize (keysOf V).getD (j - 1) 0 = k1 at *
              go_wp2
              go_quiet (fail)
              go_wp2
              go_roundw
              case rel => exact ⟨j + 1, by go_num, by omega, HBz.out _, HAll2.out⟩
              case measure => simp [intOf]; omega
          · have HNo : Hid (¬ V = V2) := fun e => by subst e; rw [HX.out.1] at h2k; injection h2k with h2k; exact hxy h2k
            have hxe : ((textOf (valOf V k)).toList == (textOf y).toList) = false := text_ne (fun e => hxy (textOf_inj HX.out.2 hy e))
            have HBz : Hid (∀ q', Below w.heap.size w (w2.drewN q')) := fun q' => below_drewN0 (HB.out.trans (HB2.out.mono HB.out.size)) q'
            clear h2k hks hv2 hy hxy
            generalize valOf V k = x at *
            generalize x.length = ln at *
            generalize textOf x = tx at *
            generalize textOf y = ty at *
            go_wp2
            go_quiet (fail)
            go_wp2
            go_ret
            exact ⟨⟨false, rfl, by simp [HNo.out]⟩, HBz.out _⟩
      · obtain rfl : j = n := by omega
        have HYes : Hid (V = V2) := vals_eq HH.out.2.1 HH.out.2.2.1 (by have := HN.out; omega) (fun k hk => by
          obtain ⟨t, ht, e⟩ := List.getElem_of_mem hk
          have h1 := HAll.out t (by have := HN.out; omega)
          rw [List.getD_eq_getElem?_getD, List.getElem?_eq_getElem ht] at h1
          simp only [Option.getD_some] at h1
          rw [e] at h1; exact h1)
        go_wp2
        go_ret
        exact ⟨⟨true, rfl, by simp [HYes.out]⟩, HBw.out⟩
  · have hne : ((n : Int) != (n2 : Int)) = true := by simp; omega
    have HNo : Hid (¬ V = V2) := fun e => by subst e; have := HN.out; omega
    go_wp2
    go_ret
    exact ⟨⟨false, rfl, by simp [HNo.out]⟩, HB.out⟩
end Go.Proofs.YthjomnaejhehoaaGreatDoor

namespace Go.Proofs.YthjomnaejhehoaaGreatDoor
open Go.RowKit Go.MapKept Go.ChangeMaps
set_option linter.unusedVariables false
set_option linter.unusedSimpArgs false

/-- An answer yes or no. -/
def BoolPost (w : World) (p : Prop) (e : Ending) (w' : World) : Prop := (∃ b : Bool, e = .returned (.bool b) ∧ (b = true ↔ p)) ∧ Below w.heap.size w w'
set_option maxRecDepth 100000 in
set_option maxHeartbeats 4000000 in
theorem may_any (w : World) (Ak : Option Addr) (ck : Nat) (ks : List Int) (hks : CellsI w Ak ks) (hk20 : ks.length ≤ 100000) :
    Calls Tryz.prog 29 #[.slice Ak ks.length ck] w (BoolPost w (OkUp ks ks.length)) := by
  obtain ⟨nk, hnk⟩ : ∃ nk, nk = ks.length := ⟨_, rfl⟩
  have HN := Lib.hid hnk
  have HKs := Lib.hid hks
  obtain ⟨w1, hw1⟩ : ∃ w1, w1 = w.alloc (.map #[] 0) := ⟨_, rfl⟩
  have HB1 : Hid (Below w.heap.size w w1) := by unfold Hid; rw [hw1]; exact (Below.refl _ _).alloc (Nat.le_refl _) _
  have HS1 : Hid (BadIs w1 w.heap.size 32 (fun _ => false)) := by unfold Hid; rw [hw1]; exact BadIs.fresh w 32
  have HW := Lib.hid hw1
  have hmm := @run_makeMap Tryz.prog
  rw [← hnk] at hk20 ⊢
  clear hks hw1 hnk
  go_enter Tryz.func29, Tryz.ntmps29
  go_wp2
  rw [← HW.out]
  clear hmm
  obtain ⟨Sn, hSn⟩ : ∃ Sn, Sn = w.heap.size := ⟨_, rfl⟩
  have HSn := Lib.hid hSn
  rw [← hSn] at HS1 ⊢
  clear hSn
  go_loopw [4] (fun i wr => ∃ (j : Nat), i = .int .i64 j ∧ j ≤ nk ∧ OkUp ks j ∧ BadIs wr Sn 32 (seenF ks j) ∧ Turns w1 wr [Sn]) (fun i _ => nk - (intOf i).toNat)
  case atStart => exact ⟨0, rfl, by omega, OkUp.zero ks, HS1.out, Turns.refl _ _⟩
  case round =>
    obtain ⟨j, rfl, hj, hup, hs, ht⟩ := hrel
    have HUp := Lib.hid hup
    have HSr := Lib.hid hs
    have HTr := Lib.hid ht
    have HBr : Hid (Below w.heap.size w wr) := ht.below HB1.out HB1.out.size (fun g hg => by have := HSn.out; rw [List.mem_singleton.1 hg]; omega)
    clear hup hs ht HS1
    by_cases hjn : j < nk
    · obtain ⟨kb, ko, hAk, hkc⟩ := HKs.out j (by rw [← HN.out]; exact hjn)
      have ckj := keep_below HBr.out _ _ hkc
      obtain ⟨x, hx⟩ : ∃ x, x = ks.getD j 0 := ⟨_, rfl⟩
      have HX := Lib.hid hx
      rw [← hx] at ckj
      subst hAk
      clear hkc hx
      by_cases h0 : x < 0
      · have hno : Hid (¬ OkUp ks nk) := fun hk => by
          have := hk.1 j hjn
          rw [← HX.out] at this; omega
        go_wp2
        go_ret
        exact ⟨⟨false, rfl, by simp [hno.out]⟩, HBr.out⟩
      · by_cases h32 : 31 < x
        · have hno : Hid (¬ OkUp ks nk) := fun hk => by
            have := hk.1 j hjn
            rw [← HX.out] at this; omega
          go_wp2
          go_ret
          exact ⟨⟨false, rfl, by simp [hno.out]⟩, HBr.out⟩
        · obtain ⟨k, rfl⟩ : ∃ k : Nat, x = (k : Int) := ⟨x.toNat, by omega⟩
          have hk32 : k < 32 := by omega
          have hXk : (ks.getD j 0).toNat = k := by rw [← HX.out]; simp
          have hlook := HSr.out.look (by omega) hk32
          cases hsn : seenF ks j k with
          | true =>
            have hno : Hid (¬ OkUp ks nk) := fun hk => by
              have := HUp.out.not_seen (hk.mono (show j + 1 ≤ nk from hjn))
              rw [hXk, hsn] at this
              cases this
            rw [hsn] at hlook
            clear hsn hXk
            go_wp2
            go_ret
            exact ⟨⟨false, rfl, by simp [hno.out]⟩, HBr.out⟩
          | false =>
            have HUp2 : Hid (OkUp ks (j + 1)) := HUp.out.step (by rw [← HX.out]; omega) (by rw [← HX.out]; omega) (by rw [hXk]; exact hsn)
            rw [hsn] at hlook
            obtain ⟨w3, hr3, hs3, ht3⟩ := HSr.out.set (by omega) hk32
            have HS3 : Hid (BadIs w3 Sn 32 (seenF ks (j + 1))) := by unfold Hid seenF; rw [hXk]; exact hs3
            have HT3 : Hid (Turns w1 w3 [Sn]) := HTr.out.trans ht3 (fun g hg => .inl hg)
            clear hs3 ht3 hsn hXk
            go_wp2
            go_roundw
            case rel => exact ⟨j + 1, by go_num, by omega, HUp2.out, HS3.out, HT3.out⟩
            case measure => simp [intOf]; omega
    · obtain rfl : j = nk := by omega
      have hyes : Hid (OkUp ks j) := HUp.out
      go_wp2
      go_ret
      exact ⟨⟨true, rfl, by simp [hyes.out]⟩, HBr.out⟩
set_option maxRecDepth 100000 in
set_option maxHeartbeats 4000000 in
theorem size_any (w : World) (Q : Nat) (V : Vals) (h : HasIs w Q V) (hVm : ∀ k x, V k = some x → x.length ≤ 1048576) :
    Calls Tryz.prog 32 #[.map (some Q)] w fun e w' => e = .returned (.int .i64 ((lenV V + 4 * (keysOf V).length : Nat) : Int)) ∧ Below w.heap.size w w' := by
  obtain ⟨f, hmap, hf⟩ := h
  obtain ⟨cn, hcn⟩ : ∃ cn, cn = (keysOf V).length := ⟨_, rfl⟩
  have HMap := Lib.hid hmap
  have HF := Lib.hid hf
  have HVm := Lib.hid hVm
  clear hmap hf hVm
  rw [← hcn] at HMap
  have HCn := Lib.hid hcn
  clear hcn
  go_enter Tryz.func32, Tryz.ntmps32
  go_wp2_with (at_range; refine wpList_range_told rfl _ 34 rfl 3 9 ms_under Q cn f rfl HMap.out ?_; intro w7 hit7 hb7)
  go_frame
  have HIt7 := Lib.hid hit7
  have HB7 := Lib.hid hb7
  obtain ⟨r, hr⟩ : ∃ r, r = w.heap.size := ⟨_, rfl⟩
  have HR := Lib.hid hr
  rw [← hr] at HIt7 ⊢
  clear hr hit7 hb7 HMap
  go_loopw [3] (fun v wr => ∃ (ts : List Nat) (cnt : Nat), v = .int .i64 ((sumOf V ts + 4 * ts.length : Nat) : Int) ∧ ToldIs Tryz.prog 3 wr Q r f (ts.map fun (k : Nat) => Value.int .i64 (k : Int)) cnt ∧ ts.Nodup ∧ (∀ k ∈ ts, k ∈ keysOf V) ∧ Below w.heap.size w wr) (fun _ wr => wr.rangeLeft Q r)
  case atStart => exact ⟨[], _, rfl, HIt7.out, List.nodup_nil, by simp, HB7.out⟩
  case round =>
    obtain ⟨ts, cnt, rfl, hit, hnd, hin, hb⟩ := hrel
    have HIt := Lib.hid hit
    have HTs := Lib.hid (And.intro hnd hin)
    have HB := Lib.hid hb
    have hsum : sumOf V ts + 4 * ts.length ≤ 33554432 + 128 := by
      have h1 := sumOf_le (ts := ts) HVm.out
      have h2 := told_le hnd hin
      have h3 : 1048576 * ts.length ≤ 1048576 * 32 := Nat.mul_le_mul_left _ h2
      omega
    obtain ⟨s, hs⟩ : ∃ s, s = sumOf V ts + 4 * ts.length := ⟨_, rfl⟩
    have HSu := Lib.hid hs
    rw [← hs] at hsum ⊢
    clear HIt7 HB7 hit hnd hin hb hs
    go_wp2_with (at_next; refine wpList_next_told rfl _ rfl 3 Q r f _ cnt rfl HIt.out ?_ ?_)
    · intro h0 hall
      have HSumm : Hid (s = lenV V + 4 * (keysOf V).length) := by
        have h1 : sumOf V ts = lenV V := by
          refine sumOf_all HTs.out.1 HTs.out.2 fun k hk => ?_
          obtain ⟨h32, hsm⟩ := (mem_keysOf V k).1 hk
          obtain ⟨x, hx⟩ := Option.isSome_iff_exists.1 hsm
          have h5 := hall _ _ ((HF.out (.int .i64 k) (.string (textOf x))).2 ⟨k, x, h32, hx, rfl, rfl⟩)
          obtain ⟨i, hi, e⟩ := h5
          rw [← nk_inj e]; exact hi
        have h2 : ts.length = (keysOf V).length := by
          have hp : ts.Perm (keysOf V) := (List.perm_ext_iff_of_nodup HTs.out.1 ((keysOf_lt V).imp fun h => Nat.ne_of_lt h)).2 fun k => ⟨HTs.out.2 k, fun hk => by
            obtain ⟨h32, hsm⟩ := (mem_keysOf V k).1 hk
            obtain ⟨x, hx⟩ := Option.isSome_iff_exists.1 hsm
            have h5 := hall _ _ ((HF.out (.int .i64 k) (.string (textOf x))).2 ⟨k, x, h32, hx, rfl, rfl⟩)
            obtain ⟨i, hi, e⟩ := h5
            rw [← nk_inj e]; exact hi⟩
          exact hp.length_eq
        unfold Hid
        rw [HSu.out, h1, h2]
      clear h0 hall HIt
      go_wp2
      go_ret
      exact ⟨by rw [← HSumm.out]; rfl, HB.out⟩
    · intro key v w8 cnt8 hfk hnk hit8 hlt8 hg8 hen
      obtain ⟨k, x, hk32, hVk, rfl, rfl⟩ := (HF.out key v).1 hfk
      have hln : x.length ≤ 1048576 := HVm.out k x hVk
      have HTs2 : Hid ((k :: ts).Nodup ∧ (∀ i ∈ k :: ts, i ∈ keysOf V) ∧ sumOf V (k :: ts) + 4 * (k :: ts).length = x.length + 4 + s) := by
        refine ⟨List.nodup_cons.2 ⟨fun hm => hnk k hm rfl, HTs.out.1⟩, fun i hi => ?_, ?_⟩
        · rcases List.mem_cons.1 hi with e | hi
          · rw [e]; exact (mem_keysOf V k).2 ⟨hk32, by rw [hVk]; rfl⟩
          · exact HTs.out.2 i hi
        · rw [HSu.out]
          unfold sumOf valOf
          rw [List.map_cons, List.sum_cons, hVk, List.length_cons]
          simp only [Option.getD_some]
          omega
      have HB8 : Hid (Below w.heap.size w w8) := HB.out.grown hg8 HB.out.size (fun g hg => by
        have : r = g := by injection hg
        have := HR.out
        omega)
      have HIt8 := Lib.hid hit8
      have hle : w8.rangeLeft Q r = cnt8 := hit8.left_eq
      have hlt : wr.rangeLeft Q r = cnt := HIt.out.left_eq
      have HM : Hid (w8.rangeLeft Q r < wr.rangeLeft Q r) := by unfold Hid; omega
      have hsz : (textOf x).size = x.length := textOf_size x
      obtain ⟨ln, hl⟩ : ∃ ln, ln = x.length := ⟨_, rfl⟩
      obtain ⟨tx, htx⟩ : ∃ tx, tx = textOf x := ⟨_, rfl⟩
      rw [← hl] at HTs2 hln hsz
      rw [← htx] at hen hsz
      have hwr : IntKind.i64.wrap ((s : Int) + 4) = (s : Int) + 4 := by rw [IntKind.wrap_i64]; omega
      have hwr2 : IntKind.i64.wrap ((s : Int) + 4 + (ln : Int)) = ((ln + 4 + s : Nat) : Int) := by rw [IntKind.wrap_i64]; omega
      clear hfk hnk hit8 hlt8 hg8 hle hlt hVk hl htx
      go_wp2
      go_roundw
      case rel => exact ⟨k :: ts, cnt8, by rw [HTs2.out.2.2]; exact congrArg (Value.int .i64) (by first | exact hwr2 | (go_num)), HIt8.out, HTs2.out.1, HTs2.out.2.1, HB8.out⟩
      case measure => exact HM.out
end Go.Proofs.YthjomnaejhehoaaGreatDoor
