/- CacheOrders: maps from a sector to a text; the last write of a sector. -/
import Derived.Test.YtmppegknkeggcaaCacheU
import Derived.Test.YtmppegknkeggcaaMapRange
namespace Go.Proofs.Ytmppegknkeggcaa
open Go.RowKit
open Go.Maps (Keyed)
set_option linter.unusedVariables false
set_option linter.unusedSimpArgs false

theorem arr_rec : Try.prog.keyTypeAt (Try.prog.types.size + 1) 35 = true := by kernel_rfl
theorem arr_wide : (match Try.prog.underlying 35 with | some (.array _ _) | some (.struct _) => true | _ => false) = true := by kernel_rfl
theorem arr_row : (35 : TypeId) < Try.prog.types.size := of_decide_eq_true (by kernel_rfl)
theorem arrKeyed : Keyed Try.prog 35 := Keyed.of_law (deep_law_laid laidOut0 (m := 2) (by omega) arr_row (by kernel_rfl) arr_wide)
theorem arr_under : Try.prog.underlying 29 = some (.map 35 9) := Try.underlying29
theorem zero_string (w : World) : (zeroValue 9).run Try.prog w = .ok (.string .empty) w := by kernel_rfl
theorem keyOf_arr2 {P : Program} {k e : TypeId} (hu : P.underlying k = some (.array 2 e)) (he : P.underlying e = some (.int .i64)) (hk : P.keyType k = true) (hc : P.cellsOf k = 2) (hce : P.cellsOf e = 1)
    (hsz : 0 < P.types.size) {a s : Int} (ha : W64 a) (hs : W64 s) :
    keyOf P k (kv a s) = some (.string (keyBytes [.int .i64 a, .int .i64 s])) := by
  obtain ⟨m, hm⟩ : ∃ m, P.types.size = m + 1 := ⟨P.types.size - 1, by omega⟩
  unfold W64 at ha hs
  have hl : P.keyLits (m + 1 + 1) k [Value.int .i64 a, Value.int .i64 s] = some [.int .i64 a, .int .i64 s] := by
    simp [Program.keyLits, hu, hc, hce, he, ha, hs, List.range_succ]
  simp [keyOf, hu, hk, Value.formed, hc, Value.cells, hm, hl]
theorem keyOf_arr {a s : Int} (ha : W64 a) (hs : W64 s) : keyOf Try.prog 35 (kv a s) = some (.string (keyBytes [.int .i64 a, .int .i64 s])) :=
  keyOf_arr2 Try.underlying35 Try.underlying3 arr_rec (by kernel_rfl) int_cells types_pos ha hs

abbrev Fn := Int → Int → Option (List Nat)
def Fn.set (F : Fn) (a s : Int) (l : List Nat) : Fn := fun a' s' => if a' = a ∧ s' = s then some l else F a' s'
/-- What a map's function says of F. -/
def Tells (f : Value → Option Value) (F : Fn) : Prop :=
  (∀ key v, f key = some v → ∃ a s l, key = kv a s ∧ (W64 a ∧ W64 s) ∧ F a s = some l ∧ v = .string (textOf l)) ∧ (∀ a s l, F a s = some l → f (kv a s) = some (.string (textOf l)))
/-- Block b is a map from sectors to texts. -/
def SIs (w : World) (b n : Nat) (F : Fn) : Prop := ∃ f, MapIs Try.prog 35 w b n f ∧ Tells f F
theorem Tells.set {f : Value → Option Value} {F : Fn} (h : Tells f F) {a s : Int} (ha : W64 a) (hs : W64 s) (l : List Nat) : Tells (updK f (kv a s) (some (.string (textOf l)))) (F.set a s l) := by
  constructor
  · intro key v hv
    by_cases he : key = kv a s
    · subst he
      rw [updK_same] at hv; injection hv with hv; subst hv
      exact ⟨a, s, l, rfl, ⟨ha, hs⟩, by simp [Fn.set], rfl⟩
    · rw [updK_ne _ _ _ he] at hv
      obtain ⟨a', s', l', rfl, hw, hF, rfl⟩ := h.1 _ _ hv
      exact ⟨a', s', l', rfl, hw, by unfold Fn.set; rw [if_neg (fun e => he (by rw [e.1, e.2]))]; exact hF, rfl⟩
  · intro a' s' l' hF
    unfold Fn.set at hF
    by_cases he : a' = a ∧ s' = s
    · rw [if_pos he] at hF; injection hF with hF
      rw [he.1, he.2, updK_same, hF]
    · rw [if_neg he] at hF
      rw [updK_ne _ _ _ (fun e => he (kv_inj e))]
      exact h.2 _ _ _ hF
section
variable {w : World} {b n : Nat} {F : Fn}
theorem SIs.lt (h : SIs w b n F) : b < w.heap.size := by obtain ⟨f, h, _⟩ := h; exact h.lt
theorem SIs.turns {w' : World} {S : List Nat} (h : SIs w b n F) (ht : Turns w w' S) (hb : b ∉ S) : SIs w' b n F := by obtain ⟨f, h, h2⟩ := h; exact ⟨f, h.turns ht hb, h2⟩
theorem SIs.not_row (h : SIs w b n F) (t : TypeId) (cs : Array Value) : ¬ Row w b t cs := by
  obtain ⟨f, ⟨es, clock, hb, _⟩, _⟩ := h
  intro hr
  unfold Row at hr
  rw [hr] at hb; cases hb
theorem SIs.no_cell (h : SIs w b n F) (o : Nat) (sp : Option Nat) (v : Value) : w.cell? ⟨b, o, sp⟩ ≠ some v := by
  obtain ⟨f, ⟨es, clock, hb, _⟩, _⟩ := h
  simp [World.cell?, hb]
theorem SIs.fresh (w : World) : SIs (w.alloc (.map #[] 0)) w.heap.size 0 (fun _ _ => none) := ⟨_, MapIs.fresh _ _ w, by simp, by simp⟩
theorem SIs.set (h : SIs w b n F) {a s : Int} (ha : W64 a) (hs : W64 s) (l : List Nat) :
    ∃ w' n', (Instr.mapUpdate 29 (.map (some b)) (kv a s) (.string (textOf l))).run Try.prog w = .ok () w' ∧ SIs w' b n' (F.set a s l) ∧ w.grownBy w' (some b) := by
  obtain ⟨f, h, h2⟩ := h
  obtain ⟨w', hr, hm, hg⟩ := h.update (val := .string (textOf l)) arrKeyed arr_under (keyOf_arr ha hs)
  exact ⟨w', _, hr, ⟨_, hm, h2.set ha hs l⟩, hg⟩
theorem SIs.look (h : SIs w b n F) {a s : Int} (ha : W64 a) (hs : W64 s) {l : List Nat} (hF : F a s = some l) :
    (Instr.lookup 29 (.map (some b)) (kv a s) true).run Try.prog w = .ok (.tuple #[.string (textOf l), .bool true]) w := by
  obtain ⟨f, h, h2⟩ := h
  rw [(h.look arrKeyed arr_under (zero_string w) (keyOf_arr ha hs)).2, h2.2 a s l hF]; rfl
theorem SIs.len (h : SIs w b n F) (ty : TypeId) : (Builtin.len_ #[29] ty #[.map (some b)]).run Try.prog w = .ok (.int .i64 n) w := by
  obtain ⟨f, h, _⟩ := h
  exact h.len arr_under
theorem SIs.same {b' n' : Nat} (h : SIs w b n F) (h' : SIs w b' n' F) : n = n' := by
  obtain ⟨f, h, h2⟩ := h
  obtain ⟨f', h', h2'⟩ := h'
  have key : ∀ {f f' : Value → Option Value}, Tells f F → Tells f' F → ∀ key v, f key = some v → ∃ v', f' key = some v' := fun t t' key v hv => by
    obtain ⟨a, s, l, rfl, _, hF, _⟩ := t.1 key v hv
    exact ⟨_, t'.2 a s l hF⟩
  exact Nat.le_antisymm (h.keys_le h' (key h2 h2')) (h'.keys_le h (key h2' h2))
end

/-- The last write of a sector. -/
def lastOf (l : List It) : Fn := fun a s => (l.reverse.find? (dropP a s)).map It.l
theorem lastOf_nil : lastOf [] = fun _ _ => none := rfl
theorem lastOf_snoc (l : List It) (y : It) : lastOf (l ++ [y]) = (lastOf l).set y.a y.s y.l := by
  funext a s
  unfold lastOf Fn.set
  rw [List.reverse_append, List.reverse_singleton, List.singleton_append, List.find?_cons]
  by_cases h : a = y.a ∧ s = y.s
  · rw [if_pos h]
    have : dropP a s y = true := by simp [dropP, h.1, h.2]
    rw [this]; rfl
  · rw [if_neg h]
    have : dropP a s y = false := by
      simp only [dropP, decide_eq_false_iff_not]
      exact fun e => h ⟨e.1.symm, e.2.symm⟩
    rw [this]
theorem find_filter_or {p q : It → Bool} : ∀ (l : List It), (∀ x, p x = true → q x = true) → (l.filter q).find? p = l.find? p
  | [], _ => rfl
  | x :: l, h => by
    rw [List.find?_cons]
    cases hp : p x with
    | true => rw [List.filter_cons_of_pos (h x hp), List.find?_cons, hp]
    | false =>
      simp only
      cases hq : q x with
      | true => rw [List.filter_cons_of_pos hq, List.find?_cons, hp]; exact find_filter_or l h
      | false => rw [List.filter_cons_of_neg (by simp [hq])]; exact find_filter_or l h
theorem lastOf_put (outs items : List It) (g : Int) (x y : It) (hy : y.sees = x.sees) : lastOf (outs ++ ((items.filter fun z => !goneP x.a x.s g z) ++ [y])) = (lastOf (outs ++ items)).set x.a x.s x.l := by
  simp only [It.sees, Prod.mk.injEq] at hy
  obtain ⟨e1, e2, e3⟩ := hy
  rw [← List.append_assoc, lastOf_snoc, e1, e2, e3]
  funext a s
  unfold Fn.set
  by_cases h : a = x.a ∧ s = x.s
  · rw [if_pos h, if_pos h]
  · rw [if_neg h, if_neg h]
    unfold lastOf
    rw [List.reverse_append, List.reverse_append, List.find?_append, List.find?_append, ← List.filter_reverse, find_filter_or]
    intro z hz
    simp only [dropP, decide_eq_true_eq] at hz
    simp only [goneP, Bool.not_eq_true', decide_eq_false_iff_not]
    rintro ⟨_, h1, h2⟩
    exact h ⟨by rw [← h1]; exact hz.1.symm, by rw [← h2]; exact hz.2.symm⟩

/-- A cache, and the law's two maps. -/
structure OSt (w W : World) (C mb most ml mo : Nat) (A : Option Addr) (c nl no : Nat) (items : List It) (g : Int) (FL FO : Fn) : Prop where
  held : CHeld W w.heap.size C mb most A c items g
  last : SIs W ml nl FL
  out : SIs W mo no FO
  far : w.heap.size ≤ ml ∧ w.heap.size ≤ mo ∧ ml ≠ mo ∧ ml ≠ mb ∧ mo ≠ mb
  bel : Below w.heap.size w W
section
variable {w W : World} {C mb most ml mo c nl no : Nat} {A : Option Addr} {items : List It} {g : Int} {FL FO : Fn}
theorem OSt.off (h : OSt w W C mb most ml mo A c nl no items g FL FO) : (ml ∉ C :: mb :: blk A) ∧ (mo ∉ C :: mb :: blk A) := by
  have key : ∀ {m n : Nat} {F : Fn}, SIs W m n F → m ≠ mb → m ∉ C :: mb :: blk A := fun hs hne hm => by
    simp only [List.mem_cons] at hm
    rcases hm with rfl | rfl | hm
    · exact hs.not_row _ _ h.held.row
    · exact hne rfl
    · obtain ⟨_, cur, hr⟩ := h.held.own.block_row _ hm; exact hs.not_row _ _ hr
  exact ⟨key h.last h.far.2.2.2.1, key h.out h.far.2.2.2.2⟩
theorem OSt.below {W' : World} (h : OSt w W C mb most ml mo A c nl no items g FL FO) (hb : Below W.heap.size W W') : OSt w W' C mb most ml mo A c nl no items g FL FO :=
  ⟨h.held.below hb, h.last.turns (Turns.of_below hb []) (by simp), h.out.turns (Turns.of_below hb []) (by simp), h.far, h.bel.trans (hb.mono h.bel.size)⟩
theorem OSt.step {W' : World} {S : List Nat} {A2 : Option Addr} {c2 : Nat} {items2 : List It} {g2 : Int} (h : OSt w W C mb most ml mo A c nl no items g FL FO) (hh : CHeld W' w.heap.size C mb most A2 c2 items2 g2) (ht : Turns W W' S) (hS : ∀ k ∈ S, k ∈ C :: mb :: blk A) : OSt w W' C mb most ml mo A2 c2 nl no items2 g2 FL FO :=
  ⟨hh, h.last.turns ht (fun hm => h.off.1 (hS _ hm)), h.out.turns ht (fun hm => h.off.2 (hS _ hm)), h.far, ht.below h.bel h.bel.size (fun k hk => h.held.floor k (hS k hk))⟩
/-- A map's turn leaves all cells. -/
theorem SIs.cells {b n : Nat} {F : Fn} {W' : World} (h : SIs W b n F) (hg : W.grownBy W' (some b)) : ∀ p v, W.cell? p = some v → W'.cell? p = some v := fun p v hc => by
  refine (Turns.of_grown hg).cell hc (fun hm => ?_)
  simp at hm
  obtain ⟨pb, po, ps⟩ := p
  simp at hm; subst hm
  exact h.no_cell _ _ _ hc
theorem OSt.setLast (h : OSt w W C mb most ml mo A c nl no items g FL FO) {a s : Int} (ha : W64 a) (hs : W64 s) (l : List Nat) :
    ∃ W' nl', (Instr.mapUpdate 29 (.map (some ml)) (kv a s) (.string (textOf l))).run Try.prog W = .ok () W' ∧ OSt w W' C mb most ml mo A c nl' no items g (FL.set a s l) FO ∧ (∀ p v, W.cell? p = some v → W'.cell? p = some v) := by
  obtain ⟨W', n', hr, hm, hg⟩ := h.last.set ha hs l
  have ht := Turns.of_grown hg
  refine ⟨W', n', hr, ⟨h.held.turns ht (fun k hk => ?_), hm, h.out.turns ht (by simp; exact fun e => h.far.2.2.1 e.symm), h.far, ht.below h.bel h.bel.size (by simp; exact h.far.1)⟩, h.last.cells hg⟩
  simp at hk; subst hk
  exact ⟨h.off.1, fun cur => h.last.not_row _ _⟩
theorem OSt.setOut (h : OSt w W C mb most ml mo A c nl no items g FL FO) {a s : Int} (ha : W64 a) (hs : W64 s) (l : List Nat) :
    ∃ W' no', (Instr.mapUpdate 29 (.map (some mo)) (kv a s) (.string (textOf l))).run Try.prog W = .ok () W' ∧ OSt w W' C mb most ml mo A c nl no' items g FL (FO.set a s l) ∧ (∀ p v, W.cell? p = some v → W'.cell? p = some v) := by
  obtain ⟨W', n', hr, hm, hg⟩ := h.out.set ha hs l
  have ht := Turns.of_grown hg
  refine ⟨W', n', hr, ⟨h.held.turns ht (fun k hk => ?_), h.last.turns ht (by simp; exact h.far.2.2.1), hm, h.far, ht.below h.bel h.bel.size (by simp; exact h.far.2.1)⟩, h.out.cells hg⟩
  simp at hk; subst hk
  exact ⟨h.off.2, fun cur => h.out.not_row _ _⟩
theorem OSt.put (h : OSt w W C mb most ml mo A c nl no items g FL FO) (hn : items.length ≤ 900) (x : It) (hA : ArgW w x) (hl : x.l.length ≤ reachBytes) :
    Calls Try.prog 10 #[.pointer (some ⟨C, 0, none⟩), .agg #[.int .i64 x.a, .int .i64 x.s, .slice x.A x.l.length x.c]] W fun e W' =>
      ∃ Ao co out rest y A2 c2, e = .returned (.slice Ao (List.length out) co) ∧ y.sees = x.sees ∧ (items.filter fun z => !goneP x.a x.s g z) ++ [y] = out ++ rest ∧ rest.length ≤ most ∧ OSt w W' C mb most ml mo A2 c2 nl no rest g FL FO ∧ Sees W' Ao out := by
  have hA' := hA.keep (keep_below h.bel)
  refine (Put_any _ C mb most c A items g x.a x.s x.A x.l x.c W h.held hn hA.wa hA.ws hA.small hl (h.held.src hA'.src (fun h0 ad e => .inl (hA.lt h0 ad e)))).mono ?_
  rintro e W' ⟨Ao, co, A2, c2, out, rest, y, rfl, ⟨e1, e2, e3, e4⟩, hsp, hr, hh, _, hown, hdat, ht⟩
  exact ⟨Ao, co, out, rest, y, A2, c2, rfl, by rw [It.sees, It.sees, e1, e2, e3], hsp, hr.1, h.step hh ht (fun k hk => hk), Sees.of_own hown hdat⟩
theorem OSt.barrier (h : OSt w W C mb most ml mo A c nl no items g FL FO) (hg : 0 ≤ g ∧ g ≤ 1000000) :
    Calls Try.prog 11 #[.pointer (some ⟨C, 0, none⟩)] W fun e W' => (∃ v, e = .returned v) ∧ OSt w W' C mb most ml mo A c nl no items (barG items g) FL FO := by
  refine (Barrier_any _ C mb most c A items g W h.held hg).mono ?_
  rintro e W' ⟨hv, hh, ht⟩
  exact ⟨hv, h.step hh ht (by simp)⟩
theorem OSt.flush (h : OSt w W C mb most ml mo A c nl no items g FL FO) :
    Calls Try.prog 12 #[.pointer (some ⟨C, 0, none⟩)] W fun e W' => ∃ Ao co, e = .returned (.slice Ao items.length co) ∧ OSt w W' C mb most ml mo none 0 nl no [] g FL FO ∧ Sees W' Ao items := by
  refine (Flush_any _ C mb most c A items g W h.held).mono ?_
  rintro e W' ⟨Ao, co, rfl, hh, hown, hdat, ht⟩
  exact ⟨Ao, co, rfl, h.step hh ht (fun k hk => by simp at hk; simp; rcases hk with e | e <;> simp [e]), Sees.of_own hown hdat⟩
end
end Go.Proofs.Ytmppegknkeggcaa
