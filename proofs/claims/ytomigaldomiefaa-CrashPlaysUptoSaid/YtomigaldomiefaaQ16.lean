/- What follows is laid together from several texts of mine, in their order. -/
import Derived.Test.YtomigaldomiefaaQ6
import Derived.Test.YtomigaldomiefaaQ15
import Derived.Test.YtomigaldomiefaaQ14
import Derived.Test.YtomigaldomiefaaQ3
import Derived.Test.YtomigaldomiefaaQ8

namespace Go.Proofs.Ytomigaldomiefaa
open Go.RowKit Go.MapKept Go.ChangeMaps
set_option linter.unusedVariables false
set_option linter.unusedSimpArgs false

/-- None of a state's data lies in these blocks. -/
def NoDat (w : World) (T : List Nat) : Prop := ∀ g ∈ T, ∀ ty cs, Row w g ty cs → ty ≠ 5 ∧ ty ≠ 30 ∧ ty ≠ 23
section
variable {w w' : World} {B : Nat} {T : List Nat}
theorem own_nodat {e : TypeId} {size : Nat} {v : Value} {n : Nat} {xs : List Value} (he : e = 5 ∨ e = 30 ∨ e = 23) (h : w.ownsRow B e size v n xs) (ht : Turns w w' T) (hT : NoDat w T) : w'.ownsRow B e size v n xs :=
  ht.own h fun g hg hm => by
    obtain ⟨_, _, cs', hr'⟩ := own_blk h (k := g) (by unfold blkV; rw [hg]; simp)
    obtain ⟨h1, h2, h3⟩ := hT g hm _ _ hr'
    rcases he with e1 | e1 | e1
    · exact h1 e1
    · exact h2 e1
    · exact h3 e1
theorem DatIs.nodat {v : Value} {l : List Nat} (h : DatIs w B v l) (ht : Turns w w' T) (hT : NoDat w T) : DatIs w' B v l := ⟨h.small, h.short, own_nodat (.inl rfl) h.own ht hT⟩
theorem WrsIs.nodat {v : Value} {l : List Wr} (h : WrsIs w B v l) (ht : Turns w w' T) (hT : NoDat w T) : WrsIs w' B v l := by
  obtain ⟨its, h1, h2, h3⟩ := h
  exact ⟨its, h1, own_nodat (.inr (.inl rfl)) h2 ht hT, fun x hx => ⟨(h3 x hx).1, (h3 x hx).2.1, (h3 x hx).2.2.nodat ht hT⟩⟩
theorem GrsIs.nodat {v : Value} {l : List (List Wr)} (h : GrsIs w B v l) (ht : Turns w w' T) (hT : NoDat w T) : GrsIs w' B v l := by
  obtain ⟨vs, h1, h2⟩ := h
  exact ⟨vs, own_nodat (.inr (.inr rfl)) h1 ht hT, fun i g hg => by obtain ⟨u, h3, h4⟩ := h2 i g hg; exact ⟨u, h3, h4.nodat ht hT⟩⟩
theorem nodat_nil (w : World) : NoDat w [] := fun g hg => by cases hg
theorem NoDat.of_rows (h : ∀ g ∈ T, ∃ ty cs, Row w g ty cs ∧ ty ≠ 5 ∧ ty ≠ 30 ∧ ty ≠ 23) : NoDat w T := fun g hg ty cs hr => by
  obtain ⟨ty', cs', hr', h1, h2, h3⟩ := h g hg
  have e : ty = ty' := Classical.byContradiction fun hne => Row.ne_type hr hr' hne rfl
  rw [e]; exact ⟨h1, h2, h3⟩
end
/-- A list of bytes per place, each its own. -/
def DatsIs (w : World) (B X n : Nat) (h : Nat → List Nat) : Prop :=
  ∃ cs : Array Value, Row w X 22 cs ∧ cs.size = n ∧ ∀ p, p < n → ∃ A c, cs[p]? = some (.slice A (h p).length c) ∧ DatIs w B (.slice A (h p).length c) (h p)
/-- A bool per place. -/
def BitsIs (w : World) (L n : Nat) (b : Nat → Bool) : Prop := ∃ cs : Array Value, Row w L 4 cs ∧ cs.size = n ∧ ∀ p, p < n → cs[p]? = some (.bool (b p))
/-- A State of locketref21 in memory. -/
structure RfIs (w : World) (B R X L : Nat) (v3 v4 : Value) (S : Cr) : Prop where
  row : Row w R 85 #[.int .i64 S.sz, .slice (some ⟨X, 0, none⟩) S.n S.n, .slice (some ⟨L, 0, none⟩) S.n S.n, v3, v4]
  has : DatsIs w B X S.n S.base0
  loose : BitsIs w L S.n S.loose
  grs : GrsIs w B v3 S.groups
  fly : WrsIs w B v4 S.fly
  low : B ≤ R ∧ B ≤ X ∧ B ≤ L
  n : 1 ≤ S.n ∧ S.n ≤ 16384
  sz : 1 ≤ S.sz ∧ S.sz ≤ 512
  okH : ∀ p, p < S.n → (S.base0 p).length = S.sz
  okG : ∀ g ∈ S.groups, OkL S.n S.sz g
  okF : OkL S.n S.sz S.fly
  few : S.groups.length ≤ 1048576 ∧ (∀ g ∈ S.groups, g.length ≤ 1048576) ∧ S.fly.length ≤ 1048576
section
variable {w w' : World} {B R X L : Nat} {v3 v4 : Value} {S : Cr} {T : List Nat}
theorem DatsIs.keep {n : Nat} {h : Nat → List Nat} (hd : DatsIs w B X n h) (ht : Turns w w' T) (hX : X ∉ T) (hT : NoDat w T) : DatsIs w' B X n h := by
  obtain ⟨cs, h1, h2, h3⟩ := hd
  exact ⟨cs, ht.row h1 hX, h2, fun p hp => by obtain ⟨A, c, h4, h5⟩ := h3 p hp; exact ⟨A, c, h4, h5.nodat ht hT⟩⟩
theorem BitsIs.keep {n : Nat} {b : Nat → Bool} (hd : BitsIs w L n b) (ht : Turns w w' T) (hL : L ∉ T) : BitsIs w' L n b := by
  obtain ⟨cs, h1, h2, h3⟩ := hd
  exact ⟨cs, ht.row h1 hL, h2, h3⟩
theorem DatsIs.at {n : Nat} {h : Nat → List Nat} (hd : DatsIs w B X n h) {p : Nat} (hp : p < n) : ∃ A c, w.cell? ⟨X, p, none⟩ = some (.slice A (h p).length c) ∧ DatIs w B (.slice A (h p).length c) (h p) ∧ w.frozen? ⟨X, p, none⟩ = false := by
  obtain ⟨cs, h1, h2, h3⟩ := hd
  obtain ⟨A, c, h4, h5⟩ := h3 p hp
  exact ⟨A, c, by rw [h1.cell]; exact h4, h5, h1.frozen p⟩
theorem BitsIs.at {n : Nat} {b : Nat → Bool} (hd : BitsIs w L n b) {p : Nat} (hp : p < n) : w.cell? ⟨L, p, none⟩ = some (.bool (b p)) ∧ w.frozen? ⟨L, p, none⟩ = false := by
  obtain ⟨cs, h1, h2, h3⟩ := hd
  exact ⟨by rw [h1.cell]; exact h3 p hp, h1.frozen p⟩
theorem DatsIs.put {n : Nat} {h : Nat → List Nat} (hd : DatsIs w B X n h) {p : Nat} (hp : p < n) {A : Option Addr} {c : Nat} {l : List Nat} (hl : DatIs w B (.slice A l.length c) l) : DatsIs (w.setCell ⟨X, p, none⟩ (.slice A l.length c)) B X n (fun q => if q = p then l else h q) := by
  obtain ⟨cs, h1, h2, h3⟩ := hd
  have ht : Turns w (w.setCell ⟨X, p, none⟩ (.slice A l.length c)) [X] := (Turns.refl w [X]).setCell (by simp) _
  have hT : NoDat w [X] := NoDat.of_rows (fun g hg => by rw [List.mem_singleton.1 hg]; exact ⟨_, cs, h1, by decide, by decide, by decide⟩)
  refine ⟨cs.set p (.slice A l.length c) (by omega), ?_, by simp [h2], fun q hq => ?_⟩
  · have := h1.put p (.slice A l.length c)
    rw [Array.setIfInBounds_def, dif_pos (by omega)] at this
    exact this
  · dsimp only
    by_cases e : q = p
    · subst e
      rw [if_pos rfl]
      exact ⟨A, c, by simp, hl.nodat ht hT⟩
    · obtain ⟨A', c', h5, h6⟩ := h3 q hq
      rw [if_neg e]
      exact ⟨A', c', by rw [Array.getElem?_set_ne _ (Ne.symm e)]; exact h5, h6.nodat ht hT⟩
theorem BitsIs.put {n : Nat} {b : Nat → Bool} (hd : BitsIs w L n b) {p : Nat} (hp : p < n) (x : Bool) : BitsIs (w.setCell ⟨L, p, none⟩ (.bool x)) L n (fun q => if q = p then x else b q) := by
  obtain ⟨cs, h1, h2, h3⟩ := hd
  refine ⟨cs.set p (.bool x) (by omega), ?_, by simp [h2], fun q hq => ?_⟩
  · have := h1.put p (.bool x)
    rw [Array.setIfInBounds_def, dif_pos (by omega)] at this
    exact this
  · dsimp only
    by_cases e : q = p
    · subst e
      rw [if_pos rfl]; simp
    · rw [if_neg e, Array.getElem?_set_ne _ (Ne.symm e)]; exact h3 q hq
theorem DatsIs.same {n : Nat} {h h' : Nat → List Nat} (hd : DatsIs w B X n h) (he : ∀ p, p < n → h' p = h p) : DatsIs w B X n h' := by
  obtain ⟨cs, h1, h2, h3⟩ := hd
  exact ⟨cs, h1, h2, fun p hp => by rw [he p hp]; exact h3 p hp⟩
theorem BitsIs.same {n : Nat} {b b' : Nat → Bool} (hd : BitsIs w L n b) (he : ∀ p, p < n → b' p = b p) : BitsIs w L n b' := by
  obtain ⟨cs, h1, h2, h3⟩ := hd
  exact ⟨cs, h1, h2, fun p hp => by rw [he p hp]; exact h3 p hp⟩
theorem RfIs.rows (h : RfIs w B R X L v3 v4 S) : ∀ g ∈ [R, X, L], ∃ ty cs, Row w g ty cs ∧ ty ≠ 5 ∧ ty ≠ 30 ∧ ty ≠ 23 := fun g hg => by
  obtain ⟨cs, hx, _⟩ := h.has
  obtain ⟨cs', hl, _⟩ := h.loose
  simp only [List.mem_cons, List.not_mem_nil, or_false] at hg
  rcases hg with rfl | rfl | rfl
  · exact ⟨_, _, h.row, by decide, by decide, by decide⟩
  · exact ⟨_, _, hx, by decide, by decide, by decide⟩
  · exact ⟨_, _, hl, by decide, by decide, by decide⟩
theorem RfIs.nodat (h : RfIs w B R X L v3 v4 S) : NoDat w [R, X, L] := NoDat.of_rows h.rows
theorem NoDat.sub {T' : List Nat} (h : NoDat w T) (hs : ∀ g ∈ T', g ∈ T) : NoDat w T' := fun g hg => h g (hs g hg)
theorem RfIs.ne (h : RfIs w B R X L v3 v4 S) : R ≠ X ∧ R ≠ L ∧ X ≠ L := by
  obtain ⟨cs, hx, _⟩ := h.has
  obtain ⟨cs', hl, _⟩ := h.loose
  exact ⟨Row.ne_type h.row hx (by decide), Row.ne_type h.row hl (by decide), Row.ne_type hx hl (by decide)⟩
theorem RfIs.keep (h : RfIs w B R X L v3 v4 S) (ht : Turns w w' T) (hn : R ∉ T ∧ X ∉ T ∧ L ∉ T) (hT : NoDat w T) : RfIs w' B R X L v3 v4 S :=
  ⟨ht.row h.row hn.1, h.has.keep ht hn.2.1 hT, h.loose.keep ht hn.2.2, h.grs.nodat ht hT, h.fly.nodat ht hT, h.low, h.n, h.sz, h.okH, h.okG, h.okF, h.few⟩
theorem RfIs.below (h : RfIs w B R X L v3 v4 S) (hb : Below w.heap.size w w') : RfIs w' B R X L v3 v4 S := h.keep (Turns.of_below hb []) (by simp) (nodat_nil w)
theorem RfIs.lt (h : RfIs w B R X L v3 v4 S) : R < w.heap.size ∧ X < w.heap.size ∧ L < w.heap.size := by
  obtain ⟨cs, hx, _⟩ := h.has
  obtain ⟨cs', hl, _⟩ := h.loose
  exact ⟨h.row.lt, hx.lt, hl.lt⟩
/-- What lasts at a place. -/
theorem RfIs.putX (h : RfIs w B R X L v3 v4 S) {p : Nat} (hp : p < S.n) {A : Option Addr} {c : Nat} {l : List Nat} (hl : DatIs w B (.slice A l.length c) l) (hs : l.length = S.sz) :
    RfIs (w.setCell ⟨X, p, none⟩ (.slice A l.length c)) B R X L v3 v4 { S with has := updH S.has p l } := by
  have ht : Turns w (w.setCell ⟨X, p, none⟩ (.slice A l.length c)) [X] := (Turns.refl w [X]).setCell (by simp) _
  have hT : NoDat w [X] := h.nodat.sub (by simp)
  have hn := h.ne
  have e : ∀ q, ({ S with has := updH S.has p l } : Cr).base0 q = if q = p then l else S.base0 q := fun q => by
    unfold Cr.base0 updH
    by_cases e : q = p
    · simp [e]
    · simp [e]
  refine ⟨ht.row h.row (by simpa using hn.1), (h.has.put hp hl).same (fun q _ => e q), h.loose.keep ht (by simpa using Ne.symm hn.2.2), h.grs.nodat ht hT, h.fly.nodat ht hT, h.low, h.n, h.sz, fun q hq => ?_, h.okG, h.okF, h.few⟩
  rw [e q]
  split
  · exact hs
  · exact h.okH q hq
theorem RfIs.putL (h : RfIs w B R X L v3 v4 S) {p : Nat} (hp : p < S.n) (b : Bool) : RfIs (w.setCell ⟨L, p, none⟩ (.bool b)) B R X L v3 v4 { S with loose := updL S.loose p b } := by
  have ht : Turns w (w.setCell ⟨L, p, none⟩ (.bool b)) [L] := (Turns.refl w [L]).setCell (by simp) _
  have hT : NoDat w [L] := h.nodat.sub (by simp)
  have hn := h.ne
  exact ⟨ht.row h.row (by simpa using hn.2.1), h.has.keep ht (by simpa using hn.2.2) hT, h.loose.put hp b, h.grs.nodat ht hT, h.fly.nodat ht hT, h.low, h.n, h.sz, h.okH, h.okG, h.okF, h.few⟩
theorem RfIs.put3 (h : RfIs w B R X L v3 v4 S) {v : Value} {l : List (List Wr)} (hv : GrsIs w B v l) (ok : ∀ g ∈ l, OkL S.n S.sz g) (few : l.length ≤ 1048576 ∧ ∀ g ∈ l, g.length ≤ 1048576) : RfIs (w.setCell ⟨R, 3, none⟩ v) B R X L v v4 { S with groups := l } := by
  have ht : Turns w (w.setCell ⟨R, 3, none⟩ v) [R] := (Turns.refl w [R]).setCell (by simp) v
  have hT : NoDat w [R] := h.nodat.sub (by simp)
  have hn := h.ne
  exact ⟨by simpa using h.row.put 3 v, h.has.keep ht (by simpa using Ne.symm hn.1) hT, h.loose.keep ht (by simpa using Ne.symm hn.2.1), hv.nodat ht hT, h.fly.nodat ht hT, h.low, h.n, h.sz, h.okH, ok, h.okF, ⟨few.1, few.2, h.few.2.2⟩⟩
theorem RfIs.put4 (h : RfIs w B R X L v3 v4 S) {v : Value} {l : List Wr} (hv : WrsIs w B v l) (ok : OkL S.n S.sz l) (few : l.length ≤ 1048576) : RfIs (w.setCell ⟨R, 4, none⟩ v) B R X L v3 v { S with fly := l } := by
  have ht : Turns w (w.setCell ⟨R, 4, none⟩ v) [R] := (Turns.refl w [R]).setCell (by simp) v
  have hT : NoDat w [R] := h.nodat.sub (by simp)
  have hn := h.ne
  exact ⟨by simpa using h.row.put 4 v, h.has.keep ht (by simpa using Ne.symm hn.1) hT, h.loose.keep ht (by simpa using Ne.symm hn.2.1), h.grs.nodat ht hT, hv.nodat ht hT, h.low, h.n, h.sz, h.okH, h.okG, ok, ⟨h.few.1, h.few.2.1, few⟩⟩
theorem RfIs.cells (h : RfIs w B R X L v3 v4 S) : w.cell? ⟨R, 0, none⟩ = some (.int .i64 S.sz) ∧ w.cell? ⟨R, 1, none⟩ = some (.slice (some ⟨X, 0, none⟩) S.n S.n) ∧ w.cell? ⟨R, 2, none⟩ = some (.slice (some ⟨L, 0, none⟩) S.n S.n) ∧ w.cell? ⟨R, 3, none⟩ = some v3 ∧ w.cell? ⟨R, 4, none⟩ = some v4 :=
  ⟨h.row.cell 0, h.row.cell 1, h.row.cell 2, h.row.cell 3, h.row.cell 4⟩
end
theorem WrsIs.at1 {w : World} {B n c : Nat} {A : Option Addr} {l : List Wr} (h : WrsIs w B (.slice A n c) l) : n = l.length ∧ ∀ (k : Nat) (x : Wr), l[k]? = some x → ∃ g A1 c1, A = some ⟨g, 0, none⟩ ∧ (∃ cs, Row w g 30 cs) ∧ w.cell? ⟨g, k * 3 + 1, none⟩ = some (.int .i64 x.1) ∧ w.cell? ⟨g, k * 3 + 2, none⟩ = some (.slice A1 x.2.length c1) ∧ DatIs w B (.slice A1 x.2.length c1) x.2 := by
  obtain ⟨its, e, ho, hd⟩ := h
  have hn : n = its.length := by
    obtain ⟨A', c', e', _⟩ := own_shape ho
    injection e' with _ e'
  refine ⟨by rw [hn, e, List.length_map], fun k x hx => ?_⟩
  rw [e, List.getElem?_map] at hx
  cases hi : its[k]? with
  | none => rw [hi] at hx; cases hx
  | some y =>
    rw [hi] at hx
    injection hx with hx
    subst hx
    have hlt : k < its.length := (List.getElem?_eq_some_iff.1 hi).1
    obtain ⟨ya, ys, hda⟩ := hd y (List.mem_of_getElem? hi)
    rw [hn] at ho
    rcases ho.2 with ⟨_, h0⟩ | ⟨g, cap, cur, e1, _, hr, h1, h2, h3, h4⟩
    · omega
    · injection e1 with e1 _ _
      have key : ∀ (j : Nat) (u : Value), y.wr[j]? = some u → w.cell? ⟨g, k * 3 + j, none⟩ = some u := fun j u hu => by
        have hj : j < 3 := by have := (List.getElem?_eq_some_iff.1 hu).1; simpa [Ws.wr] using this
        have h5 := wrsV_get its k j y u hi hu
        rw [← h4, List.getElem?_take, if_pos (by omega)] at h5
        rw [(show Row w g _ cur from hr).cell]
        simpa using h5
      refine ⟨g, y.A, y.c, e1, ⟨cur, hr⟩, ?_, key 2 _ rfl, hda⟩
      have := key 1 _ rfl
      rw [this]; congr 2; show y.s = ((y.s.toNat : Nat) : Int); omega
set_option maxHeartbeats 1000000 in
theorem rfright_any (R n sz : Nat) (A0 : Option Addr) (cn : Nat) (a s : Int) (A : Option Addr) (m c : Nat) (w : World) (c0 : w.cell? ⟨R, 0, none⟩ = some (.int .i64 sz)) (c1 : w.cell? ⟨R, 1, none⟩ = some (.slice A0 n cn)) :
    Calls Try.prog 63 #[.pointer (some ⟨R, 0, none⟩), .agg #[.int .i64 a, .int .i64 s, .slice A m c]] w fun e w' => e = .returned (.bool (decide (0 ≤ s ∧ s < n ∧ m = sz))) ∧ Below w.heap.size w w' := by
  obtain ⟨w1, hw1⟩ : ∃ w1, w1 = w.alloc (.cells #[.int .i64 a, .int .i64 s, .slice A m c] 30) := ⟨_, rfl⟩
  have HB1 : Hid (Below w.heap.size w w1) := by unfold Hid; rw [hw1]; (repeat (first | (with_reducible refine Below.drew ?_) | (with_reducible refine below_drewN0 ?_ _) | ((with_reducible refine Below.setCell ?_ ?_ _); rotate_left; focus (first | omega | (simp; done) | (simp; omega) | (simp at *; omega))) | ((with_reducible refine Below.alloc ?_ ?_ _); rotate_left; focus (first | omega | (simp; done) | (simp; omega) | (simp at *; omega))) | (with_reducible exact Below.refl _ _)))
  have HR1 : Hid (Row w1 w.heap.size 30 #[.int .i64 a, .int .i64 s, .slice A m c]) := by unfold Hid; rw [hw1]; exact Row.fresh _ _ _
  have HW1 := Lib.hid hw1
  have z0 := keep_below HB1.out _ _ c0
  have z1 := keep_below HB1.out _ _ c1
  have r1 := HR1.out.cell 1
  have r2 := HR1.out.cell 2
  simp only [List.getElem?_toArray, List.getElem?_cons_zero, List.getElem?_cons_succ] at r1 r2
  clear hw1 c0 c1
  rw [HW1.out] at z0 z1 r1 r2
  by_cases q1 : 0 ≤ s
  · by_cases q2 : s < (n : Int)
    · by_cases q3 : m = sz
      · have HE : Hid (decide (0 ≤ s ∧ s < (n : Int) ∧ m = sz) = true) := decide_eq_true ⟨q1, q2, q3⟩
        subst q3
        go_enter Try.func63, Try.ntmps63
        go_wp2
        go_quiet (fail)
        go_wp2
        go_ret
        rw [← HW1.out]
        exact ⟨by rw [HE.out]; first | rfl | (simp; done) | (simp; omega), below_drewN0 HB1.out _⟩
      · have HE : Hid (decide (0 ≤ s ∧ s < (n : Int) ∧ m = sz) = false) := decide_eq_false (fun h => q3 h.2.2)
        have q4 : ¬ (m : Int) = sz := by omega
        have g4 : decide ((m : Int) = sz) = false := decide_eq_false q4
        go_enter Try.func63, Try.ntmps63
        go_wp2
        go_quiet (fail)
        go_wp2
        go_ret
        rw [← HW1.out]
        exact ⟨by rw [HE.out]; first | rfl | (simp; done) | (simp; omega), below_drewN0 HB1.out _⟩
    · have HE : Hid (decide (0 ≤ s ∧ s < (n : Int) ∧ m = sz) = false) := decide_eq_false (fun h => q2 h.2.1)
      have g2 : decide (s < (n : Int)) = false := decide_eq_false q2
      go_enter Try.func63, Try.ntmps63
      go_wp2
      go_quiet (fail)
      go_wp2
      go_ret
      rw [← HW1.out]
      exact ⟨by rw [HE.out]; first | rfl | (simp; done) | (simp; omega), below_drewN0 HB1.out _⟩
  · have HE : Hid (decide (0 ≤ s ∧ s < (n : Int) ∧ m = sz) = false) := decide_eq_false (fun h => q1 h.1)
    have g1 : decide (s ≥ 0) = false := decide_eq_false q1
    go_enter Try.func63, Try.ntmps63
    go_wp2
    go_quiet (fail)
    go_wp2
    go_ret
    rw [← HW1.out]
    exact ⟨by rw [HE.out]; first | rfl | (simp; done) | (simp; omega), below_drewN0 HB1.out _⟩
end Go.Proofs.Ytomigaldomiefaa

namespace Go.Proofs.Ytomigaldomiefaa
open Go.RowKit Go.MapKept Go.ChangeMaps
set_option linter.unusedVariables false
set_option linter.unusedSimpArgs false

theorem acsN_take (acs : List Ac) (i : Nat) (a : Ac) (h : acs[i]? = some a) : acsN (acs.take (i + 1)) = acsN (acs.take i) + a.cnt := by
  have e : acs.take (i + 1) = acs.take i ++ [a] := by rw [List.take_add_one, h]; rfl
  unfold acsN; rw [e, List.map_append, List.sum_append]; simp
theorem gsN_take (gss : List Gs) (i : Nat) (g : Gs) (h : gss[i]? = some g) : gsN (gss.take (i + 1)) = gsN (gss.take i) + (g.its.length + 1) := by
  have e : gss.take (i + 1) = gss.take i ++ [g] := by rw [List.take_add_one, h]; rfl
  unfold gsN; rw [e, List.map_append, List.sum_append]; simp
theorem acsN_le (acs : List Ac) (i : Nat) : acsN (acs.take i) ≤ acsN acs := by
  have h := List.take_append_drop i acs
  unfold acsN
  conv => rhs; rw [← h]
  rw [List.map_append, List.sum_append]; omega
theorem gsN_le (gss : List Gs) (i : Nat) : gsN (gss.take i) ≤ gsN gss := by
  have h := List.take_append_drop i gss
  unfold gsN
  conv => rhs; rw [← h]
  rw [List.map_append, List.sum_append]; omega
theorem gsN_len (gss : List Gs) : gss.length ≤ gsN gss := by
  induction gss with
  | nil => simp
  | cons g r ih => unfold gsN at ih ⊢; simp only [List.map_cons, List.sum_cons, List.length_cons]; omega
theorem gsN_mem {gss : List Gs} {g : Gs} (h : g ∈ gss) : g.its.length + 1 ≤ gsN gss := by
  induction gss with
  | nil => cases h
  | cons x r ih =>
    unfold gsN at ih ⊢
    simp only [List.map_cons, List.sum_cons]
    rcases List.mem_cons.1 h with rfl | h
    · omega
    · have := ih h; omega
theorem acsN_mem {acs : List Ac} {a : Ac} (h : a ∈ acs) : a.cnt ≤ acsN acs := by
  induction acs with
  | nil => cases h
  | cons x r ih =>
    unfold acsN at ih ⊢
    simp only [List.map_cons, List.sum_cons]
    rcases List.mem_cons.1 h with rfl | h
    · omega
    · have := ih h; omega
set_option maxRecDepth 100000 in
set_option maxHeartbeats 4000000 in
theorem plfew_any (A : Option Addr) (c : Nat) (acs : List Ac) (hlen : acs.length ≤ 1048576) (hN : acsN acs ≤ 1048576) (w : World) (hA : PlActs w A acs) :
    Calls Try.prog 23 #[.slice A acs.length c] w fun e w' => e = .returned (.bool (decide (acs.length ≤ 60 ∧ acsN acs ≤ 600))) ∧ Below w.heap.size w w' := by
  have HA : Hid (∀ wr, Below w.heap.size w wr → PlActs wr A acs) := fun wr hb => hA.keep (keep_below hb)
  obtain ⟨m, hm⟩ : ∃ m, m = acs.length := ⟨_, rfl⟩
  have HM := Lib.hid hm
  have HNt := Lib.hid hN
  rw [← hm] at hlen ⊢
  clear hA hm hN
  go_enter Try.func23, Try.ntmps23
  go_wp2
  go_loopw [3, 4] (fun n i wr => ∃ k t : Nat, i = .int .i64 k ∧ n = .int .i64 t ∧ k ≤ m ∧ t = acsN (acs.take k) ∧ Below w.heap.size w wr) (fun _ i _ => m - (intOf i).toNat)
  case atStart => exact ⟨0, 0, rfl, rfl, by omega, rfl, Below.refl _ _⟩
  case round =>
    obtain ⟨k, t, rfl, rfl, hk, ht, hb⟩ := hrel
    have HB := Lib.hid hb
    have HT := Lib.hid ht
    have ht20 : t ≤ 1048576 := by rw [ht]; exact Nat.le_trans (acsN_le acs k) HNt.out
    clear hb ht
    by_cases hkm : k < m
    · obtain ⟨a, ha⟩ : ∃ a, acs[k]? = some a := ⟨_, List.getElem?_eq_getElem (by rw [← HM.out]; exact hkm)⟩
      obtain ⟨⟨b, off, e1, hc⟩, hat⟩ := HA.out wr HB.out k a ha
      subst e1
      have q1 := hc 1 _ rfl
      have q2 := hc 2 _ rfl
      have q4 := hc 4 _ rfl
      rw [← Nat.add_assoc] at q1 q2 q4
      have HSt := Lib.hid (acsN_take acs k a ha)
      have hcn := acsN_mem (List.mem_of_getElem? ha)
      have HGr := Lib.hid hat.gr
      have HGw : Hid (∀ wx, Below wr.heap.size wr wx → ArgG wx a.A2 a.gss ∧ wx.cell? ⟨b, off + k * 5 + 2, none⟩ = some (.slice a.A2 a.gss.length a.c2)) := fun wx hb => ⟨hat.gr.keep (keep_below hb), keep_below hb _ _ q2⟩
      obtain ⟨l1, hl1⟩ : ∃ l, l = a.its.length := ⟨_, rfl⟩
      obtain ⟨l4, hl4⟩ : ∃ l, l = a.ds.length := ⟨_, rfl⟩
      obtain ⟨l2, hl2⟩ : ∃ l, l = a.gss.length := ⟨_, rfl⟩
      have hb1 : l1 + l4 + gsN a.gss ≤ 1048576 := by rw [hl1, hl4]; exact Nat.le_trans hcn HNt.out
      have hb2 : l2 ≤ gsN a.gss := by rw [hl2]; exact gsN_len _
      have HCn : Hid (a.cnt = l1 + l4 + gsN a.gss) := by unfold Hid Ac.cnt; rw [hl1, hl4]
      have HL2 := Lib.hid hl2
      rw [← hl1] at q1
      rw [← hl4] at q4
      rw [← hl2] at q2 HGw
      have HGn := Lib.hid hb1
      have hlsum : l1 ≤ 1048576 ∧ l4 ≤ 1048576 ∧ l2 ≤ 1048576 := by omega
      obtain ⟨hs1, hs4, hs2⟩ := hlsum
      clear hc hat ha hcn hl1 hl2 hl4 hb1 hb2 HA
      go_wp2_with fail
      go_quiet (fail)
      clear q1 q4
      have HBq : Hid (Below wr.heap.size wr (wr.drewN nq)) := below_drewN0 (Below.refl _ _) nq
      go_wp2_with fail
      go_loopw [3, 5] (fun n i wx => ∃ j u : Nat, i = .int .i64 j ∧ n = .int .i64 u ∧ j ≤ l2 ∧ u = t + l1 + l4 + gsN (a.gss.take j) ∧ Below wr.heap.size wr wx) (fun _ i _ => l2 - (intOf i).toNat)
      case atStart => exact ⟨0, t + l1 + l4, rfl, by go_num, by omega, rfl, HBq.out⟩
      case round =>
        obtain ⟨j, u, rfl, rfl, hj, hu, hb⟩ := hrel
        have HBx := Lib.hid hb
        have HU := Lib.hid hu
        have q2 := (HGw.out _ hb).2
        have hu20 : u ≤ 2097152 := by have h1 := gsN_le a.gss j; have h2 := HGn.out; omega
        by_cases hj2 : j < l2
        · obtain ⟨g, hg⟩ : ∃ g, a.gss[j]? = some g := ⟨_, List.getElem?_eq_getElem (by rw [← HL2.out]; exact hj2)⟩
          obtain ⟨⟨b2, off2, e2, q5⟩, _⟩ := (HGw.out _ hb).1.at0 j g hg
          rw [e2] at q2
          have HSg := Lib.hid (gsN_take a.gss j g hg)
          have hgl := gsN_mem (List.mem_of_getElem? hg)
          obtain ⟨gl, hgle⟩ : ∃ l, l = g.its.length := ⟨_, rfl⟩
          have HGl := Lib.hid hgle
          have hgl2 : gl ≤ 1048576 := by have h2 := HGn.out; omega
          rw [← hgle] at q5
          clear hb hu hg hgl hgle
          go_wp2_with fail
          clear q2 q5
          go_roundw
          case rel => exact ⟨j + 1, u + gl + 1, by go_num, by go_num, by omega, by rw [HSg.out, ← HGl.out]; have := HU.out; omega, HBx.out⟩
          case measure => simp [intOf]; omega
        · obtain rfl : j = l2 := by omega
          have HE : Hid (acsN (acs.take (k + 1)) = u) := by
            unfold Hid
            rw [HSt.out, HCn.out, HU.out, HL2.out, List.take_length, ← HT.out]; omega
          clear hb hu
          go_wp2_with fail
          clear q2
          go_roundw
          case rel => exact ⟨k + 1, u, by go_num, by go_num, by omega, HE.out.symm, HB.out.trans (HBx.out.mono HB.out.size)⟩
          case measure => simp [intOf]; omega
    · obtain rfl : k = m := by omega
      have HF : Hid (acsN acs = t) := by
        unfold Hid
        rw [HT.out, HM.out, List.take_length]
      by_cases h1 : k ≤ 60
      · by_cases h2 : t ≤ 600
        · have HD : Hid (decide (k ≤ 60 ∧ acsN acs ≤ 600) = true) := decide_eq_true ⟨h1, by rw [HF.out]; exact h2⟩
          go_wp2_with fail
          go_ret
          exact ⟨by first | rfl | (rw [HD.out]; first | rfl | (simp; done) | (simp; omega)), HB.out⟩
        · have HD : Hid (decide (k ≤ 60 ∧ acsN acs ≤ 600) = false) := decide_eq_false (fun h => h2 (by rw [← HF.out]; exact h.2))
          go_wp2_with fail
          go_ret
          exact ⟨by first | rfl | (rw [HD.out]; first | rfl | (simp; done) | (simp; omega)), HB.out⟩
      · have HD : Hid (decide (k ≤ 60 ∧ acsN acs ≤ 600) = false) := decide_eq_false (fun h => h1 h.1)
        go_wp2_with fail
        go_ret
        exact ⟨by first | rfl | (rw [HD.out]; first | rfl | (simp; done) | (simp; omega)), HB.out⟩
end Go.Proofs.Ytomigaldomiefaa

namespace Go.Proofs.Ytomigaldomiefaa
open Go.RowKit Go.MapKept Go.ChangeMaps
set_option linter.unusedVariables false
set_option linter.unusedSimpArgs false

theorem str_info : (Try.prog.info? 9).map (fun i => (i.zero, i.size, i.bytes)) = some (some (.string .empty), 1, 16) := by kernel_rfl
abbrev strV (ts : List (List Nat)) : List Value := ts.map fun d => .string (textOf d)
/-- Texts, a slice of one's own. -/
def StrsIs (w : World) (B : Nat) (v : Value) (ts : List (List Nat)) : Prop := w.ownsRow B 9 1 v ts.length (strV ts)
theorem strV_one (ts : List (List Nat)) : ∀ u ∈ strV ts, u.oneCell' = true := fun u hu => by
  obtain ⟨d, _, rfl⟩ := List.mem_map.1 hu; rfl
theorem StrsIs.shape {w : World} {B : Nat} {v : Value} {ts : List (List Nat)} (h : StrsIs w B v ts) : ∃ A c, v = .slice A ts.length c ∧ ts.length ≤ c ∧ c ≤ maxLen := own_shape h
theorem StrsIs.below {w w' : World} {B : Nat} {v : Value} {ts : List (List Nat)} (h : StrsIs w B v ts) (hb : Below w.heap.size w w') : StrsIs w' B v ts := own_below h hb
theorem StrsIs.mono {w : World} {B B' : Nat} {v : Value} {ts : List (List Nat)} (h : StrsIs w B v ts) (hb : B' ≤ B) : StrsIs w B' v ts := own_mono h hb
theorem StrsIs.at {w : World} {B : Nat} {A : Option Addr} {n c : Nat} {ts : List (List Nat)} (h : StrsIs w B (.slice A n c) ts) : n = ts.length ∧ ∀ (k : Nat) (d : List Nat), ts[k]? = some d → ∃ g, A = some ⟨g, 0, none⟩ ∧ w.cell? ⟨g, k, none⟩ = some (.string (textOf d)) := by
  have hn : n = ts.length := by
    obtain ⟨A', c', e', _⟩ := own_shape h
    injection e' with _ e'
  subst hn
  refine ⟨rfl, fun k d hd => ?_⟩
  have hlt : k < ts.length := (List.getElem?_eq_some_iff.1 hd).1
  rcases h.2 with ⟨e1, h0⟩ | ⟨g, cap, cur, e1, _, hr, h1, h2, h3, h4⟩
  · rw [List.length_eq_zero_iff] at h0; rw [h0] at hlt; simp at hlt
  · injection e1 with e1 _ _
    refine ⟨g, e1, ?_⟩
    rw [(show Row w g _ cur from hr).cell]
    have h5 : (strV ts)[k]? = some (.string (textOf d)) := by rw [List.getElem?_map, hd]; rfl
    rw [← h4, List.getElem?_take, if_pos (by omega)] at h5
    simpa using h5
theorem rfofP_take (l : List Wr) (p k : Nat) (x : Wr) (h : l[k]? = some x) : ofP (l.take (k + 1)) p = ofP (l.take k) p ++ (if x.1 = p then [x.2] else []) := by
  have e : l.take (k + 1) = l.take k ++ [x] := by rw [List.take_add_one, h]; rfl
  unfold ofP
  rw [e, List.filterMap_append]
  congr 1
  by_cases hx : x.1 = p <;> simp [hx]
theorem WrsIs.belowB {w w' : World} {B : Nat} {v : Value} {l : List Wr} (h : WrsIs w B v l) (hb : Below w.heap.size w w') : WrsIs w' B v l := h.nodat (Turns.of_below hb []) (nodat_nil w)
theorem ofP_len (l : List Wr) (p : Nat) : (ofP l p).length ≤ l.length := by unfold ofP; exact List.length_filterMap_le _ _
set_option maxRecDepth 100000 in
set_option maxHeartbeats 2000000 in
theorem rfof_any (B0 : Nat) (A : Option Addr) (n c : Nat) (l : List Wr) (p : Nat) (w : World) (h : WrsIs w B0 (.slice A n c) l) (hlen : l.length ≤ 1048576) (hp : p < 4294967296) :
    Calls Try.prog 74 #[.slice A n c, .int .i64 p] w fun e w' => ∃ v, e = .returned v ∧ StrsIs w' w.heap.size v (ofP l p) ∧ Below w.heap.size w w' := by
  obtain ⟨i0, hi, hz0, hz1, hz2⟩ := info_parts str_info
  have hn := h.at1.1
  rw [← hn] at hlen
  have HN := Lib.hid hn
  have HW : Hid (∀ wr, Below w.heap.size w wr → WrsIs wr B0 (.slice A n c) l) := fun wr hb => h.belowB hb
  have HAt := Lib.hid h.at1.2
  clear h hn
  go_enter Try.func74, Try.ntmps74
  go_wp2
  go_loopw [5, 6] (fun out i wr => ∃ k : Nat, i = .int .i64 k ∧ k ≤ n ∧ StrsIs wr w.heap.size out (ofP (l.take k) p) ∧ Below w.heap.size w wr) (fun _ i _ => n - (intOf i).toNat)
  case atStart => exact ⟨0, rfl, by omega, World.ownsRow_nil _ _ _ _, Below.refl _ _⟩
  case round =>
    obtain ⟨k, rfl, hk, hs, hb⟩ := hrel
    have HB := Lib.hid hb
    have HS := Lib.hid hs
    clear hb hs
    by_cases hkn : k < n
    · obtain ⟨⟨q, d⟩, hx⟩ : ∃ x, l[k]? = some x := ⟨_, List.getElem?_eq_getElem (by rw [← HN.out]; exact hkn)⟩
      obtain ⟨g0, _, _, e0, _⟩ := HAt.out k (q, d) hx
      obtain ⟨g, A2, c2, e1, ⟨gcs, hgr⟩, q1, q2, hd⟩ := (HW.out wr HB.out).at1.2 k (q, d) hx
      subst e1
      have HSt := Lib.hid (rfofP_take l p k (q, d) hx)
      have kc : (convert 22 9 (.slice A2 d.length c2)).run Try.prog wr = .ok (.string (textOf d)) wr := conv_text hd.lies
      clear hgr hd e0 hx
      simp only at HSt q1 q2
      by_cases hqp : q = p
      · rw [if_pos hqp] at HSt
        obtain ⟨Ao, co, rfl, _, _⟩ := HS.out.shape
        obtain ⟨m, hm⟩ : ∃ m, m = (ofP (l.take k) p).length := ⟨_, rfl⟩
        have HM := Lib.hid hm
        have hmk : m ≤ k := by rw [hm]; exact Nat.le_trans (ofP_len _ _) (by rw [List.length_take]; omega)
        obtain ⟨wz, hwz⟩ : ∃ wz, wz = wr.alloc (.cells #[.string (textOf d)] 9) := ⟨_, rfl⟩
        have HBz : Hid (Below wr.heap.size wr wz) := by unfold Hid; rw [hwz]; (repeat (first | (with_reducible refine Below.drew ?_) | (with_reducible refine below_drewN0 ?_ _) | ((with_reducible refine Below.setCell ?_ ?_ _); rotate_left; focus (first | omega | (simp; done) | (simp; omega) | (simp at *; omega))) | ((with_reducible refine Below.alloc ?_ ?_ _); rotate_left; focus (first | omega | (simp; done) | (simp; omega) | (simp at *; omega))) | (with_reducible exact Below.refl _ _)))
        have HSz : Hid (Src wz 1 (some ⟨wr.heap.size, 0, none⟩) 1 [.string (textOf d)]) := by unfold Hid; rw [hwz]; exact src_new rfl
        have HOz : Hid (wz.ownsRow w.heap.size 9 1 (.slice Ao m co) m (strV (ofP (l.take k) p))) := by rw [hm]; exact HS.out.below HBz.out
        have hBle : w.heap.size ≤ wz.heap.size := Nat.le_trans HB.out.size HBz.out.size
        have HWz := Lib.hid hwz
        rw [← hm]
        rw [hqp] at q1
        clear hm hwz hqp
        go_wp2_with (at_builtin; go_must (rw [← HWz.out]; refine wpList_append_src _ rfl _ _ 81 rfl w.heap.size 9 i0 (.string .empty) 1 16 Try.underlying81 hi hz0 hz1 hz2 rfl (by decide) (.slice Ao m co) m (strV (ofP (l.take k) p)) rfl HOz.out (some ⟨wr.heap.size, 0, none⟩) 1 1 _ rfl HSz.out (by intro u hu; rw [List.mem_singleton.1 hu]; rfl) (by unfold maxLen; omega) (by omega) hBle ?_); intro v6 w6 hown hgrow hat)
        have HS6 : Hid (StrsIs w6 w.heap.size v6 (ofP (l.take (k + 1)) p)) := by
          unfold Hid StrsIs strV
          rw [HSt.out, List.length_append, List.map_append, ← HM.out]
          exact hown
        have HB6 : Hid (Below w.heap.size w w6) := (turns_own hgrow).below (HB.out.trans (HBz.out.mono HB.out.size)) hBle (fun g hg => (own_blk HOz.out hg).1)
        clear hown hgrow hat HSz HOz q1 q2 kc
        go_wp2
        go_roundw
        case rel => exact ⟨k + 1, by go_num, by omega, HS6.out, HB6.out⟩
        case measure => simp [intOf]; omega
      · rw [if_neg hqp, List.append_nil] at HSt
        have hqi : ¬ (q : Int) = p := by omega
        clear q2 kc
        go_wp2
        go_roundw
        case rel => exact ⟨k + 1, by go_num, by omega, by rw [HSt.out]; exact HS.out, HB.out⟩
        case measure => simp [intOf]; omega
    · obtain rfl : n = k := by omega
      have hall : l.take n = l := by rw [HN.out]; exact List.take_length
      rw [hall] at HS
      clear hall
      go_wp2
      go_ret
      exact ⟨_, rfl, HS.out, HB.out⟩
theorem rftext_ne {a b : ByteArray} (h : ¬ a = b) : (a.toList == b.toList) = false := by
  rw [beq_eq_false_iff_ne]
  intro e
  rw [ByteArray.toList_eq, ByteArray.toList_eq] at e
  exact h (ByteArray.ext (Array.toList_inj.1 e))
set_option maxHeartbeats 1000000 in
theorem rfhas_any (B0 : Nat) (A : Option Addr) (n c : Nat) (ts : List (List Nat)) (d : List Nat) (w : World) (h : StrsIs w B0 (.slice A n c) ts) (hlen : ts.length ≤ 4294967296) (ht : ∀ t ∈ ts, ∀ u ∈ t, u < 256) (hd : ∀ u ∈ d, u < 256) :
    Calls Try.prog 64 #[.slice A n c, .string (textOf d)] w fun e w' => e = .returned (.bool (ts.contains d)) ∧ w' = w := by
  have hn := h.at.1
  have HN := Lib.hid hn
  have HAt := Lib.hid h.at.2
  have HT := Lib.hid ht
  have HD := Lib.hid hd
  rw [← hn] at hlen
  clear h hn ht hd
  go_enter Try.func64, Try.ntmps64
  go_wp2
  go_loopw [5] (fun i wr => ∃ k : Nat, i = .int .i64 k ∧ k ≤ n ∧ wr = w ∧ d ∉ ts.take k) (fun i _ => n - (intOf i).toNat)
  case atStart => exact ⟨0, rfl, by omega, rfl, by simp⟩
  case round =>
    obtain ⟨k, rfl, hk, rfl, hno⟩ := hrel
    have HNo := Lib.hid hno
    clear hno
    by_cases hkn : k < n
    · obtain ⟨t, hx⟩ : ∃ t, ts[k]? = some t := ⟨_, List.getElem?_eq_getElem (by rw [← HN.out]; exact hkn)⟩
      obtain ⟨g, rfl, q0⟩ := HAt.out k t hx
      have hmem := List.mem_of_getElem? hx
      have HIn : Hid (textOf t = textOf d → t = d) := fun e => textOf_inj (HT.out t hmem) HD.out e
      have HMe := Lib.hid hmem
      have HTk : Hid (ts.take (k + 1) = ts.take k ++ [t]) := by unfold Hid; rw [List.take_add_one, hx]; rfl
      clear hx hmem
      by_cases he : textOf t = textOf d
      · have HC : Hid (ts.contains d = true) := List.contains_iff_mem.2 (by rw [← HIn.out he]; exact HMe.out)
        rw [he] at q0
        go_wp2
        go_ret
        exact ⟨by rw [HC.out]; first | rfl | simp, rfl⟩
      · have he2 := rftext_ne he
        go_wp2
        go_roundw
        case rel => exact ⟨k + 1, by go_num, by omega, trivial, by
          rw [HTk.out]
          intro hm
          rcases List.mem_append.1 hm with hm | hm
          · exact HNo.out hm
          · exact he (by rw [List.mem_singleton.1 hm])⟩
        case measure => simp [intOf]; omega
    · obtain rfl : n = k := by omega
      have HC : Hid (ts.contains d = false) := by
        unfold Hid
        rw [Bool.eq_false_iff]
        intro hc
        have := HNo.out
        rw [HN.out, List.take_length] at this
        exact this (List.contains_iff_mem.1 hc)
      go_wp2
      go_ret
      exact ⟨by rw [HC.out]; first | rfl | simp, rfl⟩
end Go.Proofs.Ytomigaldomiefaa

namespace Go.Proofs.Ytomigaldomiefaa
open Go.RowKit
set_option linter.unusedVariables false
set_option linter.unusedSimpArgs false

/-- A make: the operation's number, its slot, what it yields at a block, what it lays. -/
structure Mk where
  i : Nat
  d : Nat
  f : Nat → Value
  o : Obj
def putsM (a : Act) (mks : List Mk) (g : Nat → Nat) : Act := mks.foldl (fun a m => a.put (some m.d) (m.f (g m.i))) a
/-- What stands behind the makes. -/
structure MFacts (w0 w : World) (mks : List Mk) (g : Nat → Nat) : Prop where
  at' : ∀ m ∈ mks, w0.heap.size ≤ g m.i ∧ w.heap[g m.i]? = some m.o
  ne : ∀ m ∈ mks, ∀ m' ∈ mks, m.i ≠ m'.i → g m.i ≠ g m'.i
  below : Below w0.heap.size w0 w
/-- Each of the makes makes. -/
structure MksOk (P : Program) (l : List Oper) (n : Nat) (a1 : Act) (mks : List Mk) : Prop where
  nd : mks.Pairwise fun m m' => m.d ≠ m'.d
  inb : ∀ m ∈ mks, m.d < a1.tmps.size
  ex : ∀ m ∈ mks, ∃ o, l[m.i]? = some o ∧ m.i < n ∧ o.dst = some m.d ∧ o.guard = none ∧ ∀ (a : Act) w, (∀ t, (∀ m' ∈ mks, t ≠ m'.d) → a.tmps[t]? = a1.tmps[t]?) → (execOp a.eval o).run P w = .ok (.value (m.f w.heap.size)) (w.alloc m.o)
theorem listAll_get : ∀ (s : List Nat) (l : Array Bool) (j : Nat), (listAll l s)[j]? = if j ∈ s then (l[j]?).map (fun _ => true) else l[j]?
  | [], l, j => by simp [listAll]
  | i :: s, l, j => by
    have := listAll_get s (l.setIfInBounds i true) j
    unfold listAll at this ⊢
    rw [List.foldl_cons, this, Array.getElem?_setIfInBounds]
    by_cases h : i = j
    · subst h
      by_cases hb : i < l.size
      · simp [hb]
      · simp [hb, Array.getElem?_eq_none (by omega : l.size ≤ i)]
    · by_cases h2 : j ∈ s
      · simp [h, h2]
      · simp [h, h2, Ne.symm h]
/-- f holds of all lists that leave out some of these. -/
def subsB (f : List Nat → Bool) : List Nat → List Nat → Bool
  | [], acc => f acc
  | i :: is, acc => subsB f is acc && subsB f is (acc ++ [i])
theorem subsB_spec (f : List Nat → Bool) : ∀ (is acc : List Nat), subsB f is acc = true → ∀ p : Nat → Bool, f (acc ++ is.filter p) = true
  | [], acc, h, p => by simpa [subsB] using h
  | i :: is, acc, h, p => by
    simp only [subsB, Bool.and_eq_true] at h
    by_cases hp : p i = true
    · have := subsB_spec f is (acc ++ [i]) h.2 p
      rw [List.filter_cons_of_pos hp]
      simpa using this
    · have := subsB_spec f is acc h.1 p
      rw [List.filter_cons_of_neg hp]
      exact this
def makesB (ops : Array Oper) (listed : Array Bool) (idx : List Nat) : Bool :=
  subsB (fun d => (idx.filter fun i => !d.contains i).isEmpty || (Region.ready .any ops (listAll listed d)) == idx.filter fun i => !d.contains i) idx []
theorem makesB_spec {ops : Array Oper} {listed : Array Bool} {idx : List Nat} (h : makesB ops listed idx = true) (p : Nat → Bool) (hp : ∃ i ∈ idx, p i = false) : Region.ready .any ops (listAll listed (idx.filter p)) = idx.filter fun i => !p i := by
  have := subsB_spec _ idx [] h p
  rw [List.nil_append] at this
  have e : (idx.filter fun i => !(idx.filter p).contains i) = idx.filter fun i => !p i := by
    apply List.filter_congr
    intro i hi
    simp only [List.contains_eq_mem, List.mem_filter, hi, true_and]
    cases p i <;> simp
  simp only [e, Bool.or_eq_true, beq_iff_eq] at this
  rcases this with h1 | h1
  · obtain ⟨i, hi, hpi⟩ := hp
    rw [List.isEmpty_iff] at h1
    have : i ∈ idx.filter fun i => !p i := List.mem_filter.2 ⟨hi, by simp [hpi]⟩
    rw [h1] at this; cases this
  · exact h1
theorem putsM_other (g : Nat → Nat) : ∀ (mks : List Mk) (a : Act) (t : Nat), (∀ m ∈ mks, t ≠ m.d) → (putsM a mks g).tmps[t]? = a.tmps[t]?
  | [], a, t, _ => rfl
  | m :: mks, a, t, h => by
    have := putsM_other g mks (a.put (some m.d) (m.f (g m.i))) t (fun m' hm' => h m' (by simp [hm']))
    unfold putsM at this ⊢
    rw [List.foldl_cons, this]
    simp [Act.put, Array.getElem?_setIfInBounds, Ne.symm (h m (by simp))]
theorem putsM_same (g : Nat → Nat) : ∀ (mks : List Mk) (a : Act), (mks.Pairwise fun m m' => m.d ≠ m'.d) → (∀ m ∈ mks, m.d < a.tmps.size) → ∀ m ∈ mks, (putsM a mks g).tmps[m.d]? = some (m.f (g m.i))
  | [], a, _, _, m, h => by cases h
  | m0 :: mks, a, hp, hb, m, h => by
    obtain ⟨h1, h2⟩ := List.pairwise_cons.1 hp
    rcases List.mem_cons.1 h with rfl | h
    · have := putsM_other g mks (a.put (some m.d) (m.f (g m.i))) m.d (fun m' hm' => h1 m' hm')
      unfold putsM at this ⊢
      rw [List.foldl_cons, this]
      simp [Act.put, Array.getElem?_setIfInBounds, hb m (by simp)]
    · have := putsM_same g mks (a.put (some m0.d) (m0.f (g m0.i))) h2 (fun m' hm' => by simpa [Act.put] using hb m' (by simp [hm'])) m h
      unfold putsM at this ⊢
      rw [List.foldl_cons]; exact this
theorem putsM_size (g : Nat → Nat) : ∀ (mks : List Mk) (a : Act), (putsM a mks g).tmps.size = a.tmps.size ∧ (putsM a mks g).defers = a.defers
  | [], a => ⟨rfl, rfl⟩
  | m :: mks, a => by
    have := putsM_size g mks (a.put (some m.d) (m.f (g m.i)))
    unfold putsM at this ⊢
    rw [List.foldl_cons]
    exact ⟨by rw [this.1]; simp [Act.put], by rw [this.2]; simp [Act.put]⟩
/-- Amid the makes: those with p are made. -/
structure MInv (w0 : World) (a1 : Act) (mks : List Mk) (p : Nat → Bool) (g : Nat → Nat) (a : Act) (w : World) : Prop where
  other : ∀ t, (∀ m ∈ mks, t ≠ m.d) → a.tmps[t]? = a1.tmps[t]?
  size : a.tmps.size = a1.tmps.size
  defers : a.defers = a1.defers
  at' : ∀ m ∈ mks, p m.i = true → a.tmps[m.d]? = some (m.f (g m.i)) ∧ w0.heap.size ≤ g m.i ∧ w.heap[g m.i]? = some m.o
  ne : ∀ m ∈ mks, ∀ m' ∈ mks, p m.i = true → p m'.i = true → m.i ≠ m'.i → g m.i ≠ g m'.i
  below : Below w0.heap.size w0 w
theorem pair_ne {α : Type} {R : α → α → Prop} (hs : ∀ x y, R x y → R y x) : ∀ {l : List α}, l.Pairwise R → ∀ x ∈ l, ∀ y ∈ l, x ≠ y → R x y
  | [], _, x, hx, _, _, _ => by cases hx
  | z :: l, h, x, hx, y, hy, hne => by
    obtain ⟨h1, h2⟩ := List.pairwise_cons.1 h
    rcases List.mem_cons.1 hx with ex | hx'
    · rcases List.mem_cons.1 hy with ey | hy'
      · exact absurd (ex.trans ey.symm) hne
      · rw [ex]; exact h1 y hy'
    · rcases List.mem_cons.1 hy with ey | hy'
      · rw [ey]; exact hs _ _ (h1 x hx')
      · exact pair_ne hs h2 x hx' y hy' hne
section
variable {P : Program} {l : List Oper} {S : World → Prop} {Q : Exit → Act → World → Prop}
theorem anyH_makes (n : Nat) (mks : List Mk) (w0 : World) (a1 : Act) (listed0 : Array Bool) (N : Act → World → Prop) (fuel : Nat) (hok : MksOk P l n a1 mks) (hdi : mks.Pairwise fun m m' => m.i ≠ m'.i) (hck : makesB (l.take n).toArray listed0 (mks.map Mk.i) = true) (hal : ∀ u o, S u → S (u.alloc o))
    (hend : ∀ g w, S w → MFacts w0 w mks g → wpAnyH P .any (l.take n).toArray (outQ Q N) S fuel (listAll listed0 (mks.map Mk.i)) (putsM a1 mks g) w) :
    ∀ (k : Nat) (p : Nat → Bool) (g : Nat → Nat) (a : Act) (w : World), ((mks.map Mk.i).filter fun i => !p i).length = k → MInv w0 a1 mks p g a w → S w → wpAnyH P .any (l.take n).toArray (outQ Q N) S (fuel + k) (listAll listed0 ((mks.map Mk.i).filter p)) a w
  | 0, p, g, a, w, hk, hi, hS => by
    have hall : ∀ m ∈ mks, p m.i = true := fun m hm => by
      have h0 := List.length_eq_zero_iff.1 hk
      cases hp : p m.i with
      | true => rfl
      | false =>
        have : m.i ∈ (mks.map Mk.i).filter fun i => !p i := List.mem_filter.2 ⟨List.mem_map.2 ⟨m, hm, rfl⟩, by simp [hp]⟩
        rw [h0] at this; cases this
    have e1 : (mks.map Mk.i).filter p = mks.map Mk.i := List.filter_eq_self.2 fun i hi => by
      obtain ⟨m, hm, rfl⟩ := List.mem_map.1 hi
      exact hall m hm
    have hsz := putsM_size g mks a1
    have e2 : a = putsM a1 mks g := by
      have e3 : a.tmps = (putsM a1 mks g).tmps := by
        apply Array.ext_getElem?
        intro t
        by_cases ht : ∃ m ∈ mks, t = m.d
        · obtain ⟨m, hm, rfl⟩ := ht
          rw [putsM_same g mks a1 hok.nd hok.inb m hm, (hi.at' m hm (hall m hm)).1]
        · have ht' : ∀ m ∈ mks, t ≠ m.d := fun m hm e => ht ⟨m, hm, e⟩
          rw [putsM_other g mks a1 t ht', hi.other t ht']
      have e4 : a.defers = (putsM a1 mks g).defers := by rw [hsz.2]; exact hi.defers
      obtain ⟨at1, ad⟩ := a
      simp only at e3 e4
      subst e3; subst e4; rfl
    rw [e1, e2]
    exact hend g w hS ⟨fun m hm => (hi.at' m hm (hall m hm)).2, fun m hm m' hm' => hi.ne m hm m' hm' (hall m hm) (hall m' hm'), hi.below⟩
  | k + 1, p, g, a, w, hk, hi, hS => by
    have hex : ∃ i ∈ mks.map Mk.i, p i = false := by
      obtain ⟨i, hi⟩ := List.exists_mem_of_length_pos (l := (mks.map Mk.i).filter fun i => !p i) (by omega)
      obtain ⟨h1, h2⟩ := List.mem_filter.1 hi
      exact ⟨i, h1, by simpa using h2⟩
    have hr := makesB_spec hck p hex
    refine ⟨fun h0 => ?_, fun i hii => ?_⟩
    · rw [hr] at h0
      rw [h0] at hk; simp at hk
    · rw [hr] at hii
      obtain ⟨him, hip⟩ := List.mem_filter.1 hii
      obtain ⟨m, hm, rfl⟩ := List.mem_map.1 him
      have hpm : p m.i = false := by simpa using hip
      obtain ⟨o, ho, hin, hdst, hgd, hex⟩ := hok.ex m hm
      have ho' : (l.take n).toArray[m.i]? = some o := by simp [List.getElem?_take, hin, ho]
      have hrun := hex a w hi.other
      unfold wpOp
      simp only [ho']
      rw [if_pos (by unfold Region.wanted; rw [hgd])]
      left
      unfold Oper.wp
      rw [hrun, Oper.upon_value, hdst]
      refine ⟨hal _ _ hS, ?_⟩
      have hinj : ∀ m' ∈ mks, m'.i = m.i → m' = m := fun m' hm' e => by
        rcases Classical.em (m' = m) with h | h
        · exact h
        · exact absurd e (pair_ne (fun x y h => Ne.symm h) hdi m' hm' m hm h)
      have hdne : ∀ m' ∈ mks, m' ≠ m → m'.d ≠ m.d := fun m' hm' hne => pair_ne (fun x y h => Ne.symm h) hok.nd m' hm' m hm hne
      have hL : (listAll listed0 ((mks.map Mk.i).filter p)).setIfInBounds m.i true = listAll listed0 ((mks.map Mk.i).filter fun j => p j || j == m.i) := by
        apply Array.ext_getElem?
        intro j
        rw [Array.getElem?_setIfInBounds, listAll_get, listAll_get]
        have hsz : (listAll listed0 ((mks.map Mk.i).filter p)).size = listed0.size := by
          have : ∀ (s : List Nat) (l : Array Bool), (listAll l s).size = l.size := fun s => by
            induction s with
            | nil => intro l; rfl
            | cons i s ih => intro l; unfold listAll at ih ⊢; rw [List.foldl_cons, ih]; simp
          exact this _ _
        rw [hsz]
        by_cases e : m.i = j
        · subst e
          rw [if_pos rfl, if_pos (List.mem_filter.2 ⟨him, by simp⟩)]
          by_cases hb : m.i < listed0.size
          · simp [hb]
          · simp [hb, Array.getElem?_eq_none (by omega : listed0.size ≤ m.i)]
        · rw [if_neg e]
          have : (j ∈ (mks.map Mk.i).filter p) ↔ (j ∈ (mks.map Mk.i).filter fun j => p j || j == m.i) := by
            rw [List.mem_filter, List.mem_filter]
            simp [Ne.symm e]
          by_cases hj : j ∈ (mks.map Mk.i).filter p
          · rw [if_pos hj, if_pos (this.1 hj)]
          · rw [if_neg hj, if_neg (fun h => hj (this.2 h))]
      rw [hL]
      have hsw := hi.below.size
      refine anyH_makes n mks w0 a1 listed0 N fuel hok hdi hck hal hend k (fun j => p j || j == m.i) (fun j => if j = m.i then w.heap.size else g j) _ _ ?_ ?_ (hal _ _ hS)
      · have h2 : ∀ (L : List Nat), L.Pairwise (· ≠ ·) → m.i ∈ L → (L.filter fun i => !p i).length = (L.filter fun i => !(p i || i == m.i)).length + 1 := by
          intro L
          induction L with
          | nil => intro _ h; cases h
          | cons x L ih =>
            intro hL hx
            obtain ⟨h1, h2⟩ := List.pairwise_cons.1 hL
            by_cases e : x = m.i
            · subst e
              rw [List.filter_cons_of_pos (by simp [hpm]), List.filter_cons_of_neg (by simp), List.length_cons]
              congr 2
              apply List.filter_congr
              intro y hy
              have : y ≠ m.i := Ne.symm (h1 y hy)
              simp [this]
            · have hx' : m.i ∈ L := by
                rcases List.mem_cons.1 hx with h | h
                · exact absurd h.symm e
                · exact h
              have := ih h2 hx'
              by_cases hpx : p x = true
              · rw [List.filter_cons_of_neg (by simp [hpx]), List.filter_cons_of_neg (by simp [hpx])]; exact this
              · rw [List.filter_cons_of_pos (by simp [hpx]), List.filter_cons_of_pos (by simp [hpx, e]), List.length_cons, List.length_cons, this]
        have h3 := h2 (mks.map Mk.i) (List.pairwise_map.2 hdi) him
        omega
      · refine ⟨fun t ht => ?_, ?_, ?_, fun m' hm' hp' => ?_, fun m' hm' m2 hm2 hp' hp2 hne => ?_, hi.below.alloc hi.below.size _⟩
        · rw [← hi.other t ht]
          simp [Act.put, Array.getElem?_setIfInBounds, Ne.symm (ht m hm)]
        · simpa [Act.put] using hi.size
        · simpa [Act.put] using hi.defers
        · by_cases e : m'.i = m.i
          · obtain rfl := hinj m' hm' e
            rw [if_pos rfl]
            refine ⟨?_, hsw, heap_alloc_new _ _⟩
            have hb := hok.inb m' hm'
            rw [← hi.size] at hb
            simp [Act.put, Array.getElem?_setIfInBounds, hb]
          · rw [if_neg e]
            have hpp : p m'.i = true := by simpa [e] using hp'
            obtain ⟨h1, h2, h3⟩ := hi.at' m' hm' hpp
            refine ⟨?_, h2, ?_⟩
            · rw [← h1]
              have := hdne m' hm' (fun e2 => e (by rw [e2]))
              simp [Act.put, Array.getElem?_setIfInBounds, Ne.symm this]
            · rw [Below.heap_alloc w _ _ (Array.getElem?_eq_some_iff.1 h3).1]; exact h3
        · by_cases e : m'.i = m.i
          · rw [if_pos e, if_neg (fun e2 => hne (e.trans e2.symm))]
            have hpp : p m2.i = true := by simpa [show m2.i ≠ m.i from fun e2 => hne (e.trans e2.symm)] using hp2
            have := (Array.getElem?_eq_some_iff.1 (hi.at' m2 hm2 hpp).2.2).1
            omega
          · rw [if_neg e]
            have hpp : p m'.i = true := by simpa [e] using hp'
            by_cases e2 : m2.i = m.i
            · rw [if_pos e2]
              have := (Array.getElem?_eq_some_iff.1 (hi.at' m' hm' hpp).2.2).1
              omega
            · rw [if_neg e2]
              exact hi.ne m' hm' m2 hm2 hpp (by simpa [e2] using hp2) hne
def makesAllB (l : List Oper) (rs idx ts : List Nat) : Bool :=
  lastB l && Region.noSelect (l.take (l.length - 1)).toArray && takesB (l.take (l.length - 1)).toArray (Array.replicate (l.length - 1) false) rs && makesB (l.take (l.length - 1)).toArray (listAll (Array.replicate (l.length - 1) false) rs) idx &&
  chainB (l.take (l.length - 1)).toArray (listAll (listAll (Array.replicate (l.length - 1) false) rs) idx) ts.dropLast &&
  (decide (ts.getLast? = some (l.length - 1)) && decide (rs.length + (ts.dropLast.length + idx.length) = l.length - 1) && decide (0 < l.length)) &&
  rs.all (fun i => decide (i < l.length - 1) && atB l i fun o => yieldsOnly o && gOk (l.length - 1) o) && ts.dropLast.all (fun i => decide (i < l.length - 1) && atB l i fun o => gOk (l.length - 1) o) && decide (idx.Pairwise (· ≠ ·))
/-- **A REGION THAT DRAWS ITS ORDER**: its reads (rs); its makes (idx), in whatever order; the others (ts). -/
theorem region_makes {id : Nat} {a : Act} {w : World} (B : List Nat) (rs idx ts : List Nat) (hm : P.follows .mixedOrders = true) (hB : makesAllB l rs idx ts = true) (hQ : ∀ c (a : Act) k v w, Q (.panic c) { a with tmps := a.tmps.setIfInBounds k v } w → Q (.panic c) a w)
    (h : wpQuiet P l.toArray (fun u => ∃ t : Kept w B, u = t.u) (fun a' => ∃ mks, mks.map Mk.i = idx ∧ MksOk P l (l.length - 1) a' mks ∧ ∀ g u, MFacts w.drew u mks g → wpSeqS P l.toArray (fun u => Turns w u B) Q (ts.filterMap (l[·]?)) (putsM a' mks g) u) (rs.filterMap (l[·]?)) a) :
    (Code.region id l.toArray true).wp P Q a w := by
  have e : (fun u => ∃ t : Kept w B, u = t.u) = fun u => Turns w u B := by
    funext u; apply propext
    exact ⟨fun ⟨t, e⟩ => by subst e; exact t.h, fun h => ⟨⟨u, h⟩, rfl⟩⟩
  rw [e] at h
  simp only [makesAllB, Bool.and_eq_true, decide_eq_true_eq, List.all_eq_true] at hB
  obtain ⟨⟨⟨⟨⟨⟨⟨⟨h1, h2⟩, h3⟩, hmk⟩, h4⟩, ⟨⟨h5, h6⟩, h7⟩⟩, h8⟩, h9⟩, hnd⟩ := hB
  obtain ⟨n, hn⟩ : ∃ n, l.length = n + 1 := ⟨l.length - 1, by omega⟩
  rw [hn, Nat.add_sub_cancel] at h2 h3 h4 h5 h6 h8 h9 hmk
  rw [hn, Nat.add_sub_cancel] at h
  obtain ⟨last, hlast⟩ : ∃ last, l[n]? = some last := ⟨_, List.getElem?_eq_getElem (by omega)⟩
  have hts : ts = ts.dropLast ++ [n] := by
    obtain ⟨ys, hy⟩ := List.getLast?_eq_some_iff.1 h5
    rw [hy]; simp
  rw [hts, List.filterMap_append, List.filterMap_cons, hlast, List.filterMap_nil] at h
  refine wp_region_any hm ?_
  have hsz : l.toArray.size = n + 1 := by simpa using hn
  rw [hsz, show Array.replicate (n + 1) false = (Array.replicate n false).push false from Array.replicate_succ]
  refine any_last n hn hlast h1 n _ a _ (by simp) (fun j oj _ hj hlj => by simp [Array.getD, hj] at hlj) ?_
  have h10 := anyH_takes (P := P) (S := fun u => Turns w u B) (Q := Q) (N := fun a w => wpList P l.toArray Q [last] a w) n h2 rs (ts.dropLast.length + idx.length) (Array.replicate n false) a w.drew h3 (fun i hi => by
    obtain ⟨hin, hat⟩ := h8 i hi
    obtain ⟨o, ho, hy⟩ := atB_spec hat
    simp only [Bool.and_eq_true] at hy
    exact ⟨o, ho, hin, hy.1, hy.2⟩) (Turns.refl w B).drew (fun c a d v w h => by cases d with | none => exact h | some k => exact hQ c a k v w h) (quiet_imp (fun a' h' => by
      obtain ⟨mks, rfl, hok, hgo⟩ := h'
      have h11 := anyH_makes (P := P) (S := fun u => Turns w u B) (Q := Q) n mks w.drew a' (listAll (Array.replicate n false) rs) (fun a w => wpList P l.toArray Q [last] a w) ts.dropLast.length hok (List.pairwise_map.1 hnd) hmk (fun u o hu => hu.alloc o)
        (fun g u hS hf => anyH_chain (P := P) (S := fun u => Turns w u B) (Q := Q) n ts.dropLast _ _ u h4 (fun i hi => by
          obtain ⟨hin, hat⟩ := h9 i hi
          obtain ⟨o, ho, hy⟩ := atB_spec hat
          exact ⟨o, ho, hin, hy⟩) (hgo g u hf))
        (mks.map Mk.i).length (fun _ => false) (fun _ => 0) a' w.drew (congrArg List.length (List.filter_eq_self.2 (fun _ _ => rfl))) ⟨fun _ _ => rfl, rfl, rfl, fun _ _ h => (by cases h), fun _ _ _ _ h => (by cases h), Below.refl _ _⟩ (Turns.refl w B).drew
      have e0 : (mks.map Mk.i).filter (fun _ => false) = [] := by simp
      rw [e0] at h11
      exact h11) _ _ h)
  rw [Nat.add_comm, h6] at h10
  exact wpAny_of_held _ _ _ _ h10
theorem exec_mk {a : Act} {w w' : World} {o : Oper} {t : TypeId} {x : Nat} {v r : Value} (hop : o.op = .makeSlice t (.tmp x) (.tmp x)) (hv : a.tmps[x]? = some v) (hrun : (Instr.makeSlice t v v).run P w = .ok r w') : (execOp a.eval o).run P w = .ok (.value r) w' := by
  have e : a.eval (.tmp x) = v := by simp [Act.eval, Array.getD_eq_getD_getElem?, hv]
  simp [execOp, hop, e, hrun, Result.andThen]
theorem exec_mkmap {a : Act} {w : World} {o : Oper} {t : TypeId} (hop : o.op = .makeMap t none) : (execOp a.eval o).run P w = .ok (.value (.map (some w.heap.size))) (w.alloc (.map #[] 0)) := by
  simp [execOp, hop, run_makeMap, Result.andThen]
end
end Go.Proofs.Ytomigaldomiefaa

namespace Go.Proofs.Ytomigaldomiefaa
open Go.RowKit Go.MapKept Go.ChangeMaps
set_option linter.unusedVariables false
set_option linter.unusedSimpArgs false

theorem rf_bool_info : (Try.prog.info? 4).map (fun i => (i.zero, i.size, i.bytes)) = some (some (.bool false), 1, 1) := by kernel_rfl
theorem rf_bs_info : (Try.prog.info? 22).map (fun i => (i.zero, i.size, i.bytes)) = some (some (.slice none 0 0), 1, 24) := by kernel_rfl
theorem zs_vals (n : Nat) : (madeCells #[.int .u8 0] n).toList = intsV .u8 (zs n) := by
  apply List.ext_getElem?
  intro i
  rw [Array.getElem?_toList]
  rcases Nat.lt_or_ge i n with h | h
  · rw [made_at _ _ _ h, intsV_get .u8 (zs n) i (by simpa [zs] using h)]
    simp [zs, List.getD, h]
  · rw [Array.getElem?_eq_none (by simpa [size_madeCells] using h), List.getElem?_eq_none (by rw [intsV_length]; simpa [zs] using h)]
theorem dat_made (w : World) (B n : Nat) (hB : B ≤ w.heap.size) (hn : n ≤ reachBytes) (hm : n ≤ maxLen) : DatIs (w.alloc (.cells (madeCells #[.int .u8 0] n) 5)) B (.slice (some ⟨w.heap.size, 0, none⟩) n n) (zs n) := by
  refine ⟨fun x hx => by rw [List.eq_of_mem_replicate hx]; decide, by simpa [zs] using hn, ?_⟩
  have hl : (zs n).length = n := by simp [zs]
  rw [hl]
  refine ⟨by rw [intsV_length, hl, Nat.mul_one], .inr ⟨w.heap.size, n, madeCells #[.int .u8 0] n, rfl, hB, heap_alloc_new w _, Nat.le_refl _, hm, by simp [size_madeCells], ?_⟩⟩
  rw [zs_vals]
  rw [List.take_of_length_le (by rw [intsV_length, hl, Nat.mul_one]; exact Nat.le_refl _)]
theorem dat_nil (w : World) (B : Nat) : DatIs w B (.slice none 0 0) [] := ⟨by simp, by simp, World.ownsRow_nil _ _ _ _⟩
def rfmks (n : Nat) : List Mk :=
  [⟨2, 24, fun g => .slice (some ⟨g, 0, none⟩) n n, .cells (madeCells #[.slice none 0 0] n) 22⟩, ⟨4, 26, fun g => .slice (some ⟨g, 0, none⟩) n n, .cells (madeCells #[.bool false] n) 4⟩]
set_option maxRecDepth 100000 in
set_option maxHeartbeats 4000000 in
theorem rfNew_yes (n sz : Nat) (hn : 1 ≤ n ∧ n ≤ 16384) (hs : 1 ≤ sz ∧ sz ≤ 512) (w : World) :
    Calls Try.prog 24 #[.int .i64 n, .int .i64 sz] w fun e w' => ∃ R X L, e = .returned (.tuple #[.pointer (some ⟨R, 0, none⟩), .int .i64 0]) ∧ RfIs w' w.heap.size R X L (.slice none 0 0) (.slice none 0 0) (cr0 n sz) ∧ Below w.heap.size w w' := by
  have hmb : ∀ v : World, (Instr.makeSlice 36 (.int .i64 n) (.int .i64 n)).run Try.prog v = .ok (.slice (some ⟨v.heap.size, 0, none⟩) n n) (v.alloc (.cells (madeCells #[.bool false] n) 4)) := fun v => run_make_row' (P := Try.prog) 36 4 _ 1 Try.underlying36 rf_bool_info rfl .i64 .i64 n (by omega) (by omega) v
  have hms : ∀ v : World, (Instr.makeSlice 37 (.int .i64 n) (.int .i64 n)).run Try.prog v = .ok (.slice (some ⟨v.heap.size, 0, none⟩) n n) (v.alloc (.cells (madeCells #[.slice none 0 0] n) 22)) := fun v => run_make_row' (P := Try.prog) 37 22 _ 24 Try.underlying37 rf_bs_info rfl .i64 .i64 n (by omega) (by omega) v
  have HMb := Lib.hid hmb
  have HMs := Lib.hid hms
  have h1 : ¬ (n : Int) < 1 := by omega
  have h2 : ¬ (n : Int) > 16384 := by omega
  have h3 : ¬ (sz : Int) < 1 := by omega
  have h4 : ¬ (sz : Int) > 512 := by omega
  clear hmb hms
  go_enter Try.func24, Try.ntmps24
  go_wp2_with fail
  refine region_makes [] [0, 1, 3] [2, 4] [5, 6, 7] (by kernel_rfl) (by kernel_rfl) (fun _ _ _ _ _ h => h) ?_
  simp only [List.filterMap_cons, List.getElem?_cons_zero, List.getElem?_cons_succ, List.filterMap_nil]
  (repeat ((show wpQuiet _ _ _ _ (_ :: _) _); go_big_quiet_step (fail)))
  refine wpQuiet_nil ?_
  refine ⟨rfmks n, rfl, ⟨by unfold rfmks; simp, by unfold rfmks; simp, fun m hm => ?_⟩, fun g u hf => ?_⟩
  · unfold rfmks at hm
    simp only [List.mem_cons, List.not_mem_nil, or_false] at hm
    rcases hm with rfl | rfl
    · exact ⟨_, rfl, (by show (2 : Nat) < 7; omega), rfl, rfl, fun a v h => exec_mk rfl ((h 23 (by unfold rfmks; simp)).trans rfl) (HMs.out v)⟩
    · exact ⟨_, rfl, (by show (4 : Nat) < 7; omega), rfl, rfl, fun a v h => exec_mk rfl ((h 25 (by unfold rfmks; simp)).trans rfl) (HMb.out v)⟩
  · have hbu := hf.below
    have hX := hf.at' _ (by unfold rfmks; exact List.mem_cons_self)
    have hL := hf.at' _ (by unfold rfmks; exact List.mem_cons_of_mem _ List.mem_cons_self)
    have hXL := hf.ne ⟨2, 24, fun g => .slice (some ⟨g, 0, none⟩) n n, .cells (madeCells #[.slice none 0 0] n) 22⟩ (by unfold rfmks; exact List.mem_cons_self) ⟨4, 26, fun g => .slice (some ⟨g, 0, none⟩) n n, .cells (madeCells #[.bool false] n) 4⟩ (by unfold rfmks; exact List.mem_cons_of_mem _ List.mem_cons_self) (fun e => absurd e (by decide : (2 : Nat) ≠ 4))
    simp only at hX hL hXL
    obtain ⟨X, hXe⟩ : ∃ X, g 2 = X := ⟨_, rfl⟩
    obtain ⟨L, hLe⟩ : ∃ L, g 4 = L := ⟨_, rfl⟩
    have e0 : ∀ a : Act, putsM a (rfmks n) g = (a.put (some 24) (.slice (some ⟨g 2, 0, none⟩) n n)).put (some 26) (.slice (some ⟨g 4, 0, none⟩) n n) := fun a => rfl
    rw [e0]
    rw [hXe] at hX hXL ⊢
    rw [hLe] at hL hXL ⊢
    clear hf e0
    have HX : Hid (Row u X 22 (madeCells #[.slice none 0 0] n)) := hX.2
    have HL : Hid (Row u L 4 (madeCells #[.bool false] n)) := hL.2
    have HXL := Lib.hid hXL
    have HBu : Hid (Below w.heap.size w u) := by
      have : Below w.drew.heap.size w.drew u := hbu
      exact ⟨this.os, this.tape, this.output, this.size, fun k hk => this.block k hk⟩
    have HLo : Hid (w.heap.size ≤ X ∧ w.heap.size ≤ L) := ⟨hX.1, hL.1⟩
    clear hX hL hXL hbu hXe hLe
    simp only [Act.put, List.setIfInBounds_toArray, List.set_cons_zero, List.set_cons_succ]
    refine wpSeqS_step ?_
    go_wp2_with fail
    refine outQ_normal ((Turns.of_below (show Below w.heap.size w u from ⟨HBu.out.os, HBu.out.tape, HBu.out.output, HBu.out.size, HBu.out.block⟩) [])) ?_
    refine wpSeqS_step ?_
    go_wp2_with fail
    have HR : Hid (Row (u.alloc (.cells #[.int .i64 sz, .slice (some ⟨X, 0, none⟩) n n, .slice (some ⟨L, 0, none⟩) n n, .slice none 0 0, .slice none 0 0] 85)) u.heap.size 85 #[.int .i64 sz, .slice (some ⟨X, 0, none⟩) n n, .slice (some ⟨L, 0, none⟩) n n, .slice none 0 0, .slice none 0 0]) := Row.fresh _ _ _
    have HBv : Hid (Below u.heap.size u (u.alloc (.cells #[.int .i64 sz, .slice (some ⟨X, 0, none⟩) n n, .slice (some ⟨L, 0, none⟩) n n, .slice none 0 0, .slice none 0 0] 85))) := (Below.refl _ _).alloc (Nat.le_refl _) _
    obtain ⟨v, hv⟩ : ∃ v, v = u.alloc (.cells #[.int .i64 sz, .slice (some ⟨X, 0, none⟩) n n, .slice (some ⟨L, 0, none⟩) n n, .slice none 0 0, .slice none 0 0] 85) := ⟨_, rfl⟩
    rw [← hv] at HR HBv
    refine outQ_normal (by rw [← hv]; exact Turns.of_below (HBu.out.trans (HBv.out.mono HBu.out.size)) []) ?_
    rw [← hv]
    clear hv
    have HB0 : Hid (Below w.heap.size w v) := HBu.out.trans (HBv.out.mono HBu.out.size)
    have HX1 := Lib.hid (HX.out.below HBv.out HX.out.lt)
    have HL1 := Lib.hid (HL.out.below HBv.out HL.out.lt)
    obtain ⟨R, hR⟩ : ∃ R, R = u.heap.size := ⟨_, rfl⟩
    rw [← hR] at HR ⊢
    have HRn : Hid (X ≠ R ∧ L ≠ R ∧ w.heap.size ≤ R) := ⟨by have := HX.out.lt; omega, by have := HL.out.lt; omega, by rw [hR]; exact HBu.out.size⟩
    clear hR HX HL HBv HBu
    refine wpSeqS_last ?_
    go_wp2_with fail
    have HD0 : Hid (DatsIs v w.heap.size X n (fun p => if p < 0 then zs sz else [])) := ⟨_, HX1.out, by simp [size_madeCells], fun p hp => ⟨none, 0, by rw [made_at _ _ _ hp]; simp, by simp; exact dat_nil _ _⟩⟩
    go_loopw [7] (fun i wr => ∃ k : Nat, i = .int .i64 k ∧ k ≤ n ∧ DatsIs wr w.heap.size X n (fun p => if p < k then zs sz else []) ∧ Turns v wr [X]) (fun i _ => n - (intOf i).toNat)
    case atStart => exact ⟨0, rfl, by omega, HD0.out, Turns.refl _ _⟩
    case round =>
      obtain ⟨k, rfl, hk, hd, ht⟩ := hrel
      have HD := Lib.hid hd
      have HT := Lib.hid ht
      have r1 := (ht.row HR.out (by have := HRn.out.1; simp; omega)).cell 1
      simp only [List.getElem?_toArray, List.getElem?_cons_zero, List.getElem?_cons_succ] at r1
      clear hd ht HD0
      by_cases hkn : k < n
      · have hne := HRn.out.1
        have k1 : ∀ t : Kept wr [X], t.u.cell? ⟨R, 1, none⟩ = some (.slice (some ⟨X, 0, none⟩) n n) := fun t => t.h.cell r1 (by simp; omega)
        clear r1
        go_wp2
        (refine region_kept ([X]) [0, 1, 2, 3, 4, 5] [6, 7, 8] (by kernel_rfl) (by kernel_rfl) (fun _ _ _ _ _ h => h) ?_; simp only [List.filterMap_cons, List.getElem?_cons_zero, List.getElem?_cons_succ, List.filterMap_nil]; (repeat ((show wpQuiet _ _ _ _ (_ :: _) _); go_big_quiet_step (fail))); refine wpQuiet_nil ?_)
        clear k1
        have hmk : ∀ v : World, (Instr.makeSlice 22 (.int .i64 sz) (.int .i64 sz)).run Try.prog v = .ok (.slice (some ⟨v.heap.size, 0, none⟩) sz sz) (v.alloc (.cells (madeCells #[.int .u8 0] sz) 5)) := fun v =>
          run_make_row' (P := Try.prog) 22 5 _ 1 Try.underlying22 u8_info rfl .i64 .i64 sz (by omega) (by omega) v
        obtain ⟨u1, hu1⟩ : ∃ u1, u1 = (wr.alloc (.cells (madeCells #[.int .u8 0] sz) 5)).drew := ⟨_, rfl⟩
        have HU1 := Lib.hid hu1
        have HBu1 : Hid (Below wr.heap.size wr u1) := by unfold Hid; rw [hu1]; (repeat (first | (with_reducible refine Below.drew ?_) | (with_reducible refine below_drewN0 ?_ _) | ((with_reducible refine Below.setCell ?_ ?_ _); rotate_left; focus (first | omega | (simp; done) | (simp; omega) | (simp at *; omega))) | ((with_reducible refine Below.alloc ?_ ?_ _); rotate_left; focus (first | omega | (simp; done) | (simp; omega) | (simp at *; omega))) | (with_reducible exact Below.refl _ _)))
        have hwB : w.heap.size ≤ wr.heap.size := Nat.le_trans HB0.out.size HT.out.size
        have HZc : Hid (DatIs u1 w.heap.size (.slice (some ⟨wr.heap.size, 0, none⟩) sz sz) (zs sz)) := by
          unfold Hid; rw [hu1]
          exact (dat_made wr w.heap.size sz hwB (by unfold reachBytes; omega) (by unfold maxLen; omega)).nodat (T := []) ((Turns.refl _ []).drew) (nodat_nil _)
        have HD1 := Lib.hid (HD.out.keep (Turns.of_below HBu1.out []) (by simp) (nodat_nil wr))
        obtain ⟨A0, c0, y1, _, y2⟩ := HD1.out.at hkn
        have hzl : (zs sz).length = sz := by simp [zs]
        have HP := HD1.out.put hkn (A := some ⟨wr.heap.size, 0, none⟩) (c := sz) (l := zs sz) (by rw [hzl]; exact HZc.out)
        rw [hzl] at HP
        have HP := Lib.hid (HP.same (h' := fun p => if p < k + 1 then zs sz else []) (fun q hq => by
          by_cases e : q = k
          · rw [if_pos e, if_pos (by omega)]
          · rw [if_neg e]
            by_cases e2 : q < k
            · rw [if_pos (by omega), if_pos e2]
            · rw [if_neg (by omega), if_neg e2]))
        have HTu : Hid (Turns v (u1.setCell ⟨X, k, none⟩ (.slice (some ⟨wr.heap.size, 0, none⟩) sz sz)) [X]) := (HT.out.then_below HBu1.out).setCell (by simp) _
        have HTw : Hid (Turns wr u1 [X]) := Turns.of_below HBu1.out _
        generalize (if k < k then zs sz else ([] : List Nat)).length = l0 at *
        clear hu1 HZc HD1 hzl
        refine wpSeqS_step ?_
        go_wp2_with fail
        rw [← HU1.out]
        refine outQ_normal HTw.out ?_
        refine wpSeqS_step ?_
        go_wp2_with fail
        refine outQ_normal HTw.out ?_
        refine wpSeqS_last ?_
        go_wp2
        go_roundw
        case rel => exact ⟨k + 1, by go_num, by omega, HP.out, HTu.out⟩
        case measure => simp [intOf]; omega
      · obtain rfl : n = k := by omega
        have HE : Hid (RfIs wr w.heap.size R X L (.slice none 0 0) (.slice none 0 0) (cr0 n sz)) := by
          have hRw := HT.out.row HR.out (by have := HRn.out.1; simp; omega)
          have hLw := HT.out.row HL1.out (by have := HXL.out; simp; omega)
          refine ⟨hRw, HD.out.same (fun p hp => by show zs sz = _; rw [if_pos hp]), ⟨_, hLw, by simp [size_madeCells]; rfl, fun p hp => (made_at _ n p hp)⟩, GrsIs.nil _ _, WrsIs.nil _ _, ⟨HRn.out.2.2, HLo.out.1, HLo.out.2⟩, hn, hs, fun p hp => by show (zs sz).length = sz; simp [zs], by simp [cr0], by simp [cr0, OkL], by simp [cr0]⟩
        have HBw : Hid (Below w.heap.size w wr) := HT.out.below HB0.out HB0.out.size (by have := HLo.out; simp; omega)
        clear r1
        go_wp2
        go_ret2
        exact ⟨R, X, L, rfl, HE.out, HBw.out⟩
theorem rfNew_no (n sz : Int) (h : n < 1 ∨ 16384 < n ∨ sz < 1 ∨ 512 < sz) (w : World) :
    Calls Try.prog 24 #[.int .i64 n, .int .i64 sz] w fun e w' => e = .returned (.tuple #[.pointer none, .int .i64 1]) ∧ w' = w := by
  by_cases h1 : n < 1
  · clear h
    go_enter Try.func24, Try.ntmps24
    go_wp2
    go_ret2
    exact ⟨rfl, rfl⟩
  by_cases h2 : n > 16384
  · clear h
    go_enter Try.func24, Try.ntmps24
    go_wp2
    go_ret2
    exact ⟨rfl, rfl⟩
  by_cases h3 : sz < 1
  · clear h
    go_enter Try.func24, Try.ntmps24
    go_wp2
    go_ret2
    exact ⟨rfl, rfl⟩
  have h4 : sz > 512 := by omega
  clear h
  go_enter Try.func24, Try.ntmps24
  go_wp2
  go_ret2
  exact ⟨rfl, rfl⟩
theorem New_no (n sz : Int) (h : n < 1 ∨ 16384 < n ∨ sz < 1 ∨ 512 < sz) (w : World) :
    Calls Try.prog 9 #[.int .i64 n, .int .i64 sz] w fun e w' => e = .returned (.tuple #[.pointer none, .int .i64 1]) ∧ w' = w := by
  by_cases h1 : n < 1
  · clear h
    go_enter Try.func9, Try.ntmps9
    go_wp2
    go_ret2
    exact ⟨rfl, rfl⟩
  by_cases h2 : n > 16384
  · clear h
    go_enter Try.func9, Try.ntmps9
    go_wp2
    go_ret2
    exact ⟨rfl, rfl⟩
  by_cases h3 : sz < 1
  · clear h
    go_enter Try.func9, Try.ntmps9
    go_wp2
    go_ret2
    exact ⟨rfl, rfl⟩
  have h4 : sz > 512 := by omega
  clear h
  go_enter Try.func9, Try.ntmps9
  go_wp2
  go_ret2
  exact ⟨rfl, rfl⟩
end Go.Proofs.Ytomigaldomiefaa
