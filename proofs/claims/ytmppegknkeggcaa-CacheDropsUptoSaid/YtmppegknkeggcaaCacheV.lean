/- vcache's laws: two caches beside one another. -/
import Derived.Test.YtmppegknkeggcaaCacheU
namespace Go.Proofs.Ytmppegknkeggcaa
open Go.RowKit
set_option linter.unusedVariables false
set_option linter.unusedSimpArgs false

/-- Two caches of 64, made since w0, that share nothing. -/
def Two (w0 W : World) (Ca ma : Nat) (ia : List It) (ga : Int) (Cb mb : Nat) (ib : List It) (gb : Int) : Prop :=
  ∃ A c A' c', CHeld W w0.heap.size Ca ma 64 A c ia ga ∧ CHeld W w0.heap.size Cb mb 64 A' c' ib gb ∧ (∀ k ∈ Ca :: ma :: blk A, k ∉ Cb :: mb :: blk A') ∧ Below w0.heap.size w0 W
/-- Writes told by a call: their row, their bytes, all since w0. -/
structure SeesO (W : World) (B : Nat) (A : Option Addr) (n c : Nat) (its : List It) : Prop where
  row : W.ownsRow B 32 3 (.slice A n c) n (wrsV its)
  dat : ∀ x ∈ its, DatIs W B (.slice x.A x.l.length x.c) x.l
theorem SeesO.sees {W : World} {B n c : Nat} {A : Option Addr} {its : List It} (h : SeesO W B A n c its) : Sees W A its := Sees.of_own h.row h.dat
theorem own_type {w : World} {base : Nat} {e : TypeId} {size n : Nat} {v : Value} {xs : List Value} (h : w.ownsRow base e size v n xs) (g : Nat) (hg : v.ownBlock = some g) : ∃ cur, Row w g e cur := by
  rcases h.2 with ⟨e1, _⟩ | ⟨g', cap, cur, e1, _, hr, _⟩
  · rw [e1] at hg; cases hg
  · rw [e1] at hg; injection hg with hg; subst hg; exact ⟨cur, hr⟩
theorem SeesO.turns {W W' : World} {S : List Nat} {B n c : Nat} {A : Option Addr} {its : List It} (h : SeesO W B A n c its) (ht : Turns W W' S) (hS : ∀ k ∈ S, (∀ cur, ¬ Row W k 32 cur) ∧ ∀ cur, ¬ Row W k 5 cur) : SeesO W' B A n c its :=
  ⟨ht.own h.row (fun g hg hm => by obtain ⟨cur, hr⟩ := own_type h.row g hg; exact (hS g hm).1 cur hr), fun x hx => (h.dat x hx).turns ht (fun k hk => (hS k hk).2)⟩
theorem SeesO.below {W W' : World} {B n c : Nat} {A : Option Addr} {its : List It} (h : SeesO W B A n c its) (hb : Below W.heap.size W W') : SeesO W' B A n c its := h.turns (Turns.of_below hb []) (by simp)
theorem CHeld.no_writes {w : World} {B C mb most c : Nat} {A : Option Addr} {items : List It} {g : Int} (h : CHeld w B C mb most A c items g) : ∀ k ∈ C :: mb :: blk A, ∀ cur, ¬ Row w k 32 cur := by
  intro k hk cur hr
  simp only [List.mem_cons] at hk
  rcases hk with rfl | rfl | hk
  · exact h.row.ne_type hr (by decide) rfl
  · exact h.cnt.not_row _ _ hr
  · obtain ⟨_, cur', hr'⟩ := h.own.block_row k hk
    exact hr'.ne_type hr (by decide) rfl
section
variable {w0 W : World} {Ca ma Cb mb : Nat} {ia ib : List It} {ga gb : Int}
theorem Two.symm (h : Two w0 W Ca ma ia ga Cb mb ib gb) : Two w0 W Cb mb ib gb Ca ma ia ga := by
  obtain ⟨A, c, A', c', h1, h2, h3, h4⟩ := h
  exact ⟨A', c', A, c, h2, h1, fun k hk hm => h3 k hm hk, h4⟩
theorem Two.bel (h : Two w0 W Ca ma ia ga Cb mb ib gb) : Below w0.heap.size w0 W := by
  obtain ⟨A, c, A', c', h1, h2, h3, h4⟩ := h; exact h4
theorem Two.below {W' : World} (h : Two w0 W Ca ma ia ga Cb mb ib gb) (hb : Below W.heap.size W W') : Two w0 W' Ca ma ia ga Cb mb ib gb := by
  obtain ⟨A, c, A', c', h1, h2, h3, h4⟩ := h
  exact ⟨A, c, A', c', h1.below hb, h2.below hb, h3, h4.trans (hb.mono h4.size)⟩
theorem Two.new {w1 w2 : World} (h : CSt w0 w1 Ca ma 64 [] 0) (hn : CHeld w2 w1.heap.size Cb mb 64 none 0 [] 0) (hb : Below w1.heap.size w1 w2) : Two w0 w2 Ca ma [] 0 Cb mb [] 0 := by
  obtain ⟨A, c, h1, h4⟩ := h
  refine ⟨A, c, none, 0, h1.below hb, hn.mono h4.size, fun k hk hm => ?_, h4.trans (hb.mono h4.size)⟩
  have h5 := hn.floor k hm
  have : k < w1.heap.size := by
    simp only [List.mem_cons] at hk
    rcases hk with rfl | rfl | hk
    · exact h1.row.lt
    · exact h1.cnt.lt
    · obtain ⟨_, cur, hr⟩ := h1.own.block_row k hk; exact hr.lt
  omega
theorem Two.len (h : Two w0 W Ca ma ia ga Cb mb ib gb) (n : Nat) (hn : ia.length = n) :
    Calls Try.prog 13 #[.pointer (some ⟨Ca, 0, none⟩)] W fun e W' => e = .returned (.int .i64 n) ∧ W = W' := by
  obtain ⟨A, c, A', c', h1, h2, h3, h4⟩ := h
  subst hn
  exact Len_any Ca A ia.length c W h1.cells.2.1
/-- A step of the first one. -/
theorem Two.step {W' : World} {S : List Nat} {A c A' c'} {ia2 : List It} {ga2 : Int} {A2 : Option Addr} {c2 : Nat} (h1 : CHeld W w0.heap.size Ca ma 64 A c ia ga) (h2 : CHeld W w0.heap.size Cb mb 64 A' c' ib gb) (h3 : ∀ k ∈ Ca :: ma :: blk A, k ∉ Cb :: mb :: blk A') (h4 : Below w0.heap.size w0 W)
    (hh : CHeld W' w0.heap.size Ca ma 64 A2 c2 ia2 ga2) (ht : Turns W W' S) (hS : ∀ k ∈ S, k ∈ Ca :: ma :: blk A) (hA : ∀ k ∈ blk A2, k ∈ blk A ∨ W.heap.size ≤ k) : Two w0 W' Ca ma ia2 ga2 Cb mb ib gb := by
  refine ⟨A2, c2, A', c', hh, h2.turns ht (fun k hk => ⟨h3 k (hS k hk), h1.no_bytes k (hS k hk)⟩), fun k hk hm => ?_, ht.below h4 h4.size (fun k hk => h1.floor k (hS k hk))⟩
  simp only [List.mem_cons] at hk
  rcases hk with rfl | rfl | hk
  · exact h3 _ (by simp) hm
  · exact h3 _ (by simp) hm
  · rcases hA k hk with h | h
    · exact h3 k (by simp [h]) hm
    · simp only [List.mem_cons] at hm
      rcases hm with rfl | rfl | hm
      · have := h2.row.lt; omega
      · have := h2.cnt.lt; omega
      · obtain ⟨_, cur, hr⟩ := h2.own.block_row k hm; have := hr.lt; omega
theorem Two.put (h : Two w0 W Ca ma ia ga Cb mb ib gb) (hn : ia.length < 64) (x : It) (hA : ArgW w0 x) (hl : x.l.length ≤ reachBytes) :
    Calls Try.prog 10 #[.pointer (some ⟨Ca, 0, none⟩), .agg #[.int .i64 x.a, .int .i64 x.s, .slice x.A x.l.length x.c]] W fun e W' => (∃ v, e = .returned v) ∧
      ∃ y : It, y.sees = x.sees ∧ y.g = ga ∧ Two w0 W' Ca ma ((ia.filter fun z => !goneP x.a x.s ga z) ++ [y]) ga Cb mb ib gb := by
  obtain ⟨A, c, A', c', h1, h2, h3, h4⟩ := h
  have hA' := hA.keep (keep_below h4)
  refine (Put_any _ Ca ma 64 c A ia ga x.a x.s x.A x.l x.c W h1 (by omega) hA.wa hA.ws hA.small hl (h1.src hA'.src (fun h0 ad e => .inl (hA.lt h0 ad e)))).mono ?_
  rintro e W' ⟨Ao, co, A2, c2, out, rest, y, rfl, ⟨e1, e2, e3, e4⟩, hsp, hr, hh, hA2, _, _, ht⟩
  obtain ⟨rfl, rfl⟩ := split_few hsp (by
    rw [List.length_append, List.length_singleton]
    have := List.length_filter_le (fun z => !goneP x.a x.s ga z) ia
    omega) hr
  exact ⟨⟨_, rfl⟩, y, by rw [It.sees, It.sees, e1, e2, e3], e4, Two.step h1 h2 h3 h4 hh ht (fun k hk => hk) hA2⟩
theorem Two.barrier (h : Two w0 W Ca ma ia ga Cb mb ib gb) (hg : 0 ≤ ga ∧ ga ≤ 1000000) :
    Calls Try.prog 11 #[.pointer (some ⟨Ca, 0, none⟩)] W fun e W' => (∃ v, e = .returned v) ∧ Two w0 W' Ca ma ia (barG ia ga) Cb mb ib gb := by
  obtain ⟨A, c, A', c', h1, h2, h3, h4⟩ := h
  refine (Barrier_any _ Ca ma 64 c A ia ga W h1 hg).mono ?_
  rintro e W' ⟨hv, hh, ht⟩
  exact ⟨hv, Two.step h1 h2 h3 h4 hh ht (by simp) (fun k hk => .inl hk)⟩
theorem Two.drop (h : Two w0 W Ca ma ia ga Cb mb ib gb) {a s : Int} (ha : W64 a) (hs : W64 s) :
    Calls Try.prog 18 #[.pointer (some ⟨Ca, 0, none⟩), .int .i64 a, .int .i64 s] W fun e W' => e = .returned (.bool (decide (0 < cntI ia a s))) ∧ Two w0 W' Ca ma (ia.filter fun x => !dropP a s x) ga Cb mb ib gb := by
  obtain ⟨A, c, A', c', h1, h2, h3, h4⟩ := h
  refine (Drop_any _ Ca ma 64 c A ia ga a s W h1 ha hs).mono ?_
  rintro e W' ⟨he, hh, ht⟩
  exact ⟨he, Two.step h1 h2 h3 h4 hh ht (fun k hk => hk) (fun k hk => .inl hk)⟩
theorem Two.get (h : Two w0 W Ca ma ia ga Cb mb ib gb) {a s : Int} (ha : W64 a) (hs : W64 s) :
    Calls Try.prog 15 #[.pointer (some ⟨Ca, 0, none⟩), .int .i64 a, .int .i64 s] W fun e W' => GetPost W ia a s e W' ∧ Two w0 W' Ca ma ia ga Cb mb ib gb := by
  have h' := h
  obtain ⟨A, c, A', c', h1, h2, h3, h4⟩ := h
  exact (Get_any _ Ca ma 64 c A ia ga a s W h1 ha hs).mono fun e W' he => ⟨he, h'.below he.2⟩
theorem Two.flush (h : Two w0 W Ca ma ia ga Cb mb ib gb) :
    Calls Try.prog 12 #[.pointer (some ⟨Ca, 0, none⟩)] W fun e W' => ∃ Ao co, e = .returned (.slice Ao ia.length co) ∧ Two w0 W' Ca ma [] ga Cb mb ib gb ∧ SeesO W' w0.heap.size Ao ia.length co ia ∧
      ∀ B A n c its, SeesO W B A n c its → SeesO W' B A n c its := by
  obtain ⟨A, c, A', c', h1, h2, h3, h4⟩ := h
  refine (Flush_any _ Ca ma 64 c A ia ga W h1).mono ?_
  rintro e W' ⟨Ao, co, rfl, hh, hown, hdat, ht⟩
  have hS : ∀ k ∈ [Ca, ma], k ∈ Ca :: ma :: blk A := fun k hk => by simp at hk; simp; rcases hk with e | e <;> simp [e]
  exact ⟨Ao, co, rfl, Two.step h1 h2 h3 h4 hh ht hS (by simp [blk]), ⟨own_mono hown h4.size, hdat⟩, fun B A n c its hs => hs.turns ht (fun k hk => ⟨h1.no_writes k (hS k hk), h1.no_bytes k (hS k hk)⟩)⟩
end
end Go.Proofs.Ytmppegknkeggcaa
