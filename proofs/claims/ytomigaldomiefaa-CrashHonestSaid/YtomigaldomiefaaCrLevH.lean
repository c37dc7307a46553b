/- crash: level's closure: what its walks share. -/
import Derived.Test.YtomigaldomiefaaCrReg
namespace Go.Proofs.Ytomigaldomiefaa
open Go.RowKit Go.Shelf
set_option linter.unusedVariables false
set_option linter.unusedSimpArgs false

theorem own_kpc {W W' : World} {T : List Nat} {B : Nat} {e : TypeId} {sz : Nat} {v : Value} {n : Nat} {xs : List Value} (h : W.ownsRow B e sz v n xs) (hk : KpC T W W') (hT : ∀ g ∈ T, ∀ cs, ¬ Row W g e cs) : W'.ownsRow B e sz v n xs := by
  refine ⟨h.1, ?_⟩
  rcases h.2 with h1 | ⟨g, cap, cur, rfl, hb, hg, rest⟩
  · exact .inl h1
  · exact .inr ⟨g, cap, cur, rfl, hb, hk.row (show Row W g e cur from hg) (fun hm => hT g hm cur hg), rest⟩
theorem WrsIs.kpc {W W' : World} {T : List Nat} {B : Nat} {v : Value} {l : List Wr} (h : WrsIs W B v l) (hk : KpC T W W') (hT : ∀ g ∈ T, ∀ cs, ¬ Row W g 30 cs ∧ ¬ Row W g 5 cs) : WrsIs W' B v l := by
  obtain ⟨its, h1, h2, h3⟩ := h
  exact ⟨its, h1, own_kpc h2 hk (fun g hg cs => (hT g hg cs).1), fun x hx => ⟨(h3 x hx).1, (h3 x hx).2.1, (h3 x hx).2.2.small, (h3 x hx).2.2.short, own_kpc (h3 x hx).2.2.own hk (fun g hg cs => (hT g hg cs).2)⟩⟩
theorem base_step (S : Cr) (j p : Nat) (g : List Wr) (h : S.groups[j]? = some g) : S.ahead (j + 1) p = S.ahead j p ++ ofP g p ∧ S.base (j + 1) p = (ofP g p).getLast?.getD (S.base j p) := by
  have e : S.ahead (j + 1) p = S.ahead j p ++ ofP g p := by
    unfold Cr.ahead
    rw [List.take_add_one, h, List.flatMap_append]
    simp
  refine ⟨e, ?_⟩
  unfold Cr.base
  rw [e, List.getLast?_append]
  cases (ofP g p).getLast? <;> simp
/-- A piece of code, its end asked of once. -/
theorem wpIn_cutR {P : Program} {n : Nat} {c : Code} {Q : Exit → Act → World → Prop} {a : Act} {w : World} (R : Act → World → Prop) (h : c.wpIn Fence.wide n P (fun e a' w' => e = .normal ∧ R a' w') a w) (h2 : ∀ a' w', R a' w' → Q .normal a' w') : c.wpIn Fence.wide n P Q a w :=
  wpIn_mono h (fun e a' w' hh => by obtain ⟨h1, h3⟩ := hh; subst h1; exact h2 _ _ h3)
/-- A piece of code that ends in one way. -/
theorem wp_cutN {P : Program} {c : Code} {Q : Exit → Act → World → Prop} {a : Act} {w : World} (A : Act) (X : World) (h : c.wp P (fun e a' w' => e = .normal ∧ a' = A ∧ w' = X) a w) (h2 : Q .normal A X) : c.wp P Q a w :=
  (wpIn_wide (n := 0)).1 (wpIn_mono ((wpIn_wide (n := 0)).2 h) (fun e a' w' hh => by obtain ⟨h1, h3, h4⟩ := hh; subst h1; subst h3; subst h4; exact h2))
theorem marks_lt {B : Nat} {W : World} : ∀ {ds : List Deferred}, MarksIn B W ds → ∀ d ∈ ds, ∃ D, d = { target := .collected D, args := #[] } ∧ D < W.heap.size
  | [], _, d, hd => by cases hd
  | d0 :: ds, ⟨⟨D, h1, h2, h3, h4⟩, h5⟩, d, hd => by
    rcases List.mem_cons.1 hd with rfl | hd
    · exact ⟨D, h1, (Array.getElem?_eq_some_iff.1 h3).1⟩
    · exact marks_lt h5 d hd
theorem own_cellAt {w : World} {B : Nat} {e : TypeId} {v : Value} {n i : Nat} {xs : List Value} {x : Value} (h : w.ownsRow B e 1 v n xs) (hi : i < n) (hx : xs[i]? = some x) : ∃ g c, v = .slice (some ⟨g, 0, none⟩) n c ∧ w.cell? ⟨g, i, none⟩ = some x := by
  rcases h.2 with ⟨_, h0⟩ | ⟨g', cap, cur, e1, _, hr, h1, h2, h3, h4⟩
  · omega
  · refine ⟨g', cap, e1, ?_⟩
    have h5 : (cur.toList.take (n * 1))[i]? = some x := by rw [h4]; exact hx
    rw [List.getElem?_take, if_pos (by omega)] at h5
    rw [(show Row w g' _ cur from hr).cell]
    simpa using h5
/-- What level's closure reads. -/
structure LvAt (W : World) (B C H L Zs Zp Zk : Nat) (v4 v5 : Value) (vs : List Value) (S : Cr) (k p : Nat) : Prop where
  s : Row W Zs 25 #[.pointer (some ⟨C, 0, none⟩)]
  p : Row W Zp 3 #[.int .i64 p]
  k : Row W Zk 3 #[.int .i64 k]
  st : CrIs W B C H L v4 v5 S
  gv : W.ownsRow B 23 1 v4 S.groups.length vs ∧ ∀ (i : Nat) (g : List Wr), S.groups[i]? = some g → ∃ u, vs[i]? = some u ∧ WrsIs W B u g
section
variable {W W' : World} {B C H L Zs Zp Zk : Nat} {v4 v5 : Value} {vs : List Value} {S : Cr} {k p : Nat}
theorem LvAt.keep (h : LvAt W B C H L Zs Zp Zk v4 v5 vs S k p) (ht : Turns W W' []) : LvAt W' B C H L Zs Zp Zk v4 v5 vs S k p := ⟨ht.row h.s (by simp), ht.row h.p (by simp), ht.row h.k (by simp), h.st.keep ht, own_lone (by decide) h.gv.1 ht (lone_nil _), fun i g hg => by obtain ⟨u, h1, h2⟩ := h.gv.2 i g hg; exact ⟨u, h1, h2.lone ht (lone_nil _)⟩⟩
theorem LvAt.below (h : LvAt W B C H L Zs Zp Zk v4 v5 vs S k p) (hb : Below W.heap.size W W') : LvAt W' B C H L Zs Zp Zk v4 v5 vs S k p := h.keep (Turns.of_below hb [])
end
end Go.Proofs.Ytomigaldomiefaa
