/- Plain facts on the sum of seven bits: it is linear; a burst is seen. No program in sight but for the definitions' names. -/
import Derived.Test.YteocmpaabihoiaaFrame
namespace Go.Proofs.Yteocmpaabihoiaa
set_option linter.unusedVariables false
set_option linter.unusedSimpArgs false

theorem xor_and (a b m : Nat) : (a ^^^ b) &&& m = (a &&& m) ^^^ (b &&& m) := by
  apply Nat.eq_of_testBit_eq; intro i; simp [Nat.testBit_xor, Nat.testBit_and]
  cases a.testBit i <;> cases b.testBit i <;> cases m.testBit i <;> rfl
theorem xor_dbl (a b : Nat) : (a ^^^ b) * 2 % 256 = (a * 2 % 256) ^^^ (b * 2 % 256) := by
  have h : ∀ x : Nat, x * 2 % 256 = (x <<< 1) &&& (2 ^ 8 - 1) := fun x => by
    rw [Nat.and_two_pow_sub_one_eq_mod, Nat.shiftLeft_eq]
  rw [h, h, h]
  apply Nat.eq_of_testBit_eq; intro i
  simp only [Nat.testBit_xor, Nat.testBit_and, Nat.testBit_shiftLeft]
  generalize (2 ^ 8 - 1 : Nat).testBit i = m
  by_cases h1 : 1 ≤ i <;> simp [h1]
  cases a.testBit (i - 1) <;> cases b.testBit (i - 1) <;> cases m <;> rfl
theorem xor_half (a b : Nat) : (a ^^^ b) / 2 = (a / 2) ^^^ (b / 2) := by
  apply Nat.eq_of_testBit_eq; intro i
  simp [Nat.testBit_xor, Nat.testBit_div_two]
theorem xor_zero_iff (a b : Nat) : a ^^^ b = 0 ↔ a = b := by
  constructor
  · intro h
    have : (a ^^^ b) ^^^ b = 0 ^^^ b := by rw [h]
    rw [Nat.xor_assoc, Nat.xor_self] at this
    simpa using this
  · rintro rfl; simp
theorem and128 (a : Nat) : a &&& 128 = 0 ∨ a &&& 128 = 128 := by
  have h : ∀ i, (a &&& 128).testBit i = (a.testBit i && decide (7 = i)) := by
    intro i; rw [show (128 : Nat) = 2 ^ 7 from rfl, Nat.testBit_and, Nat.testBit_two_pow]
  cases ha : a.testBit 7
  · left; apply Nat.eq_of_testBit_eq; intro i; rw [h]
    by_cases e : 7 = i
    · subst e; simp [ha]
    · simp [e]
  · right; apply Nat.eq_of_testBit_eq; intro i; rw [h, show (128 : Nat) = 2 ^ 7 from rfl, Nat.testBit_two_pow]
    by_cases e : 7 = i
    · subst e; simp [ha]
    · simp [e]
theorem s7_form (v : Nat) : s7 v = (v * 2 % 256) ^^^ (if v &&& 128 = 0 then 0 else 18) := by
  unfold s7; split <;> simp
theorem s7_xor (a b : Nat) : s7 (a ^^^ b) = s7 a ^^^ s7 b := by
  rw [s7_form, s7_form a, s7_form b, xor_dbl, xor_and]
  generalize a * 2 % 256 = x
  generalize b * 2 % 256 = y
  have e : ∀ u v : Nat, (x ^^^ u) ^^^ (y ^^^ v) = (x ^^^ y) ^^^ (u ^^^ v) := fun u v => by
    rw [Nat.xor_assoc, Nat.xor_assoc, ← Nat.xor_assoc u, Nat.xor_comm u y, Nat.xor_assoc y]
  rw [e]
  rcases and128 a with ha | ha <;> rcases and128 b with hb | hb <;> simp [ha, hb]
theorem r7_xor (k a b : Nat) : r7 k (a ^^^ b) = r7 k a ^^^ r7 k b := by
  induction k with
  | zero => rfl
  | succ k ih => simp only [r7, ih, s7_xor]
theorem xor4 (a b c d : Nat) : (a ^^^ b) ^^^ (c ^^^ d) = (a ^^^ c) ^^^ (b ^^^ d) := by
  rw [Nat.xor_assoc, Nat.xor_assoc, ← Nat.xor_assoc b, Nat.xor_comm b c, Nat.xor_assoc c]
theorem c7_xor (a b c d : Nat) : c7 (a ^^^ b) (c ^^^ d) = c7 a c ^^^ c7 b d := by
  unfold c7
  rw [xor_dbl, xor4, r7_xor, xor_half]
def xorL (l m : List Nat) : List Nat := List.zipWith (· ^^^ ·) l m
theorem C7_xor : ∀ (l m : List Nat) (a b : Nat), l.length = m.length → (xorL l m).foldl c7 (a ^^^ b) = l.foldl c7 a ^^^ m.foldl c7 b
  | [], [], a, b, _ => by simp [xorL]
  | x :: l, y :: m, a, b, h => by
    simp only [xorL, List.zipWith_cons_cons, List.foldl_cons]
    rw [c7_xor]
    exact C7_xor l m _ _ (by simpa using h)

/-- One bit turned, from the first byte's first bit on. -/
def flip (l : List Nat) (p : Nat) : List Nat := l.set (p / 8) (l.getD (p / 8) 0 ^^^ (128 / 2 ^ (p % 8)))
def flips (bit pat : Nat) : Nat → List Nat → List Nat
  | 0, l => l
  | k + 1, l => if (pat / 2 ^ k) % 2 = 1 ∧ bit + k < 48 then flip (flips bit pat k l) (bit + k) else flips bit pat k l

theorem flip_length (l : List Nat) (p : Nat) : (flip l p).length = l.length := by simp [flip]
theorem flips_length (bit pat k : Nat) (l : List Nat) : (flips bit pat k l).length = l.length := by
  induction k with
  | zero => rfl
  | succ k ih => unfold flips; split <;> simp [flip_length, ih]
theorem xorL_length (l m : List Nat) (h : l.length = m.length) : (xorL l m).length = l.length := by simp [xorL, h]
theorem xorL_getD (l m : List Nat) (h : l.length = m.length) (i : Nat) : (xorL l m).getD i 0 = l.getD i 0 ^^^ m.getD i 0 := by
  unfold xorL
  simp only [List.getD, List.getElem?_zipWith]
  by_cases hi : i < l.length
  · have hm : i < m.length := by omega
    simp [List.getElem?_eq_getElem hi, List.getElem?_eq_getElem hm]
  · rw [List.getElem?_eq_none (by omega), List.getElem?_eq_none (by omega)]; simp
theorem flip_xorL (l m : List Nat) (h : l.length = m.length) (p : Nat) : flip (xorL l m) p = xorL l (flip m p) := by
  apply List.ext_getElem?
  intro i
  unfold flip
  rw [xorL_getD l m h]
  simp only [xorL, List.getElem?_set, List.getElem?_zipWith, List.length_zipWith]
  by_cases hp : p / 8 = i
  · subst hp
    by_cases hi : p / 8 < l.length
    · have hm : p / 8 < m.length := by omega
      have hmm : p / 8 < min l.length m.length := by omega
      simp [hi, hm, hmm, List.getD, Nat.xor_assoc]
    · have hm : ¬ p / 8 < m.length := by omega
      have hmm : ¬ p / 8 < min l.length m.length := by omega
      simp [hi, hm, hmm]
  · simp [hp]
theorem flips_xorL (bit pat k : Nat) (l m : List Nat) (h : l.length = m.length) : flips bit pat k (xorL l m) = xorL l (flips bit pat k m) := by
  induction k with
  | zero => rfl
  | succ k ih =>
    unfold flips
    split
    · rw [ih, flip_xorL _ _ (by rw [flips_length]; exact h)]
    · exact ih
def zero6 : List Nat := [0, 0, 0, 0, 0, 0]
theorem xorL_zero (l : List Nat) (h : l.length = 6) : xorL l zero6 = l := by
  match l, h with
  | [a, b, c, d, e, f], _ => simp [xorL, zero6]

/-- What the errors alone show: nothing was turned, or the form or the sum is hurt. -/
theorem flips_len6 (bit pat k : Nat) (l : List Nat) (h : l.length = 6) : (flips bit pat k l).length = 6 := by rw [flips_length, h]
theorem flip_lt (l : List Nat) (p : Nat) (h : ∀ x ∈ l, x < 256) : ∀ x ∈ flip l p, x < 256 := by
  intro x hx
  unfold flip at hx
  rcases List.mem_or_eq_of_mem_set hx with h1 | rfl
  · exact h x h1
  · have a : l.getD (p / 8) 0 < 256 := by
      by_cases hi : p / 8 < l.length
      · have : l.getD (p / 8) 0 ∈ l := by simp [List.getD, hi]
        exact h _ this
      · simp [List.getD, List.getElem?_eq_none (Nat.le_of_not_lt hi)]
    have b : 128 / 2 ^ (p % 8) < 256 := Nat.lt_of_le_of_lt (Nat.div_le_self _ _) (by omega)
    exact Nat.xor_lt_two_pow (n := 8) a b
theorem flips_lt (bit pat k : Nat) (l : List Nat) (h : ∀ x ∈ l, x < 256) : ∀ x ∈ flips bit pat k l, x < 256 := by
  induction k with
  | zero => exact h
  | succ k ih => unfold flips; split
                 · exact flip_lt _ _ ih
                 · exact ih
def seenE (e : List Nat) : Bool := e == zero6 || e.getD 0 0 &&& 192 != 0 || e.getD 5 0 &&& 1 != 0 || C7 (e.take 5) != e.getD 5 0 / 2
def okE (bit pat : Nat) : Bool := seenE (flips bit pat 7 zero6)
def okAll : Bool := (List.range 48).all fun bit => (List.range 128).all fun pat => okE bit pat
set_option maxRecDepth 100000 in
theorem okAll_holds : okAll = true := by decide +kernel

theorem flips_mod (bit pat k : Nat) (hk : k ≤ 7) (l : List Nat) : flips bit pat k l = flips bit (pat % 128) k l := by
  induction k with
  | zero => rfl
  | succ k ih =>
    have e : pat % 128 / 2 ^ k % 2 = pat / 2 ^ k % 2 := by
      have : k = 0 ∨ k = 1 ∨ k = 2 ∨ k = 3 ∨ k = 4 ∨ k = 5 ∨ k = 6 := by omega
      rcases this with rfl | rfl | rfl | rfl | rfl | rfl | rfl <;> simp <;> omega
    simp only [flips, e, ih (by omega)]
theorem seen_any (bit pat : Nat) (hb : bit < 48) : seenE (flips bit pat 7 zero6) = true := by
  rw [flips_mod _ _ _ (by omega)]
  have h := okAll_holds
  unfold okAll at h
  rw [List.all_eq_true] at h
  have h1 := h bit (by simpa using hb)
  rw [List.all_eq_true] at h1
  exact h1 (pat % 128) (by simp; omega)

/-- THE PLAIN LAW: a frame with a burst turned is the frame, or none. -/
theorem burst (l : List Nat) (hl : l.length = 6) (ok : (readF l 64).2.2 = 0) (bit pat : Nat) (hb : bit < 48) :
    let y := flips bit pat 7 l
    (y = l) ∨ (y ≠ l ∧ (readF y 64).1 = 0 ∧ (readF y 64).2.1 = 0 ∧ (readF y 64).2.2 ≠ 0) := by
  intro y
  have hy : y = xorL l (flips bit pat 7 zero6) := by
    show flips bit pat 7 l = _
    rw [← flips_xorL _ _ _ _ _ (by simp [hl, zero6]), xorL_zero l hl]
  have hs := seen_any bit pat hb
  have he : (flips bit pat 7 zero6).length = 6 := flips_len6 _ _ _ _ rfl
  generalize flips bit pat 7 zero6 = e at hy hs he
  have hyl : y.length = 6 := by rw [hy, xorL_length _ _ (by omega), hl]
  by_cases h0 : e = zero6
  · left; rw [hy, h0, xorL_zero l hl]
  · right
    have hne : y ≠ l := by
      intro h
      apply h0
      rw [hy] at h
      match l, e, hl, he with
      | [a, b, c, d, f, g], [a', b', c', d', f', g'], _, _ =>
        simp [xorL] at h
        have z : ∀ p q : Nat, p ^^^ q = p → q = 0 := fun p q h => by
          have : p ^^^ (p ^^^ q) = p ^^^ p := by rw [h]
          rw [← Nat.xor_assoc, Nat.xor_self, Nat.zero_xor] at this
          exact this
        simp [zero6, z _ _ h.1, z _ _ h.2.1, z _ _ h.2.2.1, z _ _ h.2.2.2.1, z _ _ h.2.2.2.2.1, z _ _ h.2.2.2.2.2]
    refine ⟨hne, ?_⟩
    -- the frame's own form
    have okl : l.getD 0 0 &&& 192 = 64 ∧ l.getD 5 0 &&& 1 ≠ 0 ∧ C7 (l.take 5) = l.getD 5 0 / 2 := by
      unfold readF at ok
      rw [if_neg (by omega)] at ok
      split at ok
      · simp at ok
      · rename_i h1
        split at ok
        · simp at ok
        · rename_i h2
          simp only [not_or] at h1
          exact ⟨Decidable.not_not.1 h1.2.1, h1.2.2, Decidable.not_not.1 h2⟩
    obtain ⟨o0, o5, os⟩ := okl
    have y0 : y.getD 0 0 &&& 192 = 64 ^^^ (e.getD 0 0 &&& 192) := by rw [hy, xorL_getD _ _ (by omega), xor_and, o0]
    have o5' : l.getD 5 0 &&& 1 = 1 := by have := Nat.and_one_is_mod (l.getD 5 0); omega
    have y5 : y.getD 5 0 &&& 1 = 1 ^^^ (e.getD 5 0 &&& 1) := by rw [hy, xorL_getD _ _ (by omega), xor_and, o5']
    have ys : C7 (y.take 5) = C7 (l.take 5) ^^^ C7 (e.take 5) := by
      have : y.take 5 = xorL (l.take 5) (e.take 5) := by rw [hy]; simp [xorL, List.take_zipWith]
      rw [this]
      have := C7_xor (l.take 5) (e.take 5) 0 0 (by simp; omega)
      simpa [C7] using this
    have yh : y.getD 5 0 / 2 = (l.getD 5 0 / 2) ^^^ (e.getD 5 0 / 2) := by rw [hy, xorL_getD _ _ (by omega), xor_half]
    unfold readF
    rw [if_neg (by omega)]
    by_cases f : 6 < y.length ∨ y.getD 0 0 &&& 192 ≠ 64 ∨ y.getD 5 0 &&& 1 = 0
    · rw [if_pos f]; simp
    · rw [if_neg f]
      have f2 : C7 (y.take 5) ≠ y.getD 5 0 / 2 := by
        intro h
        simp only [not_or] at f
        have f0 : e.getD 0 0 &&& 192 = 0 := by
          have h1 := Decidable.not_not.1 f.2.1
          rw [y0] at h1
          have : 64 ^^^ (64 ^^^ (e.getD 0 0 &&& 192)) = 64 ^^^ 64 := by rw [h1]
          rw [← Nat.xor_assoc, Nat.xor_self, Nat.zero_xor] at this
          exact this
        have f5 : e.getD 5 0 &&& 1 = 0 := by
          have h1 := f.2.2
          rw [y5] at h1
          have := Nat.and_one_is_mod (e.getD 5 0)
          have h2 : e.getD 5 0 % 2 = 0 ∨ e.getD 5 0 % 2 = 1 := by omega
          rcases h2 with h2 | h2
          · omega
          · rw [this, h2] at h1; simp at h1
        rw [ys, yh, os] at h
        have fs : C7 (e.take 5) = e.getD 5 0 / 2 := by
          have h3 : (l.getD 5 0 / 2) ^^^ ((l.getD 5 0 / 2) ^^^ C7 (e.take 5)) = (l.getD 5 0 / 2) ^^^ ((l.getD 5 0 / 2) ^^^ (e.getD 5 0 / 2)) := by rw [h]
          rw [← Nat.xor_assoc, ← Nat.xor_assoc, Nat.xor_self, Nat.zero_xor, Nat.zero_xor] at h3
          exact h3
        have h0' : (e == zero6) = false := by simpa using h0
        unfold seenE at hs
        rw [h0', f0, f5, fs] at hs
        simp at hs
      rw [if_pos f2]; simp
end Go.Proofs.Yteocmpaabihoiaa
