/- frame.Response, Read, Long, ReadLong, slices.Clone: what they compute. -/
import Derived.Test.YteocmpaabihoiaaFrBursts
import Derived.Test.YteocmpaabihoiaaMem
namespace Go.Proofs.Yteocmpaabihoiaa
open Go.RowKit
set_option linter.unusedVariables false
set_option linter.unusedSimpArgs false

def ints8 (l : List Nat) : List Value := l.map fun (x : Nat) => Value.int .u8 (x : Int)
theorem ints8_one (l : List Nat) : ∀ u ∈ ints8 l, u.oneCell' = true := by
  intro u hu; unfold ints8 at hu; rw [List.mem_map] at hu; obtain ⟨x, _, rfl⟩ := hu; rfl
theorem ints8_length (l : List Nat) : (ints8 l).length = l.length := by simp [ints8]
theorem ints8_get (l : List Nat) (i : Nat) (h : i < l.length) : (ints8 l)[i]? = some (.int .u8 (l.getD i 0 : Nat)) := by
  simp [ints8, h, List.getD]
theorem u8_size : (Try.prog.info? 5).map (·.size) = some 1 := by kernel_rfl
theorem u8_info : (Try.prog.info? 5).map (fun i => (i.zero, i.size, i.bytes)) = some (some (.int .u8 0), 1, 1) := by kernel_rfl

def zero17 : List Nat := [63, 0, 0, 0, 0, 0, 0, 0, 0, 0, 0, 0, 0, 0, 0, 0, 0]
def base17 (l : List Nat) : List Nat := splice zero17 1 (l.take 16)
def longL (l : List Nat) : List Nat := (base17 l).set 16 ((base17 l).getD 16 0 ||| 1)
theorem base17_length (l : List Nat) : (base17 l).length = 17 := by
  unfold base17; rw [length_splice]
  · rfl
  · simp [zero17]; omega
theorem ints8_splice (L : List Nat) (o : Nat) (m : List Nat) : ints8 (splice L o m) = splice (ints8 L) o (ints8 m) := by
  simp [ints8, splice, List.map_take, List.map_drop]
theorem or1_lt (x : Nat) (h : x < 256) : x ||| 1 < 256 := Nat.or_lt_two_pow (n := 8) h (by omega)
theorem base17_lt (l : List Nat) (h : ∀ x ∈ l, x < 256) : ∀ x ∈ base17 l, x < 256 := by
  intro x hx
  unfold base17 splice at hx
  rw [List.mem_append, List.mem_append] at hx
  have hz : ∀ y ∈ zero17, y < 256 := by decide
  rcases hx with hx | hx | hx
  · exact hz x (List.mem_of_mem_take hx)
  · exact h x (List.mem_of_mem_take hx)
  · exact hz x (List.mem_of_mem_drop hx)

set_option maxRecDepth 100000 in
set_option maxHeartbeats 1000000 in
theorem Long_any (a : Option Addr) (l : List Nat) (len cap : Nat) (hlen : len = l.length) (h8 : ∀ x ∈ l, x < 256) (w : World) (hc : Cells8 w a l) :
    Calls Try.prog 13 #[.slice a len cap] w fun e w' => e = .returned (.agg (ints8 (longL l)).toArray) ∧ Below w.heap.size w w' := by
  subst hlen
  have Hc := Lib.hid hc
  clear hc
  have Hl : Hid (longL l = (base17 l).set 16 ((base17 l).getD 16 0 ||| 1)) := rfl
  have Hb : Hid (base17 l = splice zero17 1 (l.take 16)) := rfl
  have hb8 := base17_lt l h8
  have hbl := base17_length l
  have HS : Hid (Src w 1 a l.length (ints8 l)) := Src.bytes Hc.out
  obtain ⟨Z, hZ⟩ : ∃ Z, Z = (w.alloc (.cells (ints8 [0, 0, 0, 0, 0, 0, 0, 0, 0, 0, 0, 0, 0, 0, 0, 0, 0]).toArray 41)) := ⟨_, rfl⟩
  have HZ := Lib.hid hZ
  go_enter Try.func13, Try.ntmps13
  go_wp2_with (with_reducible refine wpList_copy_src (o := ⟨some 7, _, _, _, _, _⟩) rfl (.tmp 5) (.tmp 6) 33 33 rfl 5 Try.underlying33 u8_size a 16 16 l.length cap (w.heap.size + 1) 1 rfl rfl (ints8 zero17) 41 ?c1 (ints8 l) ?c2 (ints8_one _) ?c3 (w.heap.size + 1) (w.alloc (.cells (ints8 [0, 0, 0, 0, 0, 0, 0, 0, 0, 0, 0, 0, 0, 0, 0, 0, 0]).toArray 41)) ?c4 ?c5 ?_)
  case c1 => rw [show w.heap.size + 1 = (w.alloc (.cells (ints8 [0, 0, 0, 0, 0, 0, 0, 0, 0, 0, 0, 0, 0, 0, 0, 0, 0]).toArray 41)).heap.size from by simp]; exact Row.fresh (w.alloc (.cells (ints8 [0, 0, 0, 0, 0, 0, 0, 0, 0, 0, 0, 0, 0, 0, 0, 0, 0]).toArray 41)) _ _
  case c2 => exact (HS.out.keep (fun p v h => (World.cell?_alloc_lt _ _ _ (World.block_lt_of_cell? w p h)).trans h)).keep (fun p v h => (World.cell?_alloc_lt _ _ _ (World.block_lt_of_cell? _ p h)).trans h)
  case c3 => simp [ints8_length, zero17]; omega
  case c4 => exact (Below.refl _ _).alloc (by simp) _
  case c5 => exact Nat.le_refl _
  intro w2 HR hb2
  have hR : Row w2 (w.heap.size + 1) 41 (ints8 (base17 l)).toArray := by
    have := HR.out
    rw [Hb.out, ints8_splice]
    simpa [ints8, List.map_take] using this
  have hR0 : Row w2 w.heap.size 41 (ints8 [0, 0, 0, 0, 0, 0, 0, 0, 0, 0, 0, 0, 0, 0, 0, 0, 0]).toArray := (Row.fresh w _ _).below hb2 (by simp)
  clear HR
  have hc16 := hR.cell 16
  rw [List.getElem?_toArray, ints8_get _ _ (by omega)] at hc16
  have hf16 := hR.frozen 16
  have hx16 := hb8 _ (getD_mem (base17 l) 16 (by omega))
  have Hl2 : Hid ((ints8 (longL l)).toArray = (ints8 (base17 l)).toArray.setIfInBounds 16 (.int .u8 (((base17 l).getD 16 0 ||| 1 : Nat) : Int))) := by
    unfold Hid; rw [Hl.out]; simp [ints8, List.map_set]
  clear Hb
  have hbl' : (ints8 (base17 l)).length = 17 := by rw [ints8_length, hbl]
  have HbL := Lib.hid hbl'
  have HR' := Lib.hid hR
  have HR0 := Lib.hid hR0
  have Hb2 := Lib.hid hb2
  have hlt := hR.lt
  clear hbl' hbl hb8 hR hR0 hb2 HS h8 HZ hZ
  revert hc16 hx16 Hl2
  generalize (base17 l).getD 16 0 = x16
  intro hc16 hx16 Hl2
  have eo : bits .or .u8 (x16 : Int) 1 = ((x16 ||| 1 : Nat) : Int) := u8_or_nat x16 1 hx16 (by omega)
  have HR2 : Hid (∀ u : World, u = w2.setCell ⟨w.heap.size + 1, 16, none⟩ (.int .u8 ((x16 ||| 1 : Nat) : Int)) → Row u (w.heap.size + 1) 41 (ints8 (longL l)).toArray ∧ Row u w.heap.size 41 (ints8 [0, 0, 0, 0, 0, 0, 0, 0, 0, 0, 0, 0, 0, 0, 0, 0, 0]).toArray ∧ Below w.heap.size w u) := by
    rintro u rfl
    refine ⟨by rw [Hl2.out]; exact HR'.out.put _ _, HR0.out.far (by simp) _, ?_⟩
    have hb := Hb2.out
    (have hsz0 := Below.size hb; repeat (first | (with_reducible refine Below.drew ?_) | (with_reducible refine below_drewN0 ?_ _) | ((with_reducible refine Below.setCell ?_ ?_ _); rotate_left; focus (first | omega | (simp; done) | (simp; omega) | (simp at *; omega))) | ((with_reducible refine Below.alloc ?_ ?_ _); rotate_left; focus (first | omega | (simp; done) | (simp; omega) | (simp at *; omega))) | ((with_reducible refine Below.trans ?_ (Below.mono hb ?_)); rotate_left; focus (first | omega | (simp; done) | (simp; omega) | (simp at *; omega))) | (with_reducible exact Below.refl _ _)))
  have hsz : (ints8 (longL l)).toArray.size = 17 := by rw [Hl2.out]; simpa using HbL.out
  have hone : (ints8 (longL l)).toArray.all (·.oneCell') = true := by
    rw [Array.all_eq_true_iff_forall_mem]; intro x hx; exact ints8_one _ x (by simpa using hx)
  have Hsz := Lib.hid hsz
  have Hone := Lib.hid hone
  clear hsz hone Hl Hl2 HbL
  have HT : Hid ((Try.prog.info? 41).map (·.size) = some 17) := by unfold Hid; kernel_rfl
  go_wp2_with (first | (with_reducible refine wpList_load_whole (o := ⟨some 12, .load 41 (.tmp 3), _, _, _, _⟩) rfl 41 (.tmp 3) rfl (w.heap.size + 1) ?d1 41 (ints8 (longL l)).toArray ?d2 17 5 ?d3 ?d4 ?_) | (with_reducible refine wpList_store_whole (o := ⟨none, .store 41 (.tmp 2) (.tmp 12), _, _, _, _⟩) rfl 41 (.tmp 2) (.tmp 12) rfl w.heap.size (ints8 (longL l)).toArray ?e1 ?e2 41 (ints8 [0, 0, 0, 0, 0, 0, 0, 0, 0, 0, 0, 0, 0, 0, 0, 0, 0]).toArray ?e3 ?e4 ?e5 Hone.out ?_))
  case d1 => rfl
  case d2 => exact (HR2.out _ rfl).1
  case d3 => exact Try.underlying41
  case d4 => rw [Hsz.out]; exact HT.out
  case e3 => exact (HR2.out _ rfl).2.1
  case e4 => rw [Hsz.out]; exact HT.out
  case e5 => rw [Hsz.out]; rfl
  intro w3 HR3 hg3
  go_wp2_with fail
  refine bodyPost_ret (v := .agg (ints8 (longL l)).toArray) (results_cell_row rfl _ _ w.heap.size 41 _ (0, 0) _ rfl HR3.out Try.underlying41 rfl (by rw [Hsz.out]; exact HT.out)) rfl (And.intro rfl ?_)
  have hb := (HR2.out _ rfl).2.2
  exact below_grown hb hg3 hb.size (Nat.le_refl _)

/-- A card's first byte. -/
def low6 (n : Int) : Nat := (n % 256).toNat &&& 63
theorem low6_lt (n : Int) : low6 n < 64 := Nat.lt_of_le_of_lt Nat.and_le_right (by omega)
theorem low6_small (n : Nat) (h : n < 64) : low6 n = n := by
  unfold low6
  rw [show ((n : Int) % 256).toNat = n by omega, show n &&& 63 = n % 64 from Nat.and_two_pow_sub_one_eq_mod n 6]; omega

set_option maxHeartbeats 400000 in
theorem Response_any (n : Int) (v : Nat) (hv : v < 4294967296) (w : World) :
    Calls Try.prog 12 #[.int .i64 n, .int .u32 v] w fun e w' => e = .returned (laid (low6 n) v) ∧ Below w.heap.size w w' := by
  have e : bits .and .u8 (n % 256) 63 = ((low6 n : Nat) : Int) := by
    have h := u8_and_nat (n % 256).toNat 63 (by omega) (by omega)
    rw [show (((n % 256).toNat : Nat) : Int) = n % 256 by omega] at h
    exact h
  have hl := low6_lt n
  have Hfin : Hid (laid (low6 n) v = .agg #[.int .u8 (low6 n : Nat), .int .u8 ((v : Int) / 16777216), .int .u8 ((v : Int) / 65536 % 256), .int .u8 ((v : Int) / 256 % 256), .int .u8 ((v : Int) % 256), .int .u8 ((sum7 (low6 n) v : Int) * 2 + 1)]) := rfl
  go_enter Try.func12, Try.ntmps12
  go_wp2_with fail
  refine (lay_any (low6 n) v (by omega) hv _).mono ?_
  rintro e w1 ⟨rfl, hb⟩
  obtain ⟨hc, hf⟩ := bcell hb
  have hz := hb.size
  unfold laid
  go_wp2
  refine bodyPost_ret (v := laid (low6 n) v) (by rw [Hfin.out]; simp [results, Try.results12, go_sem, hc]) rfl ⟨rfl, ?_⟩
  (have hsz0 := Below.size hb; repeat (first | (with_reducible refine Below.drew ?_) | (with_reducible refine below_drewN0 ?_ _) | ((with_reducible refine Below.setCell ?_ ?_ _); rotate_left; focus (first | omega | (simp; done) | (simp; omega) | (simp at *; omega))) | ((with_reducible refine Below.alloc ?_ ?_ _); rotate_left; focus (first | omega | (simp; done) | (simp; omega) | (simp at *; omega))) | ((with_reducible refine Below.trans ?_ (Below.mono hb ?_)); rotate_left; focus (first | omega | (simp; done) | (simp; omega) | (simp at *; omega))) | (with_reducible exact Below.refl _ _)))

theorem Read_short (a : Option Addr) (len cap : Nat) (hl : len < 6) (w : World) :
    Calls Try.prog 11 #[.slice a len cap] w fun e w' => e = .returned (.tuple #[.int .i64 0, .int .u32 0, .int .i64 23]) ∧ w = w' := by
  go_enter Try.func11, Try.ntmps11
  go_wp2_with fail
  refine (read_short a len cap 0 hl _).mono ?_
  rintro e w1 ⟨rfl, rfl⟩
  go_wp2
  go_ret3
  exact ⟨rfl, rfl⟩
theorem Read_long (a : Option Addr) (len cap : Nat) (hl : 6 < len) (w : World) :
    Calls Try.prog 11 #[.slice a len cap] w fun e w' => e = .returned (.tuple #[.int .i64 0, .int .u32 0, .int .i64 24]) ∧ w = w' := by
  go_enter Try.func11, Try.ntmps11
  go_wp2_with fail
  refine (read_long a len cap 0 hl _).mono ?_
  rintro e w1 ⟨rfl, rfl⟩
  go_wp2
  go_ret3
  exact ⟨rfl, rfl⟩
def tripOf (r : Nat × Nat × Nat) : Value := .tuple #[.int .i64 r.1, .int .u32 r.2.1, .int .i64 r.2.2]
theorem Read_six (b off : Nat) (l : List Nat) (cap : Nat) (hl : l.length = 6) (hcap : 6 ≤ cap) (hcap' : cap ≤ maxLen) (h8 : ∀ x ∈ l, x < 256) (w : World) (hc : Cells8 w (some ⟨b, off, none⟩) l) :
    Calls Try.prog 11 #[.slice (some ⟨b, off, none⟩) 6 cap] w fun e w' => e = .returned (tripOf (readF l 0)) ∧ ∃ n, w' = w.drewN n := by
  have HR := Lib.hid (read_six b off l cap 0 hl hcap hcap' (by omega) h8 w hc)
  clear hc hl
  go_enter Try.func11, Try.ntmps11
  go_wp2_with fail
  refine (HR.out).mono ?_
  rintro e w1 ⟨rfl, n, rfl⟩
  go_wp2
  go_ret3
  exact ⟨rfl, n, rfl⟩
/-- Every length at once: the walk draws or not. -/
theorem Read_any (a : Option Addr) (l : List Nat) (len cap : Nat) (hlen : len = l.length) (hcap : len ≤ cap) (hcap' : cap ≤ maxLen) (h8 : ∀ x ∈ l, x < 256) (w : World) (hc : Cells8 w a l) :
    Calls Try.prog 11 #[.slice a len cap] w fun e w' => e = .returned (tripOf (readF l 0)) ∧ ∃ n, w' = w.drewN n := by
  subst hlen
  by_cases h1 : l.length < 6
  · refine (Read_short a l.length cap h1 w).mono ?_
    rintro e w' ⟨rfl, rfl⟩
    exact ⟨by unfold readF; rw [if_pos h1]; rfl, 0, rfl⟩
  · by_cases h2 : 6 < l.length
    · refine (Read_long a l.length cap h2 w).mono ?_
      rintro e w' ⟨rfl, rfl⟩
      exact ⟨by unfold readF; rw [if_neg h1, if_pos (Or.inl h2)]; rfl, 0, rfl⟩
    · obtain ⟨b, off, rfl⟩ := hc.addr (by intro e; simp [e] at h1)
      have h6 : l.length = 6 := by omega
      rw [h6]
      exact Read_six b off l cap h6 (by omega) hcap' h8 w hc

set_option maxHeartbeats 400000 in
theorem Clone_any (b off : Nat) (l : List Nat) (len cap : Nat) (hlen : len = l.length) (hm : l.length ≤ 1000000) (w : World) (hc : Cells8 w (some ⟨b, off, none⟩) l) :
    Calls Try.prog 28 #[.slice (some ⟨b, off, none⟩) len cap] w fun e w' => ∃ v, e = .returned v ∧ w'.ownsRow w.heap.size 5 1 v l.length (ints8 l) ∧ Below w.heap.size w w' := by
  subst hlen
  obtain ⟨i0, hi, hz0, hz1, hz2⟩ := info_parts u8_info
  have HS : Hid (Src w 1 (some ⟨b, off, none⟩) l.length (ints8 l)) := Src.bytes hc
  clear hc
  have heq : ∀ u : World, (binOp .eql 33 (.slice (some ⟨b, off, none⟩) l.length cap) (.slice none 0 0)).run Try.prog u = .ok (.bool false) u := fun u => Lib.run_eql_slice_nil (P := Try.prog) u 33 5 _ _ _ _ _ Try.underlying33
  go_enter Try.func28, Try.ntmps28
  go_wp2_with (at_builtin; refine wpList_append_src _ rfl (.tmp 5) (.tmp 6) 33 rfl w.heap.size 5 i0 (.int .u8 0) 1 1 Try.underlying33 hi hz0 hz1 hz2 rfl (by decide) (.slice (some ⟨w.heap.size, 0, none⟩) 0 0) 0 [] rfl ?c1 (some ⟨b, off, none⟩) l.length cap (ints8 l) rfl ?c2 (ints8_one _) ?c3 ?c4 ?c5 ?_)
  case c1 => exact World.ownsRow_made w #[] 0 (Nat.le_refl _) (by simp [maxLen]) (by simp)
  case c2 => exact HS.out.keep (fun p v h => (World.cell?_alloc_lt _ _ _ (World.block_lt_of_cell? w p h)).trans h)
  case c3 => unfold maxLen; omega
  case c4 => omega
  case c5 => simp
  intro v1 w1 own1 gr1 at1
  have Hown := Lib.hid own1
  have Hgr := Lib.hid gr1
  clear own1 gr1 at1
  go_wp2_with fail
  go_ret
  refine ⟨v1, rfl, ?_, ?_⟩
  · have := Hown.out
    simpa using this
  · exact ((Below.refl _ _).alloc (Nat.le_refl _) _).grown Hgr.out (by simp) (by simp [Value.ownBlock])
end Go.Proofs.Yteocmpaabihoiaa
