/- What follows is laid together from several texts of mine, in their order. -/
import Derived.Test.YtfipmpajdkgffaaQ6

namespace Go.Proofs.Ytfipmpajdkgffaa
open Go.RowKit Go.MapKept Go.ChangeMaps
attribute [local go_sem] Oper.semAt_some
attribute [local simp, local go_sem] wide_fn
set_option linter.unusedVariables false
set_option linter.unusedSimpArgs false

theorem load_any2 (w : World) (Mb Sb Q Db : Nat) (P pb : Nat → Nat) (T F : List Nat) (S : Sm) (sh : Sh) (h : SmAt w Mb Sb Q Db P pb T F S sh) (A : Option Addr) (d : List Nat) (c : Nat) (hlen : d.length ≤ 140737488351232) (hcap : d.length ≤ c) (hA : Cells8 w A d) (hAT : ∀ a, A = some a → 0 < d.length → a.block ∉ T) (hsm : ∀ u ∈ d, u < 256) :
    Calls Try.prog 28 #[.pointer (some ⟨Mb, 0, none⟩), .slice A d.length c] w (LoadP w Mb Sb Q Db P pb T F S sh d) := by
  by_cases h1 : d.length = 8 + 4 * S.np
  · by_cases h2 : num4 d 0 = 1346456915
    · by_cases h3 : num4 d 4 = S.np
      · exact load_in w Mb Sb Q Db P pb T F S sh h A d c hlen hcap h1 hA (fun a e => hAT a e (by omega)) hsm h2 h3
      · exact load_magic w Mb Sb Q Db P pb T F S sh h A d c hlen hcap h1 hA hsm (.inr h3)
    · exact load_magic w Mb Sb Q Db P pb T F S sh h A d c hlen hcap h1 hA hsm (.inl h2)
  · exact load_len w Mb Sb Q Db P pb T F S sh h A d c hlen hcap h1
/-- What only a fresh map's own blocks turn. -/
theorem Load_any2 (w : World) (Sb : Nat) (T F : List Nat) (sh : Sh) (hs : ShIs w Sb T F sh) (hTF : ∀ k ∈ F, k ∉ T) (hlt : ∀ k, k ∈ T ∨ k ∈ F → k < w.heap.size) (a b c : Nat) (ha : 1 ≤ a ∧ a ≤ 16384) (hb : 16 ≤ b ∧ b ≤ 4096 ∧ b % 4 = 0) (hc : 1 ≤ c ∧ c ≤ 4096)
    (A : Option Addr) (d : List Nat) (cp : Nat) (hlen : d.length ≤ 140737488351232) (hcap : d.length ≤ cp) (hA : Cells8 w A d) (hAT : ∀ a, A = some a → 0 < d.length → a.block ∉ T ∧ a.block < w.heap.size) (hsm : ∀ u ∈ d, u < 256) :
    Calls Try.prog 14 #[.int .i64 a, .int .i64 b, .int .i64 c, .iface 33 (.pointer (some ⟨Sb, 0, none⟩)), .slice A d.length cp] w (LoadsP w Sb T F (Sm.new a b c) sh d) := by
  have HN := Lib.hid (New_any w Sb T F sh hs hTF hlt a b c ha hb hc)
  have HL : Hid (∀ u, Below w.heap.size w u → NewIs u w.heap.size Sb T F a b c sh → Calls Try.prog 28 #[.pointer (some ⟨w.heap.size + 1, 0, none⟩), .slice A d.length cp] u (LoadsP w Sb T F (Sm.new a b c) sh d)) := fun u hu hi =>
    (load_any2 u _ Sb _ _ _ _ _ F _ sh hi A d cp hlen hcap (hA.keep (keep_below hu)) (fun x hx h0 => by
      obtain ⟨h1, h2⟩ := hAT x hx h0
      simp only [List.mem_cons, not_or]
      exact ⟨by omega, by omega, by omega, h1⟩) hsm).mono fun e w' h => by
      rcases h with ⟨h1, h2, h3, h4⟩ | ⟨h1, h2, h4⟩
      · exact .inl ⟨_, h1, h2, by omega, h4.below hu hu.size (by simp), _, fun k hk => by
          simp only [List.mem_cons] at hk
          rcases hk with rfl | rfl | rfl | hk
          · exact .inr (by omega)
          · exact .inr (by omega)
          · exact .inr (by omega)
          · exact .inl hk, ⟨_, _, _, _, h3⟩⟩
      · exact .inr ⟨h1, h2, h4.below hu hu.size (by simp)⟩
  have HK : Hid (∃ K, K = LoadsP w Sb T F (Sm.new a b c) sh d) := ⟨_, rfl⟩
  obtain ⟨K, hK⟩ := HK.out
  have HKe := Lib.hid hK
  rw [← hK]
  clear hK HK hs hTF hlt ha hb hc hlen hcap hA hAT hsm
  go_enter Try.func14, Try.ntmps14
  go_wp2_with fail
  refine HN.out.mono ?_
  rintro e w2 ⟨rfl, hi, hb⟩
  have HL2 := Lib.hid (HL.out w2 hb hi)
  clear hi hb HL HN
  go_wp2_with fail
  refine HL2.out.mono ?_
  rintro e w3 hp
  have HP := Lib.hid hp
  rcases hp with ⟨Mb, rfl, _⟩ | ⟨rfl, _⟩
  · go_wp2
    rw [HKe.out]; exact HP.out
  · go_wp2
    rw [HKe.out]; exact HP.out
theorem run_equal_place (w : World) (a s a' s' : Int) : (Op.equalIn 10000 28 (.agg #[.int .i64 a, .int .i64 s]) (.agg #[.int .i64 a', .int .i64 s'])).run Try.prog w = .ok (decide (a = a' ∧ s = s')) w := by
  have hf : (Try.prog.fieldsOf 28).toList.map (fun f => (f.name, f.type, f.offset)) = [("Block", 3, 0), ("Page", 3, 1)] := by
    unfold Program.fieldsOf; rw [Try.underlying28]; rfl
  rw [run_equalIn_struct w 9999 _ _ _ place_fields (by kernel_rfl)]
  generalize (Try.prog.fieldsOf 28).toList = fs at hf
  rw [List.map_eq_cons_iff] at hf
  obtain ⟨f0, l1, rfl, e0, hf⟩ := hf
  rw [List.map_eq_cons_iff] at hf
  obtain ⟨f1, l2, rfl, e1, hf⟩ := hf
  rw [List.map_eq_nil_iff] at hf
  subst hf
  simp only [Prod.mk.injEq] at e0 e1
  obtain ⟨n0, t0, o0⟩ := e0
  obtain ⟨n1, t1, o1⟩ := e1
  have pk : Try.prog.plainKey 3 = true := by kernel_rfl
  have p0 : ∀ x y : Int, (part 3 #[.int .i64 x, .int .i64 y] 0).run Try.prog w = .ok (.int .i64 x) w := fun x y => run_part_plain (P := Try.prog) w pk (by simp)
  have p1 : ∀ x y : Int, (part 3 #[.int .i64 x, .int .i64 y] 1).run Try.prog w = .ok (.int .i64 y) w := fun x y => run_part_plain (P := Try.prog) w pk (by simp)
  have e0 : ∀ x y : Int, (Op.equalIn 9999 3 (.int .i64 x) (.int .i64 y)).run Try.prog w = .ok (x == y) w := fun x y => run_equalIn_int (P := Try.prog) w 9998 _ _ _ x y Try.underlying3
  simp only [Op.eqFields, n0, t0, o0, n1, t1, o1]
  by_cases h0 : a = a'
  · by_cases h1 : s = s'
    · simp [p0, p1, e0, h0, h1, Result.andThen]
    · simp [p0, p1, e0, h0, h1, Result.andThen]
  · simp [p0, p1, e0, h0, Result.andThen]
theorem run_neq_place (w : World) (a s a' s' : Int) : (binOp .neq 28 (.agg #[.int .i64 a, .int .i64 s]) (.agg #[.int .i64 a', .int .i64 s'])).run Try.prog w = .ok (.bool (!decide (a = a' ∧ s = s'))) w := by
  rw [run_neq_struct, run_equal_place]; rfl
theorem ldk_wl {S : Sm} {sh : Sh} {d : List Nat} {k : Nat} (h : Wl S sh) (hp : ∀ n, S.parts n = none) : Wl (S.ldk d k) sh :=
  ⟨fun n x hx => by (rw [show (S.ldk d k).parts n = S.parts n from rfl, hp n] at hx; cases hx), fun n x hx => by (rw [show (S.ldk d k).parts n = S.parts n from rfl, hp n] at hx; cases hx), h.len, h.same, h.held, h.full, h.page⟩
set_option maxRecDepth 100000 in
set_option maxHeartbeats 4000000 in
theorem loads_in (a c : Nat) (ha : 1 ≤ a ∧ a ≤ 2000) (hc : 1 ≤ c ∧ c ≤ 8) (A : Option Addr) (d : List Nat) (cap : Nat) (s : Int) (W : World) (hA : Cells8 W A d) (hsm : ∀ u ∈ d, u < 256) (hl : d.length ≤ 16384) (hcap : d.length ≤ cap) :
    Calls Try.prog 4 #[.int .i64 a, .int .i64 c, .slice A d.length cap, .int .i64 s] W fun e w' => e = .returned (.bool true) ∧ Below W.heap.size W w' := by
  have HK := Lib.hid (known_any W)
  have HC := Lib.hid hA
  have HSm := Lib.hid hsm
  have HAlt : Hid (∀ x, A = some x → 0 < d.length → x.block < W.heap.size) := fun x e h0 => by
    obtain ⟨b, off, e2, hc⟩ := hA 0 h0
    rw [e2] at e; injection e with e; subst e
    exact World.block_lt_of_cell? W _ hc
  have heq := run_neq_place
  have HAa := Lib.hid ha
  have HCc := Lib.hid hc
  obtain ⟨ha1, ha2⟩ := ha
  obtain ⟨hc1, hc2⟩ := hc
  have HLd : Hid (∀ u Sb, ShIs u Sb [Sb] [] sh0 → W.heap.size ≤ Sb → Sb < u.heap.size → Below W.heap.size W u → Calls Try.prog 14 #[.int .i64 a, .int .i64 16, .int .i64 c, .iface 33 (.pointer (some ⟨Sb, 0, none⟩)), .slice A d.length cap] u (LoadsP u Sb [Sb] [] (Sm.new a 16 c) sh0 d)) := fun u Sb hs h1 h2 hb =>
    Load_any2 u Sb [Sb] [] sh0 hs (by simp) (fun k hk => by simp at hk; rw [hk]; exact h2) a 16 c ⟨ha1, by omega⟩ (by decide) ⟨hc1, by omega⟩ A d cap (by omega) hcap (hA.keep (keep_below hb)) (fun x e h0 => by
      have := HAlt.out x e h0
      have := hb.size
      simp; omega) hsm
  obtain ⟨dl, hdl⟩ : ∃ dl, dl = d.length := ⟨_, rfl⟩
  rw [← hdl] at HLd hl hcap ⊢
  clear hA hsm hdl
  go_enter Try.func4, Try.ntmps4
  go_wp2_with fail
  refine HK.out.mono ?_
  rintro e w1 ⟨rfl, hb1'⟩
  have HB1 := Lib.hid hb1'
  have HBz := Lib.hid HB1.out.size
  clear hb1' HK
  go_wp2_with fail
  refine (NewShelf_any w1).mono ?_
  rintro e w2 ⟨rfl, hs2, hb2'⟩
  have HB2 : Hid (Below W.heap.size W w2) := HB1.out.trans (hb2'.mono HB1.out.size)
  have HS2 := Lib.hid hs2
  have HLt2 : Hid (w1.heap.size < w2.heap.size) := by
    obtain ⟨v1, v2, xs, h1, _⟩ := hs2.at'
    exact h1.lt
  clear hb2' hs2
  go_wp2_with fail
  refine (HLd.out w2 w1.heap.size HS2.out HBz.out HLt2.out HB2.out).mono ?_
  rintro e w3 (⟨Mb, rfl, hok, hMb, hb3, T', hT', hsm3⟩ | ⟨rfl, _, hb3⟩)
  · have HB3 : Hid (Below W.heap.size W w3) := HB2.out.trans (hb3.mono HB2.out.size)
    have HM3 : Hid (Mst w1.heap.size w3 Mb a 16 c 0 0) := ⟨w1.heap.size, T', [], _, sh0, hsm3, ldk_wl (new_wl (by decide) (by simp [sh0]) rfl (by simp [sh0])) (fun _ => rfl), rfl, fun q hq => by
      rcases hT' q hq with h | h
      · simp at h; omega
      · have := HLt2.out; omega, by have := hb3.size; have := HLt2.out; omega, ⟨rfl, rfl, rfl⟩, by simp [sh0], by simp [Sm.ldk, Sm.new]⟩
    have HG := Lib.hid (HM3.out.get (by omega) s)
    clear hok hMb hb3 hT' hsm3 HLd HM3
    go_wp2_with fail
    refine HG.out.mono ?_
    rintro e w4 ⟨⟨v, z, rfl, hv, hz⟩, hm4, hb4⟩
    obtain ⟨b, p, hnv, hb6, hp6, hv0⟩ := numV_right hv
    rw [hnv]
    have HB4 : Hid (Below W.heap.size W w4) := HB3.out.trans (hb4.mono HBz.out)
    have HBa : Hid (Below w4.heap.size w4 (w4.alloc (.cells #[.int .i64 b, .int .i64 p] 28))) := by unfold Hid; (repeat (first | (with_reducible refine Below.drew ?_) | (with_reducible refine below_drewN0 ?_ _) | ((with_reducible refine Below.setCell ?_ ?_ _); rotate_left; focus (first | omega | (simp; done) | (simp; omega) | (simp at *; omega))) | ((with_reducible refine Below.alloc ?_ ?_ _); rotate_left; focus (first | omega | (simp; done) | (simp; omega) | (simp at *; omega))) | (with_reducible exact Below.refl _ _)))
    have HM4 := Lib.hid (hm4.below HBa.out)
    have HB4a : Hid (Below W.heap.size W (w4.alloc (.cells #[.int .i64 b, .int .i64 p] 28))) := HB4.out.trans (HBa.out.mono HB4.out.size)
    have HRi : Hid (∀ u, Calls Try.prog 10 #[.agg #[.int .i64 b, .int .i64 p]] u fun e w' => e = .returned (.bool true) ∧ Below u.heap.size u w') := fun u => by
      have := lright_any b p u
      rw [show rightB b p = true from decide_eq_true (by omega)] at this
      exact this
    have HZ0 := Lib.hid hz
    have HV0 := Lib.hid hv0
    clear hnv hm4 hb4 HG hv hz hv0
    by_cases h0 : v = 0
    · have hbp := HV0.out h0
      obtain ⟨rfl, rfl⟩ := hbp
      subst h0
      have HM := HM4
      have HB5 := HB4a
      by_cases hz0 : z = 0
      · subst hz0
        have HSe := Lib.hid (HM.out.set (by omega) s 0 0 (by decide) (by decide))
        clear HM
        go_wp2_with fail
        refine HSe.out.mono ?_
        rintro e w6 ⟨⟨z6, rfl⟩, hm6, hb6⟩
        have HB6 : Hid (Below W.heap.size W w6) := HB5.out.trans (hb6.mono HBz.out)
        have HF6 := Lib.hid (hm6.flush (by omega))
        clear hm6 hb6 HSe
        go_wp2_with fail
        refine HF6.out.mono ?_
        rintro e w7 ⟨rfl, hm7, hb7⟩
        have HB7 : Hid (Below W.heap.size W w7) := HB6.out.trans (hb7.mono HBz.out)
        have HH7 := Lib.hid hm7.held
        clear hm7 hb7 HF6
        go_wp2_with fail
        refine HH7.out.mono ?_
        rintro e w8 ⟨⟨n8, rfl, hn8⟩, hb8⟩
        have HB8 : Hid (Below W.heap.size W w8) := HB7.out.trans (hb8.mono HB7.out.size)
        clear hb8 HH7
        go_wp2
        go_ret
        exact ⟨by first | (simp; done) | (simp; omega), HB8.out⟩
      · have hz1 : ¬ z = 0 := hz0
        have HSe := Lib.hid (HM.out.set (by omega) s 0 0 (by decide) (by decide))
        clear HM
        go_wp2_with fail
        refine HSe.out.mono ?_
        rintro e w6 ⟨⟨z6, rfl⟩, hm6, hb6⟩
        have HB6 : Hid (Below W.heap.size W w6) := HB5.out.trans (hb6.mono HBz.out)
        have HF6 := Lib.hid (hm6.flush (by omega))
        clear hm6 hb6 HSe
        go_wp2_with fail
        refine HF6.out.mono ?_
        rintro e w7 ⟨rfl, hm7, hb7⟩
        have HB7 : Hid (Below W.heap.size W w7) := HB6.out.trans (hb7.mono HBz.out)
        have HH7 := Lib.hid hm7.held
        clear hm7 hb7 HF6
        go_wp2_with fail
        refine HH7.out.mono ?_
        rintro e w8 ⟨⟨n8, rfl, hn8⟩, hb8⟩
        have HB8 : Hid (Below W.heap.size W w8) := HB7.out.trans (hb8.mono HB7.out.size)
        clear hb8 HH7
        go_wp2
        go_ret
        exact ⟨by first | (simp; done) | (simp; omega), HB8.out⟩
    · have hz0 : z = 0 := Classical.byContradiction fun h => h0 (HZ0.out h)
      subst hz0
      go_wp2_with fail
      refine (HRi.out _).mono ?_
      rintro e w5 ⟨rfl, hb5⟩
      have HM := Lib.hid (HM4.out.below hb5)
      have HB5 : Hid (Below W.heap.size W w5) := HB4a.out.trans (hb5.mono HB4a.out.size)
      clear hb5 HRi HM4
      have HSe := Lib.hid (HM.out.set (by omega) s 0 0 (by decide) (by decide))
      clear HM
      go_wp2_with fail
      refine HSe.out.mono ?_
      rintro e w6 ⟨⟨z6, rfl⟩, hm6, hb6⟩
      have HB6 : Hid (Below W.heap.size W w6) := HB5.out.trans (hb6.mono HBz.out)
      have HF6 := Lib.hid (hm6.flush (by omega))
      clear hm6 hb6 HSe
      go_wp2_with fail
      refine HF6.out.mono ?_
      rintro e w7 ⟨rfl, hm7, hb7⟩
      have HB7 : Hid (Below W.heap.size W w7) := HB6.out.trans (hb7.mono HBz.out)
      have HH7 := Lib.hid hm7.held
      clear hm7 hb7 HF6
      go_wp2_with fail
      refine HH7.out.mono ?_
      rintro e w8 ⟨⟨n8, rfl, hn8⟩, hb8⟩
      have HB8 : Hid (Below W.heap.size W w8) := HB7.out.trans (hb8.mono HB7.out.size)
      clear hb8 HH7
      go_wp2
      go_ret
      exact ⟨by first | (simp; done) | (simp; omega), HB8.out⟩
  · have HB3 : Hid (Below W.heap.size W w3) := HB2.out.trans (hb3.mono HB2.out.size)
    clear hb3 HLd
    go_wp2
    go_ret
    exact ⟨by first | (simp; done) | rfl, HB3.out⟩
set_option maxRecDepth 100000 in
set_option maxHeartbeats 4000000 in
theorem loads_no (a c s : Int) (A : Option Addr) (n cap : Nat) (W : World) (hm : n ≤ 9223372036854775807) (h : ¬ (1 ≤ a ∧ a ≤ 2000 ∧ 1 ≤ c ∧ c ≤ 8 ∧ n ≤ 16384)) :
    Calls Try.prog 4 #[.int .i64 a, .int .i64 c, .slice A n cap, .int .i64 s] W fun e w' => e = .returned (.bool true) ∧ Below W.heap.size W w' := by
  have HK := Lib.hid (known_any W)
  by_cases h0 : 1 ≤ a
  · by_cases h1 : a ≤ 2000
    · by_cases h2 : 1 ≤ c
      · by_cases h3 : c ≤ 8
        · by_cases h4 : n ≤ 16384
          · exact absurd ⟨h0, h1, h2, h3, h4⟩ h
          · clear h
            go_enter Try.func4, Try.ntmps4
            go_wp2_with fail
            refine HK.out.mono ?_
            rintro e w1 ⟨rfl, hb1'⟩
            have HB1 := Lib.hid hb1'
            clear hb1' HK
            go_wp2
            go_ret
            exact ⟨by first | (simp; done) | rfl, HB1.out⟩
        · clear h
          go_enter Try.func4, Try.ntmps4
          go_wp2_with fail
          refine HK.out.mono ?_
          rintro e w1 ⟨rfl, hb1'⟩
          have HB1 := Lib.hid hb1'
          clear hb1' HK
          go_wp2
          go_ret
          exact ⟨by first | (simp; done) | rfl, HB1.out⟩
      · clear h
        go_enter Try.func4, Try.ntmps4
        go_wp2_with fail
        refine HK.out.mono ?_
        rintro e w1 ⟨rfl, hb1'⟩
        have HB1 := Lib.hid hb1'
        clear hb1' HK
        go_wp2
        go_ret
        exact ⟨by first | (simp; done) | rfl, HB1.out⟩
    · clear h
      go_enter Try.func4, Try.ntmps4
      go_wp2_with fail
      refine HK.out.mono ?_
      rintro e w1 ⟨rfl, hb1'⟩
      have HB1 := Lib.hid hb1'
      clear hb1' HK
      go_wp2
      go_ret
      exact ⟨by first | (simp; done) | rfl, HB1.out⟩
  · clear h
    go_enter Try.func4, Try.ntmps4
    go_wp2_with fail
    refine HK.out.mono ?_
    rintro e w1 ⟨rfl, hb1'⟩
    have HB1 := Lib.hid hb1'
    clear hb1' HK
    go_wp2
    go_ret
    exact ⟨by first | (simp; done) | rfl, HB1.out⟩
theorem loads_walk (a c s : Int) (A : Option Addr) (d : List Nat) (cap : Nat) (W : World) (hA : Cells8 W A d) (hsm : ∀ u ∈ d, u < 256) (hcap : d.length ≤ cap) (hm : cap ≤ maxLen) :
    Calls Try.prog 4 #[.int .i64 a, .int .i64 c, .slice A d.length cap, .int .i64 s] W fun e w' => e = .returned (.bool true) ∧ Below W.heap.size W w' := by
  unfold maxLen at hm
  by_cases h : 1 ≤ a ∧ a ≤ 2000 ∧ 1 ≤ c ∧ c ≤ 8 ∧ d.length ≤ 16384
  · obtain ⟨h0, h1, h2, h3, h4⟩ := h
    obtain ⟨a, rfl⟩ : ∃ x : Nat, a = x := ⟨a.toNat, by omega⟩
    obtain ⟨c, rfl⟩ : ∃ x : Nat, c = x := ⟨c.toNat, by omega⟩
    exact loads_in a c (by omega) (by omega) A d cap s W hA hsm h4 hcap
  · exact loads_no a c s A d.length cap W (by omega) h
end Go.Proofs.Ytfipmpajdkgffaa
