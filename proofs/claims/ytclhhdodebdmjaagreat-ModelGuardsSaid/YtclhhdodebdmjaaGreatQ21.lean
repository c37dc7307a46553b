/- What follows is laid together from several texts of mine, in their order. -/
import Derived.Test.YtclhhdodebdmjaaGreatQ20

namespace Go.Proofs.YtclhhdodebdmjaaGreat
open Go.RowKit Go.MapKept Go.ChangeMaps
set_option linter.unusedVariables false
set_option linter.unusedSimpArgs false
set_option maxRecDepth 100000

theorem Equal_bytes (A1 A2 : Nat) (c1 c2 : Nat) (l m : List Nat) (hlm : l.length = m.length) (hl : l.length ≤ 1000) (w : World) (h1 : ∀ j, j < l.length → w.cell? ⟨A1, j, none⟩ = some (.int .u8 (l.getD j 0 : Nat))) (h2 : ∀ j, j < l.length → w.cell? ⟨A2, j, none⟩ = some (.int .u8 (m.getD j 0 : Nat))) (hc1 : l.length ≤ c1) (hc2 : l.length ≤ c2) :
    Calls Tryz.prog 211 #[.slice (some ⟨A1, 0, none⟩) l.length c1, .slice (some ⟨A2, 0, none⟩) l.length c2] w fun e w' => e = .returned (.bool (decide (l = m))) ∧ Below w.heap.size w w' := by
  obtain ⟨n, hn⟩ : ∃ n, n = l.length := ⟨_, rfl⟩
  rw [← hn] at h1 h2 hl hc1 hc2 ⊢
  have HL := Lib.hid (And.intro hn hlm)
  have H1 := Lib.hid h1
  have H2 := Lib.hid h2
  clear hn hlm h1 h2
  go_enter Tryz.func211, Tryz.ntmps211
  go_wp2
  go_loopw [13] (fun i wr => ∃ k : Nat, k ≤ n ∧ i = .int .i64 k ∧ (∀ j, j < k → l.getD j 0 = m.getD j 0) ∧ Below w.heap.size w wr) (fun i _ => n - (intOf i).toNat)
  case atStart => exact ⟨0, Nat.zero_le _, rfl, fun j hj => absurd hj (by omega), Below.refl _ _⟩
  case round =>
    obtain ⟨k, hkn, rfl, hp, hb⟩ := hrel
    have HP := Lib.hid hp
    have HB := Lib.hid hb
    clear hp hb
    by_cases hk : k < n
    · have k1 : wr.cell? ⟨A1, k, none⟩ = some (.int .u8 (l.getD k 0 : Nat)) := keep_below HB.out _ _ (H1.out k hk)
      have k2 : wr.cell? ⟨A2, k, none⟩ = some (.int .u8 (m.getD k 0 : Nat)) := keep_below HB.out _ _ (H2.out k hk)
      obtain ⟨x, hx⟩ : ∃ x, x = l.getD k 0 := ⟨_, rfl⟩
      obtain ⟨y, hy⟩ : ∃ y, y = m.getD k 0 := ⟨_, rfl⟩
      rw [← hx] at k1
      rw [← hy] at k2
      have HXY := Lib.hid (And.intro hx hy)
      clear hx hy
      by_cases hxy : x = y
      · have q : ((x : Int) != (y : Int)) = false := by simp [hxy]
        have HP2 : Hid (∀ j, j < k + 1 → l.getD j 0 = m.getD j 0) := fun j hj => by
          by_cases hjk : j < k
          · exact HP.out j hjk
          · obtain rfl : k = j := by omega
            rw [← HXY.out.1, ← HXY.out.2, hxy]
        subst hxy
        go_wp2
        go_quiet (fail)
        go_wp2
        go_roundw
        case rel => exact ⟨k + 1, by omega, by go_num, HP2.out, below_drewN0 HB.out nq⟩
        case measure => simp [intOf]; omega
      · have q : ((x : Int) != (y : Int)) = true := by simp; omega
        have HD : Hid (decide (l = m) = false) := by
          unfold Hid
          simp only [decide_eq_false_iff_not]
          intro e
          apply hxy
          rw [HXY.out.1, HXY.out.2, e]
        go_wp2
        go_quiet (fail)
        go_wp2
        go_ret
        exact ⟨by rw [HD.out]; rfl, below_drewN0 HB.out nq⟩
    · obtain rfl : n = k := by omega
      have HD : Hid (decide (l = m) = true) := by
        unfold Hid
        simp only [decide_eq_true_eq]
        refine List.ext_getElem HL.out.2 (fun j hj hj2 => ?_)
        have := HP.out j (by rw [HL.out.1]; exact hj)
        rw [List.getD_eq_getElem?_getD, List.getD_eq_getElem?_getD, List.getElem?_eq_getElem hj, List.getElem?_eq_getElem hj2] at this
        exact this
      go_wp2
      go_ret
      exact ⟨by rw [HD.out]; rfl, HB.out⟩
theorem own_cells {w : World} {B L n cc : Nat} {l : List Nat} (h : w.ownsRow B 5 1 (.slice (some ⟨L, 0, none⟩) n cc) n (intsV .u8 l)) : (∀ j, j < l.length → w.cell? ⟨L, j, none⟩ = some (.int .u8 (l.getD j 0 : Nat))) ∧ n ≤ cc := by
  have hs := Src.of_own h
  have hlen : l.length = n := by have := hs.len; simpa [intsV] using this
  refine ⟨fun j hj => ?_, ?_⟩
  · obtain ⟨ad, e, hc⟩ := hs.lies (by omega)
    injection e with e
    subst e
    have h0 := hc j (.int .u8 (l.getD j 0 : Nat)) (by simp [intsV, List.getD_eq_getElem?_getD, List.getElem?_eq_getElem hj])
    cases j with
    | zero => exact h0
    | succ j => simpa [Addr.add] using h0
  · rcases h.2 with ⟨hz, _⟩ | ⟨g, cap, cur, hz, _, _, hle, _⟩
    · injection hz with h1 h2; cases h1
    · injection hz with h1 h2 h3; omega
theorem mt_Keep (D M : Nat) (w : World) : (Go.method 495 133 (.agg #[.pointer (some ⟨D, 0, none⟩), .pointer (some ⟨M, 0, none⟩)]) "Keep").run Tryz.prog w = .ok (318, .pointer (some ⟨D, 0, none⟩)) w := by kernel_rfl
theorem nl_Keep (D M : Nat) (w : World) : (nilAhead 495 133 (.agg #[.pointer (some ⟨D, 0, none⟩), .pointer (some ⟨M, 0, none⟩)]) "Keep").run Tryz.prog w = .ok (some false) w := by kernel_rfl
theorem Keep_any (D : Nat) (u v : Value) (w : World) : Calls Tryz.prog 318 #[.pointer (some ⟨D, 0, none⟩), u, v] w fun e w' => e = .returned (.bool true) ∧ w' = w := by
  go_enter Tryz.func318, Tryz.ntmps318
  go_wp2
  go_ret
  exact ⟨rfl, rfl⟩
def lvl (x : Nat) : Int := if x = 1 then 2 else if x = 2 then 3 else 1
section
variable {w w' : World} {b : Bn} {T F : List Nat} {c : Cf} {S : Ab}
theorem S_G_len (h : AbOk c S) : 0 < S.G.length ∧ S.G.length ≤ 256 := by
  have h1 := h.G.1
  have h2 := h.cfg.1.k11
  have h3 := h.cfg.1.group
  have h4 : 1 ≤ c.user / c.group := by rw [Int.le_ediv_iff_mul_le (by omega)]; omega
  omega
theorem place_bd (h : AbOk c S) {a : Int} {s : Int} {p : Nat} (hp : placeI c S.now a s = some (p : Int)) : (p : Int) ≤ 17152 ∧ p < (totalI c).toNat := by
  unfold placeI at hp
  split at hp
  · rename_i hc
    injection hp with hp
    have h1 := firstV_bd h.cfg.1 h.now a.toNat
    have h2 : sizeI c S.now a ≤ sizeV c S.now a.toNat := by
      unfold sizeI; split
      · omega
      · have := sizeV_bd h.cfg.1 h.now a.toNat; omega
    have h3 : totalI c ≤ 17152 := by
      have hu := h.cfg.1.user; have hb := h.cfg.1.boot; have hr := h.cfg.1.rpa
      unfold totalI; omega
    omega
  · cases hp
theorem prot_set (h : AbIs w b T F c S) (arg p : Nat) (harg : arg < 4294967296) (harea : S.V 0 = 0 ∨ 4 ≤ S.V 0) (hin : insideB c S ((S.V 0 : Nat) : Int) arg 1 = true) (hp : placeI c S.now ((S.V 0 : Nat) : Int) (arg : Int) = some (p : Int)) :
    Calls Tryz.prog 142 #[.pointer (some ⟨b.E, 0, none⟩), .agg #[.int .i64 28, .int .u32 arg]] w fun e w' => e = .returned (.agg #[.bool false, .slice none 0 0, .int .u32 (stN ({ S with G := Grd.setK S.G ((p : Int) / c.group) (lvl (S.V 5)) } : Ab) : Nat), .slice none 0 0]) ∧ Nx w w' b T F c ({ S with G := Grd.setK S.G ((p : Int) / c.group) (lvl (S.V 5)) } : Ab).told := by
  have hpbd := (place_bd h.ok hp).1
  have HAr := Lib.hid harea
  have HIn0 := Lib.hid hin
  have HPl0 := Lib.hid hp
  have hgb := h.ok.cfg.1.group
  have HH := Lib.hid h
  have hgl := S_G_len h.ok
  have HL : Hid ((∀ k ∈ T, k < w.heap.size) ∧ ∀ k ∈ F, k < w.heap.size) := ⟨h.Tlt, h.Flt⟩
  obtain ⟨W, hW⟩ : ∃ W, W = (w.alloc (.cells #[.int .i64 28, .int .u32 arg] 89)).alloc (.cells nilAn 56) := ⟨_, rfl⟩
  obtain ⟨Z, hZ⟩ : ∃ Z, Z = w.heap.size := ⟨_, rfl⟩
  have HBW : Hid (Below w.heap.size w W) := by unfold Hid; rw [hW]; (repeat (first | (with_reducible refine Below.drew ?_) | (with_reducible refine below_drewN0 ?_ _) | ((with_reducible refine Below.setCell ?_ ?_ _); rotate_left; focus (first | omega | (simp; done) | (simp; omega) | (simp at *; omega))) | ((with_reducible refine Below.alloc ?_ ?_ _); rotate_left; focus (first | omega | (simp; done) | (simp; omega) | (simp at *; omega))) | (with_reducible exact Below.refl _ _)))
  have HZ : Hid (Row W Z 89 #[.int .i64 28, .int .u32 arg]) := by unfold Hid; rw [hW, hZ]; exact (Row.fresh _ _ _).alloc _
  have HRr : Hid (Row W (Z + 1) 56 nilAn) := by
    unfold Hid; rw [hW, hZ]
    have := Row.fresh (w.alloc (.cells #[.int .i64 28, .int .u32 arg] 89)) 56 nilAn
    simpa using this
  have HZw : Hid (w.heap.size ≤ Z) := by unfold Hid; omega
  have hA0 := h.below HBW.out
  have HA0 := Lib.hid hA0
  have HCu := Lib.hid (current_any hA0)
  have HIn : Hid (Calls Tryz.prog 97 #[.pointer (some ⟨b.E, 0, none⟩), .int .i64 (S.V 0 : Nat), .int .u32 arg, .int .i64 1] W fun e w' => e = .returned (.bool true) ∧ AbIs w' b T F c S ∧ Turns W w' [b.n.T]) := by
    have h := inside_any hA0 ((S.V 0 : Nat) : Int) arg 1 harg (by omega)
    rw [HIn0.out] at h
    exact h
  have z1 := HZ.out.cell 1
  unfold nilAn at hW
  clear h hin hp harea hA0
  go_enter Tryz.func142, Tryz.ntmps142
  go_wp2_with fail
  rw [← hZ]
  rw [hZ, ← hW, ← hZ]
  clear hW hZ
  refine HCu.out.mono ?_
  rintro e W2 ⟨rfl, hW2⟩
  rw [hW2]
  clear hW2 HCu W2
  go_upto_region 2 with fail
  go_cut [26] from 13 to 25 (fun b26 wx => b26 = .bool false ∧ AbIs wx b T F c S ∧ Turns W wx [b.n.T])
  case first =>
    rcases HAr.out with h0 | h4
    · have d1 : decide ((1 : Int) ≤ ((S.V 0 : Nat) : Int)) = false := by simp; omega
      clear h0
      go_wp2_with fail
      refine HIn.out.mono ?_
      rintro e w2 ⟨rfl, hA2, ht2⟩
      have HA2 := Lib.hid hA2
      have HT2 := Lib.hid ht2
      clear hA2 ht2
      go_wp2
      go_meet
      case rel => exact ⟨rfl, HA2.out, HT2.out⟩
    · have d1 : decide ((1 : Int) ≤ ((S.V 0 : Nat) : Int)) = true := by simp; omega
      have d2 : decide (((S.V 0 : Nat) : Int) ≤ 3) = false := by simp; omega
      clear h4
      go_wp2_with fail
      refine HIn.out.mono ?_
      rintro e w2 ⟨rfl, hA2, ht2⟩
      have HA2 := Lib.hid hA2
      have HT2 := Lib.hid ht2
      clear hA2 ht2
      go_wp2
      go_meet
      case rel => exact ⟨rfl, HA2.out, HT2.out⟩
  case rest =>
  obtain ⟨rfl, hA, ht⟩ := hcut
  have HA := Lib.hid hA
  have HTc : Hid (Turns w wc [b.n.T]) := (Turns.of_below HBW.out [b.n.T]).trans ht (fun k hk => .inl hk)
  have HTT : Hid (b.n.T ∈ T ∧ b.L ∈ T ∧ b.E ∈ T) := ⟨HH.out.inT _ (by simp [Bn.ts]), HH.out.inT _ (by simp [Bn.ts]), HH.out.inT _ (by simp [Bn.ts])⟩
  have HZc : Hid (Row wc Z 89 #[.int .i64 28, .int .u32 arg]) := ht.row HZ.out (by
    obtain ⟨r, hr⟩ := HA0.out.tb
    simpa using HZ.out.ne_type hr (by decide))
  have HRc : Hid (Row wc (Z + 1) 56 nilAn) := ht.row HRr.out (by
    obtain ⟨r, hr⟩ := HA0.out.tb
    simpa using HRr.out.ne_type hr (by decide))
  have HPl : Hid (Calls Tryz.prog 101 #[.pointer (some ⟨b.n.T, 0, none⟩), .int .i64 (S.V 0 : Nat), .int .i64 arg] wc.drew fun e w' => e = .returned (.tuple #[.int .i64 p, .bool true]) ∧ TbIs w' b.n.T c S.set S.now ∧ Turns wc.drew w' [b.n.T]) := by
    have h := Place_any b.n.T c S.set S.now HA.out.ok.cfg HA.out.ok.now ((S.V 0 : Nat) : Int) (arg : Int) wc.drew HA.out.drew.tb
    unfold placeW at h
    rw [HPl0.out] at h
    exact h
  have hET : b.E ≠ b.n.T := by obtain ⟨r, htb⟩ := HA.out.tb; exact HA.out.rE.ne_type htb (by decide)
  have hZT : Z ≠ b.n.T := by obtain ⟨r, htb⟩ := HA.out.tb; exact HZc.out.ne_type htb (by decide)
  have q1 : ∀ t : Kept wc [b.n.T], t.u.cell? ⟨b.E, 13, none⟩ = some (.pointer (some ⟨b.n.T, 0, none⟩)) := fun t => by rw [(t.h.row HA.out.rE (by simp; exact hET)).cell]; rfl
  have q2 : ∀ t : Kept wc [b.n.T], t.u.cell? ⟨Z, 1, none⟩ = some (.int .u32 arg) := fun t => by rw [(t.h.row HZc.out (by simp; exact hZT)).cell]; rfl
  clear hA ht HIn z1 HZ HRr HA0
  go_wp2_with fail
  (refine wp_region_noPanic ?_; refine region_treeW (fun u => ∃ t : Kept wc [b.n.T], u = t.u) (Tn.takes [0, 1, 2, 3, 4, 5, 6, 7] (.one 8 (Tn.takes [9, 10, 11, 12, 13] .nil))) (by kernel_rfl) (by kernel_rfl) (fun _ _ _ _ _ h => h) ⟨⟨_, Turns.of_below (Below.refl _ _).drew _⟩, rfl⟩ ?_; simp only [Tn.takes])
  (repeat ((with_reducible refine wpTree_take (by with_unfolding_all exact rfl) ?_); (with_reducible (show wpQuiet _ _ _ _ (_ :: _) _)); go_big_quiet_step (fail); (with_reducible refine wpQuiet_nil ?_)))
  clear q1 q2
  (with_reducible refine wpTree_one (by with_unfolding_all exact rfl) ?_)
  gi_wp2_with fail
  (first | refine ⟨trivial, ((callsIn_wide (n := 8)).2 (HPl.out)).mono ?_⟩ | refine ((callsIn_wide (n := 8)).2 (HPl.out)).mono ?_)
  rintro e w3 ⟨rfl, htb3, ht3⟩
  have HT3 : Hid (Turns wc w3 [b.n.T]) := (Turns.refl wc [b.n.T]).drew.trans ht3 (by simp)
  have hA3 : AbIs w3 b T F c S := HA.out.drew.tabl ht3 htb3 HA.out.ok
  have HA3 := Lib.hid hA3
  have HZ3 : Hid (Row w3 Z 89 #[.int .i64 28, .int .u32 arg]) := HT3.out.row HZc.out (by simp; exact hZT)
  have HR3 : Hid (Row w3 (Z + 1) 56 nilAn) := HT3.out.row HRc.out (by
    obtain ⟨r, hr⟩ := HA.out.tb
    simpa using HRc.out.ne_type hr (by decide))
  have HT03 : Hid (Turns w w3 [b.n.T]) := HTc.out.trans HT3.out (fun k hk => .inl hk)
  have HLa := Lib.hid (Grd.Lasting_any b.n.G b.L b.Lc S.G hgl.1 hgl.2 0 w3 hA3.gd hA3.ok.G.2)
  clear htb3 ht3 hA3 HPl HTc HA HZc HRc
  gi_wp2_with fail
  ((with_reducible refine outQ_normal ?_ ?_); exact ⟨⟨_, HT3.out⟩, rfl⟩)
  (repeat ((with_reducible refine wpTree_take (by with_unfolding_all exact rfl) ?_); (with_reducible (show wpQuiet _ _ _ _ (_ :: _) _)); go_big_quiet_step (fail); (with_reducible refine wpQuiet_nil ?_)))
  with_reducible refine wpTree_nil ?_
  refine NoPanic.normal ?_
  have e7 := HA3.out.xc6
  have e12 := HA3.out.xG
  have z0 : w3.cell? ⟨Z, 0, none⟩ = some (.int .i64 28) := by rw [HZ3.out.cell]; rfl
  obtain ⟨g, hgr⟩ : ∃ g, g = c.group := ⟨_, rfl⟩
  have HGr := Lib.hid hgr
  rw [← hgr] at hgb e7
  clear hgr
  obtain ⟨hgb1, hgb2⟩ := hgb
  have hp0 : (0 : Int) ≤ (p : Int) := by omega
  obtain ⟨pg, hpg⟩ : ∃ pg, pg = (p : Int) / g := ⟨_, rfl⟩
  have hdiv : wrap64 ((p : Int) / g) = pg := by
    have h1 : 0 ≤ (p : Int) / g := Int.ediv_nonneg hp0 (by omega)
    have h2 : (p : Int) / g ≤ p := Int.ediv_le_self _ hp0
    rw [hpg]
    unfold wrap64; omega
  have HPg := Lib.hid hpg
  clear hpg
  go_wp2_with fail
  refine HLa.out.mono ?_
  rintro e w4 ⟨L1, c1, rfl, hown1, hb4⟩
  have HO1 := Lib.hid hown1
  have HB4 := Lib.hid hb4
  have HA4 := Lib.hid (HA3.out.below hb4)
  have HR4 : Hid (Row w4 (Z + 1) 56 nilAn) := HR3.out.below hb4 HR3.out.lt
  have z0 : w4.cell? ⟨Z, 0, none⟩ = some (.int .i64 28) := keep_below hb4 _ _ z0
  have HZL : Hid (Z + 1 < w3.heap.size) := HR3.out.lt
  clear HLa hown1 hb4 HR3 HZ3 e7 e12
  have hEL : b.E ≠ b.L := by obtain ⟨cur, hr⟩ := (Vca.own_blk HA4.out.gd.own b.L (by simp [Vca.blk])).2; exact HA4.out.rE.ne_type hr (by decide)
  have q1 : ∀ t : Kept w4 [b.L], t.u.cell? ⟨b.E, 12, none⟩ = some (.pointer (some ⟨b.n.G, 0, none⟩)) := fun t => by rw [(t.h.row HA4.out.rE (by simp; exact hEL)).cell]; rfl
  have q2 : ∀ t : Kept w4 [b.L], t.u.cell? ⟨b.E, 11, none⟩ = some (.pointer (some ⟨b.n.R, 0, none⟩)) := fun t => by rw [(t.h.row HA4.out.rE (by simp; exact hEL)).cell]; rfl
  have HGt : Hid (Calls Tryz.prog 106 #[.pointer (some ⟨b.n.R, 0, none⟩), .int .i64 5] w4.drew fun e w' => e = .returned (.int .u8 (S.V 5 : Nat)) ∧ w' = w4.drew) := by
    have h := Get_rg HA4.out.drew.rg 5
    have : getV S.V 5 = S.V 5 := by unfold getV; rw [show kindV 5 = 1 by decide]; rfl
    rw [this] at h
    exact h
  have HLv : Hid (Calls Tryz.prog 208 #[.int .u8 (S.V 5 : Nat)] w4.drew fun e w' => e = .returned (.int .i64 (lvl (S.V 5))) ∧ w4.drew = w') := Grd.Level_any (S.V 5) w4.drew
  have HSet : Hid (Calls Tryz.prog 207 #[.pointer (some ⟨b.n.G, 0, none⟩), .int .i64 pg, .int .i64 (lvl (S.V 5))] w4.drew fun e w' => e = .returned (.int .i64 (Grd.setR S.G pg (lvl (S.V 5)) : Nat)) ∧ Grd.GHeld w' 0 b.n.G b.L b.Lc (Grd.setK S.G pg (lvl (S.V 5))) ∧ Turns w4.drew w' [b.L]) := Grd.Set_any b.n.G b.L b.Lc S.G hgl.2 _ _ 0 w4.drew HA4.out.drew.gd HA4.out.ok.G.2
  obtain ⟨lv, hlv⟩ : ∃ lv, lv = lvl (S.V 5) := ⟨_, rfl⟩
  obtain ⟨v5, hv5⟩ : ∃ v5, v5 = S.V 5 := ⟨_, rfl⟩
  rw [← hlv] at HLv HSet
  rw [← hv5] at HGt HLv
  have HLl := Lib.hid hlv
  clear hlv hv5
  go_wp2_with fail
  (refine wp_region_noPanic ?_; refine region_treeW (fun u => ∃ t : Kept w4 [b.L], u = t.u) (Tn.takes [0, 1, 2, 3, 4, 5, 6, 7, 8] (.one 9 (.one 10 (.one 11 .nil)))) (by kernel_rfl) (by kernel_rfl) (fun _ _ _ _ _ h => h) ⟨⟨_, Turns.of_below (Below.refl _ _).drew _⟩, rfl⟩ ?_; simp only [Tn.takes])
  (repeat ((with_reducible refine wpTree_take (by with_unfolding_all exact rfl) ?_); (with_reducible (show wpQuiet _ _ _ _ (_ :: _) _)); go_big_quiet_step (fail); (with_reducible refine wpQuiet_nil ?_)))
  clear q1 q2
  (with_reducible refine wpTree_one (by with_unfolding_all exact rfl) ?_)
  gi_wp2_with fail
  (first | refine ⟨trivial, ((callsIn_wide (n := 8)).2 (HGt.out)).mono ?_⟩ | refine ((callsIn_wide (n := 8)).2 (HGt.out)).mono ?_)
  rintro e w5 ⟨rfl, hw5⟩
  rw [hw5]
  clear hw5 HGt
  gi_wp2_with fail
  ((with_reducible refine outQ_normal ?_ ?_); exact ⟨⟨_, (Turns.refl _ _).drew⟩, rfl⟩)
  (with_reducible refine wpTree_one (by with_unfolding_all exact rfl) ?_)
  gi_wp2_with fail
  (first | refine ⟨trivial, ((callsIn_wide (n := 8)).2 (HLv.out)).mono ?_⟩ | refine ((callsIn_wide (n := 8)).2 (HLv.out)).mono ?_)
  rintro e w5 ⟨rfl, hw5⟩
  rw [← hw5]
  clear hw5 HLv
  gi_wp2_with fail
  ((with_reducible refine outQ_normal ?_ ?_); exact ⟨⟨_, (Turns.refl _ _).drew⟩, rfl⟩)
  (with_reducible refine wpTree_one (by with_unfolding_all exact rfl) ?_)
  gi_wp2_with fail
  (first | refine ⟨trivial, ((callsIn_wide (n := 8)).2 (HSet.out)).mono ?_⟩ | refine ((callsIn_wide (n := 8)).2 (HSet.out)).mono ?_)
  rintro e w5 ⟨rfl, hg5, ht5⟩
  have HT5 : Hid (Turns w4 w5 [b.L]) := (Turns.refl w4 [b.L]).drew.trans ht5 (by simp)
  have HA5 : Hid (AbIs w5 b T F c { S with G := Grd.setK S.G pg lv }) := HA4.out.guard HT5.out hg5 { HA4.out.ok with G := Grd.setK_kinds HA4.out.ok.G _ _ }
  clear hg5 ht5 HSet
  gi_wp2_with fail
  ((with_reducible refine outQ_normal ?_ ?_); exact ⟨⟨_, HT5.out⟩, rfl⟩)
  with_reducible refine wpTree_nil ?_
  refine NoPanic.normal ?_
  have hG5 : Grd.setK S.G pg lv = (({ S with G := Grd.setK S.G pg lv } : Ab)).G := rfl
  obtain ⟨S5, hS5⟩ : ∃ S5, S5 = ({ S with G := Grd.setK S.G pg lv } : Ab) := ⟨_, rfl⟩
  rw [← hS5] at HA5
  have HT45 : Hid (Turns w4 w5 [b.L, b.E]) := HT5.out.mono (by simp)
  have HS5 := Lib.hid hS5
  have HFin : Hid (S5 = { S with G := Grd.setK S.G ((p : Int) / c.group) (lvl (S.V 5)) }) := by unfold Hid; rw [hS5, HPg.out, HGr.out, HLl.out]
  clear hG5 hS5 HT5
  have hG5 : S5.G.length = S.G.length := by rw [HA5.out.ok.G.1, HA4.out.ok.G.1]
  have HLa := Lib.hid (Grd.Lasting_any b.n.G b.L b.Lc S5.G (by omega) (by omega) 0 w5 HA5.out.gd HA5.out.ok.G.2)
  rw [hG5] at HLa
  have HG5 := Lib.hid hG5
  clear hG5
  have e12 := HA5.out.xG
  go_wp2_with fail
  refine HLa.out.mono ?_
  rintro e w6 ⟨L2, c2, rfl, hown2, hb6⟩
  have HA6 := Lib.hid (HA5.out.below hb6)
  have hL1 : L1 ∉ [b.L, b.E] := by
    have h1 := (Vca.own_blk HO1.out L1 (by simp [Vca.blk])).1
    have h2 := HA3.out.Tlt b.L HTT.out.2.1
    have h3 := HA3.out.Tlt b.E HTT.out.2.2
    simp only [List.mem_cons, List.not_mem_nil, or_false, not_or]
    omega
  have hO6 := own_below (HT45.out.own HO1.out (fun g hg hm => hL1 (by
    have : L1 = g := by simpa [Value.ownBlock] using hg
    rw [this]; exact hm))) hb6
  have HEq : Hid (Calls Tryz.prog 211 #[.slice (some ⟨L1, 0, none⟩) S.G.length c1, .slice (some ⟨L2, 0, none⟩) S.G.length c2] w6 fun e w' => e = .returned (.bool (decide (Grd.lastK S.G = Grd.lastK S5.G))) ∧ Below w6.heap.size w6 w') := by
    obtain ⟨h1, h1c⟩ := own_cells hO6
    obtain ⟨h2, h2c⟩ := own_cells hown2
    have h := Equal_bytes L1 L2 c1 c2 (Grd.lastK S.G) (Grd.lastK S5.G) (by rw [Grd.lastK_length, Grd.lastK_length]; exact HG5.out.symm) (by rw [Grd.lastK_length]; omega) w6 h1 (by rw [Grd.lastK_length] at h2 ⊢; rw [HG5.out] at h2; exact h2) (by rw [Grd.lastK_length]; exact h1c) (by rw [Grd.lastK_length]; exact h2c)
    rw [Grd.lastK_length] at h
    exact h
  have h04 : Turns w w4 [b.n.T, b.L, b.E] := (HT03.out.mono (by simp)).then_below HB4.out
  have HT6 : Hid (Turns w w6 [b.n.T, b.L, b.E]) := (h04.trans HT45.out (fun k hk => .inl (List.mem_cons_of_mem _ hk))).then_below hb6
  have HR6 : Hid (Row w6 (Z + 1) 56 nilAn) := (HT45.out.row HR4.out (by
    have h2 := HH.out.Tlt b.L HTT.out.2.1
    have h3 := HH.out.Tlt b.E HTT.out.2.2
    have h4 := HZw.out
    simp only [List.mem_cons, List.not_mem_nil, or_false, not_or]
    omega)).below hb6 (by have h1 := HB4.out.size; have h2 := HT45.out.size; have h3 := HZL.out; omega)
  clear h04 HLa hown2 hb6 hO6 hL1 HO1 HA5 HA4 HA3 HR4 HT45 HT03 HB4
  go_wp2_with fail
  refine HEq.out.mono ?_
  rintro e w7 ⟨rfl, hb7⟩
  have HA7 := Lib.hid (HA6.out.below hb7)
  have HT7 := Lib.hid (HT6.out.then_below hb7)
  have HR7 : Hid (Row w7 (Z + 1) 56 nilAn) := HR6.out.below hb7 HR6.out.lt
  clear hb7 HEq HA6 HT6 HR6
  cases hdc : decide (Grd.lastK S.G = Grd.lastK S5.G) with
  | true =>
    have HStt := Lib.hid (status_any HA7.out)
    go_wp2_with fail
    refine HStt.out.mono ?_
    rintro e w9 ⟨rfl, hA9, ht9⟩
    have hZE : Z + 1 ≠ b.E := by
      have h3 := HH.out.Tlt b.E HTT.out.2.2
      have h4 := HZw.out
      omega
    have hR9 := ht9.row HR7.out (by simpa using hZE)
    have n0 : w9.cell? ⟨Z + 1, 0, none⟩ = some (.bool false) := by rw [hR9.cell]; rfl
    have n1 : w9.cell? ⟨Z + 1, 1, none⟩ = some (.slice none 0 0) := by rw [hR9.cell]; rfl
    have n2 : w9.cell? ⟨Z + 1, 2, none⟩ = some (.int .u32 0) := by rw [hR9.cell]; rfl
    have n3 : w9.cell? ⟨Z + 1, 3, none⟩ = some (.slice none 0 0) := by rw [hR9.cell]; rfl
    have g0 := hR9.frozen 0
    have g1 := hR9.frozen 1
    have g2 := hR9.frozen 2
    have g3 := hR9.frozen 3
    have hT9 : Turns w9 ((((w9.setCell ⟨Z + 1, 0, none⟩ (.bool false)).setCell ⟨Z + 1, 1, none⟩ (.slice none 0 0)).setCell ⟨Z + 1, 2, none⟩ (.int .u32 (stN S5 : Nat))).setCell ⟨Z + 1, 3, none⟩ (.slice none 0 0)) [Z + 1] := ((((Turns.refl _ _).setCell (by simp) _).setCell (by simp) _).setCell (by simp) _).setCell (by simp) _
    have HX : Hid (Nx w ((((w9.setCell ⟨Z + 1, 0, none⟩ (.bool false)).setCell ⟨Z + 1, 1, none⟩ (.slice none 0 0)).setCell ⟨Z + 1, 2, none⟩ (.int .u32 (stN S5 : Nat))).setCell ⟨Z + 1, 3, none⟩ (.slice none 0 0)) b T F c S5.told) := by
      have h4 := HZw.out
      have h7 : Turns w w9 [b.n.T, b.L, b.E] := HT7.out.trans ht9 (fun k hk => .inl (by obtain rfl := List.mem_singleton.1 hk; simp))
      have h8 : Turns w ((((w9.setCell ⟨Z + 1, 0, none⟩ (.bool false)).setCell ⟨Z + 1, 1, none⟩ (.slice none 0 0)).setCell ⟨Z + 1, 2, none⟩ (.int .u32 (stN S5 : Nat))).setCell ⟨Z + 1, 3, none⟩ (.slice none 0 0)) [b.n.T, b.L, b.E] := h7.trans hT9 (fun k hk => .inr (by obtain rfl := List.mem_singleton.1 hk; omega))
      refine Nx.of (hA9.turns hT9 (fun k hk => ?_)) h8 (fun k hk => .inl ?_)
      · obtain rfl := List.mem_singleton.1 hk
        exact ⟨fun hm => by have := HL.out.1 _ hm; omega, fun hm => by have := HL.out.2 _ hm; omega⟩
      · simp only [List.mem_cons, List.not_mem_nil, or_false] at hk
        rcases hk with rfl | rfl | rfl
        · exact HTT.out.1
        · exact HTT.out.2.1
        · exact HTT.out.2.2
    have HZ9 : Hid (Row ((((w9.setCell ⟨Z + 1, 0, none⟩ (.bool false)).setCell ⟨Z + 1, 1, none⟩ (.slice none 0 0)).setCell ⟨Z + 1, 2, none⟩ (.int .u32 (stN S5 : Nat))).setCell ⟨Z + 1, 3, none⟩ (.slice none 0 0)) (Z + 1) 56 #[.bool false, .slice none 0 0, .int .u32 (stN S5 : Nat), .slice none 0 0]) := by
      have := (((hR9.put 0 (.bool false)).put 1 (.slice none 0 0)).put 2 (.int .u32 (stN S5 : Nat))).put 3 (.slice none 0 0)
      unfold Hid; simpa [nilAn] using this
    clear hA9 ht9 hR9 hT9 HStt HA7 HR7 HT7
    go_wp2
    refine bodyPost_ret (v := .agg #[.bool false, .slice none 0 0, .int .u32 (stN S5 : Nat), .slice none 0 0]) (results_cell_row rfl _ _ (Z + 1) 56 _ (0, 0) _ rfl HZ9.out Tryz.underlying56 rfl (by kernel_rfl)) rfl ?_
    rw [← HFin.out]
    exact ⟨rfl, HX.out⟩
  | false =>
    have q1 : ∀ t : Kept w7 [], t.u.cell? ⟨b.E, 10, none⟩ = some (.iface 133 (.agg #[.pointer (some ⟨b.n.D, 0, none⟩), .pointer (some ⟨b.n.M, 0, none⟩)])) := fun t => (HA7.out.turns t.h (by simp)).xSt
    have q2 : ∀ t : Kept w7 [], t.u.cell? ⟨b.E, 11, none⟩ = some (.pointer (some ⟨b.n.R, 0, none⟩)) := fun t => (HA7.out.turns t.h (by simp)).xR
    have q3 : ∀ t : Kept w7 [], t.u.cell? ⟨b.E, 12, none⟩ = some (.pointer (some ⟨b.n.G, 0, none⟩)) := fun t => (HA7.out.turns t.h (by simp)).xG
    have hmt := mt_Keep b.n.D b.n.M
    have hnl := nl_Keep b.n.D b.n.M
    have HK := Lib.hid (Keep_any b.n.D (.pointer (some ⟨b.n.R, 0, none⟩)) (.pointer (some ⟨b.n.G, 0, none⟩)) w7.drew)
    have HLs := Lib.hid (lasts_yes HA7.out.drew)
    go_wp2_with fail
    (refine wp_region_noPanic ?_; refine region_treeW (fun u => ∃ t : Kept w7 [], u = t.u) (Tn.takes [0, 1, 2, 3, 4, 5, 6, 7, 8, 9, 10, 11, 12, 13, 14] (.one 15 (.one 16 .nil))) (by kernel_rfl) (by kernel_rfl) (fun _ _ _ _ _ h => h) ⟨⟨_, Turns.of_below (Below.refl _ _).drew _⟩, rfl⟩ ?_; simp only [Tn.takes])
    (repeat ((with_reducible refine wpTree_take (by with_unfolding_all exact rfl) ?_); (with_reducible (show wpQuiet _ _ _ _ (_ :: _) _)); go_big_quiet_step (fail); (with_reducible refine wpQuiet_nil ?_)))
    clear q1 q2 q3
    (with_reducible refine wpTree_one (by with_unfolding_all exact rfl) ?_)
    gi_wp2_with fail
    (first | refine ⟨trivial, ((callsIn_wide (n := 8)).2 (HK.out)).mono ?_⟩ | refine ((callsIn_wide (n := 8)).2 (HK.out)).mono ?_)
    rintro e w8 ⟨rfl, hw8⟩
    rw [hw8]
    clear hw8
    gi_wp2_with fail
    ((with_reducible refine outQ_normal ?_ ?_); exact ⟨⟨_, (Turns.refl _ _).drew⟩, rfl⟩)
    (with_reducible refine wpTree_one (by with_unfolding_all exact rfl) ?_)
    gi_wp2_with fail
    (first | refine ⟨trivial, ((callsIn_wide (n := 8)).2 (HLs.out)).mono ?_⟩ | refine ((callsIn_wide (n := 8)).2 (HLs.out)).mono ?_)
    rintro e w8 ⟨rfl, hw8⟩
    rw [hw8]
    clear hw8
    gi_wp2_with fail
    ((with_reducible refine outQ_normal ?_ ?_); exact ⟨⟨_, (Turns.refl _ _).drew⟩, rfl⟩)
    with_reducible refine wpTree_nil ?_
    refine NoPanic.normal ?_
    have HA8 := Lib.hid HA7.out.drew
    have HR8 : Hid (Row w7.drew (Z + 1) 56 nilAn) := HR7.out.drewN 1
    have HT8 : Hid (Turns w w7.drew [b.n.T, b.L, b.E]) := HT7.out.drew
    clear HA7 HR7 HT7 HK HLs hmt hnl
    generalize w7.drew = w8 at *
    have HStt := Lib.hid (status_any HA8.out)
    go_wp2_with fail
    refine HStt.out.mono ?_
    rintro e w9 ⟨rfl, hA9, ht9⟩
    have hZE : Z + 1 ≠ b.E := by
      have h3 := HH.out.Tlt b.E HTT.out.2.2
      have h4 := HZw.out
      omega
    have hR9 := ht9.row HR8.out (by simpa using hZE)
    have n0 : w9.cell? ⟨Z + 1, 0, none⟩ = some (.bool false) := by rw [hR9.cell]; rfl
    have n1 : w9.cell? ⟨Z + 1, 1, none⟩ = some (.slice none 0 0) := by rw [hR9.cell]; rfl
    have n2 : w9.cell? ⟨Z + 1, 2, none⟩ = some (.int .u32 0) := by rw [hR9.cell]; rfl
    have n3 : w9.cell? ⟨Z + 1, 3, none⟩ = some (.slice none 0 0) := by rw [hR9.cell]; rfl
    have g0 := hR9.frozen 0
    have g1 := hR9.frozen 1
    have g2 := hR9.frozen 2
    have g3 := hR9.frozen 3
    have hT9 : Turns w9 ((((w9.setCell ⟨Z + 1, 0, none⟩ (.bool false)).setCell ⟨Z + 1, 1, none⟩ (.slice none 0 0)).setCell ⟨Z + 1, 2, none⟩ (.int .u32 (stN S5 : Nat))).setCell ⟨Z + 1, 3, none⟩ (.slice none 0 0)) [Z + 1] := ((((Turns.refl _ _).setCell (by simp) _).setCell (by simp) _).setCell (by simp) _).setCell (by simp) _
    have HX : Hid (Nx w ((((w9.setCell ⟨Z + 1, 0, none⟩ (.bool false)).setCell ⟨Z + 1, 1, none⟩ (.slice none 0 0)).setCell ⟨Z + 1, 2, none⟩ (.int .u32 (stN S5 : Nat))).setCell ⟨Z + 1, 3, none⟩ (.slice none 0 0)) b T F c S5.told) := by
      have h4 := HZw.out
      have h7 : Turns w w9 [b.n.T, b.L, b.E] := HT8.out.trans ht9 (fun k hk => .inl (by obtain rfl := List.mem_singleton.1 hk; simp))
      have h8 : Turns w ((((w9.setCell ⟨Z + 1, 0, none⟩ (.bool false)).setCell ⟨Z + 1, 1, none⟩ (.slice none 0 0)).setCell ⟨Z + 1, 2, none⟩ (.int .u32 (stN S5 : Nat))).setCell ⟨Z + 1, 3, none⟩ (.slice none 0 0)) [b.n.T, b.L, b.E] := h7.trans hT9 (fun k hk => .inr (by obtain rfl := List.mem_singleton.1 hk; omega))
      refine Nx.of (hA9.turns hT9 (fun k hk => ?_)) h8 (fun k hk => .inl ?_)
      · obtain rfl := List.mem_singleton.1 hk
        exact ⟨fun hm => by have := HL.out.1 _ hm; omega, fun hm => by have := HL.out.2 _ hm; omega⟩
      · simp only [List.mem_cons, List.not_mem_nil, or_false] at hk
        rcases hk with rfl | rfl | rfl
        · exact HTT.out.1
        · exact HTT.out.2.1
        · exact HTT.out.2.2
    have HZ9 : Hid (Row ((((w9.setCell ⟨Z + 1, 0, none⟩ (.bool false)).setCell ⟨Z + 1, 1, none⟩ (.slice none 0 0)).setCell ⟨Z + 1, 2, none⟩ (.int .u32 (stN S5 : Nat))).setCell ⟨Z + 1, 3, none⟩ (.slice none 0 0)) (Z + 1) 56 #[.bool false, .slice none 0 0, .int .u32 (stN S5 : Nat), .slice none 0 0]) := by
      have := (((hR9.put 0 (.bool false)).put 1 (.slice none 0 0)).put 2 (.int .u32 (stN S5 : Nat))).put 3 (.slice none 0 0)
      unfold Hid; simpa [nilAn] using this
    clear hA9 ht9 hR9 hT9 HStt HA8 HR8 HT8
    go_wp2
    refine bodyPost_ret (v := .agg #[.bool false, .slice none 0 0, .int .u32 (stN S5 : Nat), .slice none 0 0]) (results_cell_row rfl _ _ (Z + 1) 56 _ (0, 0) _ rfl HZ9.out Tryz.underlying56 rfl (by kernel_rfl)) rfl ?_
    rw [← HFin.out]
    exact ⟨rfl, HX.out⟩
def Ab.clearG (S : Ab) (g : Int) : Ab := if Grd.clearR S.G g = 0 then { S with G := Grd.clearK S.G g } else ({ S with G := Grd.clearK S.G g } : Ab).raise 67108864
theorem prot_clr (h : AbIs w b T F c S) (arg p : Nat) (harg : arg < 4294967296) (harea : S.V 0 = 0 ∨ 4 ≤ S.V 0) (hin : insideB c S ((S.V 0 : Nat) : Int) arg 1 = true) (hp : placeI c S.now ((S.V 0 : Nat) : Int) (arg : Int) = some (p : Int)) :
    Calls Tryz.prog 142 #[.pointer (some ⟨b.E, 0, none⟩), .agg #[.int .i64 29, .int .u32 arg]] w fun e w' => e = .returned (.agg #[.bool false, .slice none 0 0, .int .u32 (stN (S.clearG ((p : Int) / c.group)) : Nat), .slice none 0 0]) ∧ Nx w w' b T F c (S.clearG ((p : Int) / c.group)).told := by
  have hpbd := (place_bd h.ok hp).1
  have HAr := Lib.hid harea
  have HIn0 := Lib.hid hin
  have HPl0 := Lib.hid hp
  have hgb := h.ok.cfg.1.group
  have HH := Lib.hid h
  have hgl := S_G_len h.ok
  have HL : Hid ((∀ k ∈ T, k < w.heap.size) ∧ ∀ k ∈ F, k < w.heap.size) := ⟨h.Tlt, h.Flt⟩
  obtain ⟨W, hW⟩ : ∃ W, W = (w.alloc (.cells #[.int .i64 29, .int .u32 arg] 89)).alloc (.cells nilAn 56) := ⟨_, rfl⟩
  obtain ⟨Z, hZ⟩ : ∃ Z, Z = w.heap.size := ⟨_, rfl⟩
  have HBW : Hid (Below w.heap.size w W) := by unfold Hid; rw [hW]; (repeat (first | (with_reducible refine Below.drew ?_) | (with_reducible refine below_drewN0 ?_ _) | ((with_reducible refine Below.setCell ?_ ?_ _); rotate_left; focus (first | omega | (simp; done) | (simp; omega) | (simp at *; omega))) | ((with_reducible refine Below.alloc ?_ ?_ _); rotate_left; focus (first | omega | (simp; done) | (simp; omega) | (simp at *; omega))) | (with_reducible exact Below.refl _ _)))
  have HZ : Hid (Row W Z 89 #[.int .i64 29, .int .u32 arg]) := by unfold Hid; rw [hW, hZ]; exact (Row.fresh _ _ _).alloc _
  have HRr : Hid (Row W (Z + 1) 56 nilAn) := by
    unfold Hid; rw [hW, hZ]
    have := Row.fresh (w.alloc (.cells #[.int .i64 29, .int .u32 arg] 89)) 56 nilAn
    simpa using this
  have HZw : Hid (w.heap.size ≤ Z) := by unfold Hid; omega
  have hA0 := h.below HBW.out
  have HA0 := Lib.hid hA0
  have HCu := Lib.hid (current_any hA0)
  have HIn : Hid (Calls Tryz.prog 97 #[.pointer (some ⟨b.E, 0, none⟩), .int .i64 (S.V 0 : Nat), .int .u32 arg, .int .i64 1] W fun e w' => e = .returned (.bool true) ∧ AbIs w' b T F c S ∧ Turns W w' [b.n.T]) := by
    have h := inside_any hA0 ((S.V 0 : Nat) : Int) arg 1 harg (by omega)
    rw [HIn0.out] at h
    exact h
  have z1 := HZ.out.cell 1
  unfold nilAn at hW
  clear h hin hp harea hA0
  go_enter Tryz.func142, Tryz.ntmps142
  go_wp2_with fail
  rw [← hZ]
  rw [hZ, ← hW, ← hZ]
  clear hW hZ
  refine HCu.out.mono ?_
  rintro e W2 ⟨rfl, hW2⟩
  rw [hW2]
  clear hW2 HCu W2
  go_upto_region 2 with fail
  go_cut [26] from 13 to 25 (fun b26 wx => b26 = .bool false ∧ AbIs wx b T F c S ∧ Turns W wx [b.n.T])
  case first =>
    rcases HAr.out with h0 | h4
    · have d1 : decide ((1 : Int) ≤ ((S.V 0 : Nat) : Int)) = false := by simp; omega
      clear h0
      go_wp2_with fail
      refine HIn.out.mono ?_
      rintro e w2 ⟨rfl, hA2, ht2⟩
      have HA2 := Lib.hid hA2
      have HT2 := Lib.hid ht2
      clear hA2 ht2
      go_wp2
      go_meet
      case rel => exact ⟨rfl, HA2.out, HT2.out⟩
    · have d1 : decide ((1 : Int) ≤ ((S.V 0 : Nat) : Int)) = true := by simp; omega
      have d2 : decide (((S.V 0 : Nat) : Int) ≤ 3) = false := by simp; omega
      clear h4
      go_wp2_with fail
      refine HIn.out.mono ?_
      rintro e w2 ⟨rfl, hA2, ht2⟩
      have HA2 := Lib.hid hA2
      have HT2 := Lib.hid ht2
      clear hA2 ht2
      go_wp2
      go_meet
      case rel => exact ⟨rfl, HA2.out, HT2.out⟩
  case rest =>
  obtain ⟨rfl, hA, ht⟩ := hcut
  have HA := Lib.hid hA
  have HTc : Hid (Turns w wc [b.n.T]) := (Turns.of_below HBW.out [b.n.T]).trans ht (fun k hk => .inl hk)
  have HTT : Hid (b.n.T ∈ T ∧ b.L ∈ T ∧ b.E ∈ T) := ⟨HH.out.inT _ (by simp [Bn.ts]), HH.out.inT _ (by simp [Bn.ts]), HH.out.inT _ (by simp [Bn.ts])⟩
  have HZc : Hid (Row wc Z 89 #[.int .i64 29, .int .u32 arg]) := ht.row HZ.out (by
    obtain ⟨r, hr⟩ := HA0.out.tb
    simpa using HZ.out.ne_type hr (by decide))
  have HRc : Hid (Row wc (Z + 1) 56 nilAn) := ht.row HRr.out (by
    obtain ⟨r, hr⟩ := HA0.out.tb
    simpa using HRr.out.ne_type hr (by decide))
  have HPl : Hid (Calls Tryz.prog 101 #[.pointer (some ⟨b.n.T, 0, none⟩), .int .i64 (S.V 0 : Nat), .int .i64 arg] wc.drew fun e w' => e = .returned (.tuple #[.int .i64 p, .bool true]) ∧ TbIs w' b.n.T c S.set S.now ∧ Turns wc.drew w' [b.n.T]) := by
    have h := Place_any b.n.T c S.set S.now HA.out.ok.cfg HA.out.ok.now ((S.V 0 : Nat) : Int) (arg : Int) wc.drew HA.out.drew.tb
    unfold placeW at h
    rw [HPl0.out] at h
    exact h
  have hET : b.E ≠ b.n.T := by obtain ⟨r, htb⟩ := HA.out.tb; exact HA.out.rE.ne_type htb (by decide)
  have hZT : Z ≠ b.n.T := by obtain ⟨r, htb⟩ := HA.out.tb; exact HZc.out.ne_type htb (by decide)
  have q1 : ∀ t : Kept wc [b.n.T], t.u.cell? ⟨b.E, 13, none⟩ = some (.pointer (some ⟨b.n.T, 0, none⟩)) := fun t => by rw [(t.h.row HA.out.rE (by simp; exact hET)).cell]; rfl
  have q2 : ∀ t : Kept wc [b.n.T], t.u.cell? ⟨Z, 1, none⟩ = some (.int .u32 arg) := fun t => by rw [(t.h.row HZc.out (by simp; exact hZT)).cell]; rfl
  clear hA ht HIn z1 HZ HRr HA0
  go_wp2_with fail
  (refine wp_region_noPanic ?_; refine region_treeW (fun u => ∃ t : Kept wc [b.n.T], u = t.u) (Tn.takes [0, 1, 2, 3, 4, 5, 6, 7] (.one 8 (Tn.takes [9, 10, 11, 12, 13] .nil))) (by kernel_rfl) (by kernel_rfl) (fun _ _ _ _ _ h => h) ⟨⟨_, Turns.of_below (Below.refl _ _).drew _⟩, rfl⟩ ?_; simp only [Tn.takes])
  (repeat ((with_reducible refine wpTree_take (by with_unfolding_all exact rfl) ?_); (with_reducible (show wpQuiet _ _ _ _ (_ :: _) _)); go_big_quiet_step (fail); (with_reducible refine wpQuiet_nil ?_)))
  clear q1 q2
  (with_reducible refine wpTree_one (by with_unfolding_all exact rfl) ?_)
  gi_wp2_with fail
  (first | refine ⟨trivial, ((callsIn_wide (n := 8)).2 (HPl.out)).mono ?_⟩ | refine ((callsIn_wide (n := 8)).2 (HPl.out)).mono ?_)
  rintro e w3 ⟨rfl, htb3, ht3⟩
  have HT3 : Hid (Turns wc w3 [b.n.T]) := (Turns.refl wc [b.n.T]).drew.trans ht3 (by simp)
  have hA3 : AbIs w3 b T F c S := HA.out.drew.tabl ht3 htb3 HA.out.ok
  have HA3 := Lib.hid hA3
  have HZ3 : Hid (Row w3 Z 89 #[.int .i64 29, .int .u32 arg]) := HT3.out.row HZc.out (by simp; exact hZT)
  have HR3 : Hid (Row w3 (Z + 1) 56 nilAn) := HT3.out.row HRc.out (by
    obtain ⟨r, hr⟩ := HA.out.tb
    simpa using HRc.out.ne_type hr (by decide))
  have HT03 : Hid (Turns w w3 [b.n.T]) := HTc.out.trans HT3.out (fun k hk => .inl hk)
  have HLa := Lib.hid (Grd.Lasting_any b.n.G b.L b.Lc S.G hgl.1 hgl.2 0 w3 hA3.gd hA3.ok.G.2)
  clear htb3 ht3 hA3 HPl HTc HA HZc HRc
  gi_wp2_with fail
  ((with_reducible refine outQ_normal ?_ ?_); exact ⟨⟨_, HT3.out⟩, rfl⟩)
  (repeat ((with_reducible refine wpTree_take (by with_unfolding_all exact rfl) ?_); (with_reducible (show wpQuiet _ _ _ _ (_ :: _) _)); go_big_quiet_step (fail); (with_reducible refine wpQuiet_nil ?_)))
  with_reducible refine wpTree_nil ?_
  refine NoPanic.normal ?_
  have e7 := HA3.out.xc6
  have e12 := HA3.out.xG
  have z0 : w3.cell? ⟨Z, 0, none⟩ = some (.int .i64 29) := by rw [HZ3.out.cell]; rfl
  obtain ⟨g, hgr⟩ : ∃ g, g = c.group := ⟨_, rfl⟩
  have HGr := Lib.hid hgr
  rw [← hgr] at hgb e7
  clear hgr
  obtain ⟨hgb1, hgb2⟩ := hgb
  have hp0 : (0 : Int) ≤ (p : Int) := by omega
  obtain ⟨pg, hpg⟩ : ∃ pg, pg = (p : Int) / g := ⟨_, rfl⟩
  have hdiv : wrap64 ((p : Int) / g) = pg := by
    have h1 : 0 ≤ (p : Int) / g := Int.ediv_nonneg hp0 (by omega)
    have h2 : (p : Int) / g ≤ p := Int.ediv_le_self _ hp0
    rw [hpg]
    unfold wrap64; omega
  have HPg := Lib.hid hpg
  clear hpg
  go_wp2_with fail
  refine HLa.out.mono ?_
  rintro e w4 ⟨L1, c1, rfl, hown1, hb4⟩
  have HO1 := Lib.hid hown1
  have HB4 := Lib.hid hb4
  have HA4 := Lib.hid (HA3.out.below hb4)
  have HR4 : Hid (Row w4 (Z + 1) 56 nilAn) := HR3.out.below hb4 HR3.out.lt
  have z0 : w4.cell? ⟨Z, 0, none⟩ = some (.int .i64 29) := keep_below hb4 _ _ z0
  have HZL : Hid (Z + 1 < w3.heap.size) := HR3.out.lt
  clear HLa hown1 hb4 HR3 HZ3 e7 e12
  have HCl : Hid (Calls Tryz.prog 209 #[.pointer (some ⟨b.n.G, 0, none⟩), .int .i64 pg] w4 fun e w' => e = .returned (.int .i64 (Grd.clearR S.G pg : Nat)) ∧ Grd.GHeld w' 0 b.n.G b.L b.Lc (Grd.clearK S.G pg) ∧ Turns w4 w' [b.L]) := Grd.Clear_any b.n.G b.L b.Lc S.G hgl.2 _ 0 w4 HA4.out.gd HA4.out.ok.G.2
  have e12 := HA4.out.xG
  go_wp2_with fail
  refine HCl.out.mono ?_
  rintro e w5 ⟨rfl, hg5, ht5⟩
  have HT5 := Lib.hid ht5
  have HA5a : Hid (AbIs w5 b T F c { S with G := Grd.clearK S.G pg }) := HA4.out.guard ht5 hg5 { HA4.out.ok with G := Grd.clearK_kinds HA4.out.ok.G _ }
  clear hg5 ht5 HCl e12
  by_cases hr : Grd.clearR S.G pg = 0
  · have hr0 : ((Grd.clearR S.G pg : Nat) != 0) = false := by simp [hr]
    obtain ⟨S5, hS5⟩ : ∃ S5, S5 = ({ S with G := Grd.clearK S.G pg } : Ab) := ⟨_, rfl⟩
    have HA5 := HA5a
    rw [← hS5] at HA5
    have HT45 : Hid (Turns w4 w5 [b.L, b.E]) := HT5.out.mono (by simp)
    have HFin : Hid (S5 = S.clearG ((p : Int) / c.group)) := by unfold Hid Ab.clearG; rw [← HGr.out, ← HPg.out, if_pos hr, hS5]
    clear hS5 HT5 HA5a
    rw [hr]
    clear hr hr0
    have hG5 : S5.G.length = S.G.length := by rw [HA5.out.ok.G.1, HA4.out.ok.G.1]
    have HLa := Lib.hid (Grd.Lasting_any b.n.G b.L b.Lc S5.G (by omega) (by omega) 0 w5 HA5.out.gd HA5.out.ok.G.2)
    rw [hG5] at HLa
    have HG5 := Lib.hid hG5
    clear hG5
    have e12 := HA5.out.xG
    go_wp2_with fail
    refine HLa.out.mono ?_
    rintro e w6 ⟨L2, c2, rfl, hown2, hb6⟩
    have HA6 := Lib.hid (HA5.out.below hb6)
    have hL1 : L1 ∉ [b.L, b.E] := by
      have h1 := (Vca.own_blk HO1.out L1 (by simp [Vca.blk])).1
      have h2 := HA3.out.Tlt b.L HTT.out.2.1
      have h3 := HA3.out.Tlt b.E HTT.out.2.2
      simp only [List.mem_cons, List.not_mem_nil, or_false, not_or]
      omega
    have hO6 := own_below (HT45.out.own HO1.out (fun g hg hm => hL1 (by
      have : L1 = g := by simpa [Value.ownBlock] using hg
      rw [this]; exact hm))) hb6
    have HEq : Hid (Calls Tryz.prog 211 #[.slice (some ⟨L1, 0, none⟩) S.G.length c1, .slice (some ⟨L2, 0, none⟩) S.G.length c2] w6 fun e w' => e = .returned (.bool (decide (Grd.lastK S.G = Grd.lastK S5.G))) ∧ Below w6.heap.size w6 w') := by
      obtain ⟨h1, h1c⟩ := own_cells hO6
      obtain ⟨h2, h2c⟩ := own_cells hown2
      have h := Equal_bytes L1 L2 c1 c2 (Grd.lastK S.G) (Grd.lastK S5.G) (by rw [Grd.lastK_length, Grd.lastK_length]; exact HG5.out.symm) (by rw [Grd.lastK_length]; omega) w6 h1 (by rw [Grd.lastK_length] at h2 ⊢; rw [HG5.out] at h2; exact h2) (by rw [Grd.lastK_length]; exact h1c) (by rw [Grd.lastK_length]; exact h2c)
      rw [Grd.lastK_length] at h
      exact h
    have h04 : Turns w w4 [b.n.T, b.L, b.E] := (HT03.out.mono (by simp)).then_below HB4.out
    have HT6 : Hid (Turns w w6 [b.n.T, b.L, b.E]) := (h04.trans HT45.out (fun k hk => .inl (List.mem_cons_of_mem _ hk))).then_below hb6
    have HR6 : Hid (Row w6 (Z + 1) 56 nilAn) := (HT45.out.row HR4.out (by
      have h2 := HH.out.Tlt b.L HTT.out.2.1
      have h3 := HH.out.Tlt b.E HTT.out.2.2
      have h4 := HZw.out
      simp only [List.mem_cons, List.not_mem_nil, or_false, not_or]
      omega)).below hb6 (by have h1 := HB4.out.size; have h2 := HT45.out.size; have h3 := HZL.out; omega)
    clear h04 HLa hown2 hb6 hO6 hL1 HO1 HA5 HA4 HA3 HR4 HT45 HT03 HB4
    go_wp2_with fail
    refine HEq.out.mono ?_
    rintro e w7 ⟨rfl, hb7⟩
    have HA7 := Lib.hid (HA6.out.below hb7)
    have HT7 := Lib.hid (HT6.out.then_below hb7)
    have HR7 : Hid (Row w7 (Z + 1) 56 nilAn) := HR6.out.below hb7 HR6.out.lt
    clear hb7 HEq HA6 HT6 HR6
    cases hdc : decide (Grd.lastK S.G = Grd.lastK S5.G) with
    | true =>
      have HStt := Lib.hid (status_any HA7.out)
      go_wp2_with fail
      refine HStt.out.mono ?_
      rintro e w9 ⟨rfl, hA9, ht9⟩
      have hZE : Z + 1 ≠ b.E := by
        have h3 := HH.out.Tlt b.E HTT.out.2.2
        have h4 := HZw.out
        omega
      have hR9 := ht9.row HR7.out (by simpa using hZE)
      have n0 : w9.cell? ⟨Z + 1, 0, none⟩ = some (.bool false) := by rw [hR9.cell]; rfl
      have n1 : w9.cell? ⟨Z + 1, 1, none⟩ = some (.slice none 0 0) := by rw [hR9.cell]; rfl
      have n2 : w9.cell? ⟨Z + 1, 2, none⟩ = some (.int .u32 0) := by rw [hR9.cell]; rfl
      have n3 : w9.cell? ⟨Z + 1, 3, none⟩ = some (.slice none 0 0) := by rw [hR9.cell]; rfl
      have g0 := hR9.frozen 0
      have g1 := hR9.frozen 1
      have g2 := hR9.frozen 2
      have g3 := hR9.frozen 3
      have hT9 : Turns w9 ((((w9.setCell ⟨Z + 1, 0, none⟩ (.bool false)).setCell ⟨Z + 1, 1, none⟩ (.slice none 0 0)).setCell ⟨Z + 1, 2, none⟩ (.int .u32 (stN S5 : Nat))).setCell ⟨Z + 1, 3, none⟩ (.slice none 0 0)) [Z + 1] := ((((Turns.refl _ _).setCell (by simp) _).setCell (by simp) _).setCell (by simp) _).setCell (by simp) _
      have HX : Hid (Nx w ((((w9.setCell ⟨Z + 1, 0, none⟩ (.bool false)).setCell ⟨Z + 1, 1, none⟩ (.slice none 0 0)).setCell ⟨Z + 1, 2, none⟩ (.int .u32 (stN S5 : Nat))).setCell ⟨Z + 1, 3, none⟩ (.slice none 0 0)) b T F c S5.told) := by
        have h4 := HZw.out
        have h7 : Turns w w9 [b.n.T, b.L, b.E] := HT7.out.trans ht9 (fun k hk => .inl (by obtain rfl := List.mem_singleton.1 hk; simp))
        have h8 : Turns w ((((w9.setCell ⟨Z + 1, 0, none⟩ (.bool false)).setCell ⟨Z + 1, 1, none⟩ (.slice none 0 0)).setCell ⟨Z + 1, 2, none⟩ (.int .u32 (stN S5 : Nat))).setCell ⟨Z + 1, 3, none⟩ (.slice none 0 0)) [b.n.T, b.L, b.E] := h7.trans hT9 (fun k hk => .inr (by obtain rfl := List.mem_singleton.1 hk; omega))
        refine Nx.of (hA9.turns hT9 (fun k hk => ?_)) h8 (fun k hk => .inl ?_)
        · obtain rfl := List.mem_singleton.1 hk
          exact ⟨fun hm => by have := HL.out.1 _ hm; omega, fun hm => by have := HL.out.2 _ hm; omega⟩
        · simp only [List.mem_cons, List.not_mem_nil, or_false] at hk
          rcases hk with rfl | rfl | rfl
          · exact HTT.out.1
          · exact HTT.out.2.1
          · exact HTT.out.2.2
      have HZ9 : Hid (Row ((((w9.setCell ⟨Z + 1, 0, none⟩ (.bool false)).setCell ⟨Z + 1, 1, none⟩ (.slice none 0 0)).setCell ⟨Z + 1, 2, none⟩ (.int .u32 (stN S5 : Nat))).setCell ⟨Z + 1, 3, none⟩ (.slice none 0 0)) (Z + 1) 56 #[.bool false, .slice none 0 0, .int .u32 (stN S5 : Nat), .slice none 0 0]) := by
        have := (((hR9.put 0 (.bool false)).put 1 (.slice none 0 0)).put 2 (.int .u32 (stN S5 : Nat))).put 3 (.slice none 0 0)
        unfold Hid; simpa [nilAn] using this
      clear hA9 ht9 hR9 hT9 HStt HA7 HR7 HT7
      go_wp2
      refine bodyPost_ret (v := .agg #[.bool false, .slice none 0 0, .int .u32 (stN S5 : Nat), .slice none 0 0]) (results_cell_row rfl _ _ (Z + 1) 56 _ (0, 0) _ rfl HZ9.out Tryz.underlying56 rfl (by kernel_rfl)) rfl ?_
      rw [← HFin.out]
      exact ⟨rfl, HX.out⟩
    | false =>
      have q1 : ∀ t : Kept w7 [], t.u.cell? ⟨b.E, 10, none⟩ = some (.iface 133 (.agg #[.pointer (some ⟨b.n.D, 0, none⟩), .pointer (some ⟨b.n.M, 0, none⟩)])) := fun t => (HA7.out.turns t.h (by simp)).xSt
      have q2 : ∀ t : Kept w7 [], t.u.cell? ⟨b.E, 11, none⟩ = some (.pointer (some ⟨b.n.R, 0, none⟩)) := fun t => (HA7.out.turns t.h (by simp)).xR
      have q3 : ∀ t : Kept w7 [], t.u.cell? ⟨b.E, 12, none⟩ = some (.pointer (some ⟨b.n.G, 0, none⟩)) := fun t => (HA7.out.turns t.h (by simp)).xG
      have hmt := mt_Keep b.n.D b.n.M
      have hnl := nl_Keep b.n.D b.n.M
      have HK := Lib.hid (Keep_any b.n.D (.pointer (some ⟨b.n.R, 0, none⟩)) (.pointer (some ⟨b.n.G, 0, none⟩)) w7.drew)
      have HLs := Lib.hid (lasts_yes HA7.out.drew)
      go_wp2_with fail
      (refine wp_region_noPanic ?_; refine region_treeW (fun u => ∃ t : Kept w7 [], u = t.u) (Tn.takes [0, 1, 2, 3, 4, 5, 6, 7, 8, 9, 10, 11, 12, 13, 14] (.one 15 (.one 16 .nil))) (by kernel_rfl) (by kernel_rfl) (fun _ _ _ _ _ h => h) ⟨⟨_, Turns.of_below (Below.refl _ _).drew _⟩, rfl⟩ ?_; simp only [Tn.takes])
      (repeat ((with_reducible refine wpTree_take (by with_unfolding_all exact rfl) ?_); (with_reducible (show wpQuiet _ _ _ _ (_ :: _) _)); go_big_quiet_step (fail); (with_reducible refine wpQuiet_nil ?_)))
      clear q1 q2 q3
      (with_reducible refine wpTree_one (by with_unfolding_all exact rfl) ?_)
      gi_wp2_with fail
      (first | refine ⟨trivial, ((callsIn_wide (n := 8)).2 (HK.out)).mono ?_⟩ | refine ((callsIn_wide (n := 8)).2 (HK.out)).mono ?_)
      rintro e w8 ⟨rfl, hw8⟩
      rw [hw8]
      clear hw8
      gi_wp2_with fail
      ((with_reducible refine outQ_normal ?_ ?_); exact ⟨⟨_, (Turns.refl _ _).drew⟩, rfl⟩)
      (with_reducible refine wpTree_one (by with_unfolding_all exact rfl) ?_)
      gi_wp2_with fail
      (first | refine ⟨trivial, ((callsIn_wide (n := 8)).2 (HLs.out)).mono ?_⟩ | refine ((callsIn_wide (n := 8)).2 (HLs.out)).mono ?_)
      rintro e w8 ⟨rfl, hw8⟩
      rw [hw8]
      clear hw8
      gi_wp2_with fail
      ((with_reducible refine outQ_normal ?_ ?_); exact ⟨⟨_, (Turns.refl _ _).drew⟩, rfl⟩)
      with_reducible refine wpTree_nil ?_
      refine NoPanic.normal ?_
      have HA8 := Lib.hid HA7.out.drew
      have HR8 : Hid (Row w7.drew (Z + 1) 56 nilAn) := HR7.out.drewN 1
      have HT8 : Hid (Turns w w7.drew [b.n.T, b.L, b.E]) := HT7.out.drew
      clear HA7 HR7 HT7 HK HLs hmt hnl
      generalize w7.drew = w8 at *
      have HStt := Lib.hid (status_any HA8.out)
      go_wp2_with fail
      refine HStt.out.mono ?_
      rintro e w9 ⟨rfl, hA9, ht9⟩
      have hZE : Z + 1 ≠ b.E := by
        have h3 := HH.out.Tlt b.E HTT.out.2.2
        have h4 := HZw.out
        omega
      have hR9 := ht9.row HR8.out (by simpa using hZE)
      have n0 : w9.cell? ⟨Z + 1, 0, none⟩ = some (.bool false) := by rw [hR9.cell]; rfl
      have n1 : w9.cell? ⟨Z + 1, 1, none⟩ = some (.slice none 0 0) := by rw [hR9.cell]; rfl
      have n2 : w9.cell? ⟨Z + 1, 2, none⟩ = some (.int .u32 0) := by rw [hR9.cell]; rfl
      have n3 : w9.cell? ⟨Z + 1, 3, none⟩ = some (.slice none 0 0) := by rw [hR9.cell]; rfl
      have g0 := hR9.frozen 0
      have g1 := hR9.frozen 1
      have g2 := hR9.frozen 2
      have g3 := hR9.frozen 3
      have hT9 : Turns w9 ((((w9.setCell ⟨Z + 1, 0, none⟩ (.bool false)).setCell ⟨Z + 1, 1, none⟩ (.slice none 0 0)).setCell ⟨Z + 1, 2, none⟩ (.int .u32 (stN S5 : Nat))).setCell ⟨Z + 1, 3, none⟩ (.slice none 0 0)) [Z + 1] := ((((Turns.refl _ _).setCell (by simp) _).setCell (by simp) _).setCell (by simp) _).setCell (by simp) _
      have HX : Hid (Nx w ((((w9.setCell ⟨Z + 1, 0, none⟩ (.bool false)).setCell ⟨Z + 1, 1, none⟩ (.slice none 0 0)).setCell ⟨Z + 1, 2, none⟩ (.int .u32 (stN S5 : Nat))).setCell ⟨Z + 1, 3, none⟩ (.slice none 0 0)) b T F c S5.told) := by
        have h4 := HZw.out
        have h7 : Turns w w9 [b.n.T, b.L, b.E] := HT8.out.trans ht9 (fun k hk => .inl (by obtain rfl := List.mem_singleton.1 hk; simp))
        have h8 : Turns w ((((w9.setCell ⟨Z + 1, 0, none⟩ (.bool false)).setCell ⟨Z + 1, 1, none⟩ (.slice none 0 0)).setCell ⟨Z + 1, 2, none⟩ (.int .u32 (stN S5 : Nat))).setCell ⟨Z + 1, 3, none⟩ (.slice none 0 0)) [b.n.T, b.L, b.E] := h7.trans hT9 (fun k hk => .inr (by obtain rfl := List.mem_singleton.1 hk; omega))
        refine Nx.of (hA9.turns hT9 (fun k hk => ?_)) h8 (fun k hk => .inl ?_)
        · obtain rfl := List.mem_singleton.1 hk
          exact ⟨fun hm => by have := HL.out.1 _ hm; omega, fun hm => by have := HL.out.2 _ hm; omega⟩
        · simp only [List.mem_cons, List.not_mem_nil, or_false] at hk
          rcases hk with rfl | rfl | rfl
          · exact HTT.out.1
          · exact HTT.out.2.1
          · exact HTT.out.2.2
      have HZ9 : Hid (Row ((((w9.setCell ⟨Z + 1, 0, none⟩ (.bool false)).setCell ⟨Z + 1, 1, none⟩ (.slice none 0 0)).setCell ⟨Z + 1, 2, none⟩ (.int .u32 (stN S5 : Nat))).setCell ⟨Z + 1, 3, none⟩ (.slice none 0 0)) (Z + 1) 56 #[.bool false, .slice none 0 0, .int .u32 (stN S5 : Nat), .slice none 0 0]) := by
        have := (((hR9.put 0 (.bool false)).put 1 (.slice none 0 0)).put 2 (.int .u32 (stN S5 : Nat))).put 3 (.slice none 0 0)
        unfold Hid; simpa [nilAn] using this
      clear hA9 ht9 hR9 hT9 HStt HA8 HR8 HT8
      go_wp2
      refine bodyPost_ret (v := .agg #[.bool false, .slice none 0 0, .int .u32 (stN S5 : Nat), .slice none 0 0]) (results_cell_row rfl _ _ (Z + 1) 56 _ (0, 0) _ rfl HZ9.out Tryz.underlying56 rfl (by kernel_rfl)) rfl ?_
      rw [← HFin.out]
      exact ⟨rfl, HX.out⟩
  · have hr0 : ((Grd.clearR S.G pg : Int) != 0) = true := by simp; omega
    have HR := Lib.hid (raise_any HA5a.out 67108864 (by omega))
    have HFin0 : Hid (({ S with G := Grd.clearK S.G pg } : Ab).raise 67108864 = S.clearG ((p : Int) / c.group)) := by unfold Hid Ab.clearG; rw [← HGr.out, ← HPg.out, if_neg hr]
    clear hr
    generalize Grd.clearR S.G pg = cr at *
    go_wp2_with fail
    refine HR.out.mono ?_
    rintro e wZ ⟨rfl, hA5, ht5⟩
    have HT45 : Hid (Turns w4 wZ [b.L, b.E]) := (HT5.out.mono (by simp)).trans ht5 (fun k hk => .inl (by obtain rfl := List.mem_singleton.1 hk; simp))
    obtain ⟨S5, hS5⟩ : ∃ S5, S5 = ({ S with G := Grd.clearK S.G pg } : Ab).raise 67108864 := ⟨_, rfl⟩
    have HA5 := Lib.hid hA5
    rw [← hS5] at HA5
    have HFin : Hid (S5 = S.clearG ((p : Int) / c.group)) := hS5.trans HFin0.out
    clear hS5 HT5 HA5a hA5 ht5 HR HFin0 hr0
    clear w5
    obtain ⟨w5, hwz⟩ : ∃ w5, w5 = wZ := ⟨_, rfl⟩
    subst hwz
    have hG5 : S5.G.length = S.G.length := by rw [HA5.out.ok.G.1, HA4.out.ok.G.1]
    have HLa := Lib.hid (Grd.Lasting_any b.n.G b.L b.Lc S5.G (by omega) (by omega) 0 w5 HA5.out.gd HA5.out.ok.G.2)
    rw [hG5] at HLa
    have HG5 := Lib.hid hG5
    clear hG5
    have e12 := HA5.out.xG
    go_wp2_with fail
    refine HLa.out.mono ?_
    rintro e w6 ⟨L2, c2, rfl, hown2, hb6⟩
    have HA6 := Lib.hid (HA5.out.below hb6)
    have hL1 : L1 ∉ [b.L, b.E] := by
      have h1 := (Vca.own_blk HO1.out L1 (by simp [Vca.blk])).1
      have h2 := HA3.out.Tlt b.L HTT.out.2.1
      have h3 := HA3.out.Tlt b.E HTT.out.2.2
      simp only [List.mem_cons, List.not_mem_nil, or_false, not_or]
      omega
    have hO6 := own_below (HT45.out.own HO1.out (fun g hg hm => hL1 (by
      have : L1 = g := by simpa [Value.ownBlock] using hg
      rw [this]; exact hm))) hb6
    have HEq : Hid (Calls Tryz.prog 211 #[.slice (some ⟨L1, 0, none⟩) S.G.length c1, .slice (some ⟨L2, 0, none⟩) S.G.length c2] w6 fun e w' => e = .returned (.bool (decide (Grd.lastK S.G = Grd.lastK S5.G))) ∧ Below w6.heap.size w6 w') := by
      obtain ⟨h1, h1c⟩ := own_cells hO6
      obtain ⟨h2, h2c⟩ := own_cells hown2
      have h := Equal_bytes L1 L2 c1 c2 (Grd.lastK S.G) (Grd.lastK S5.G) (by rw [Grd.lastK_length, Grd.lastK_length]; exact HG5.out.symm) (by rw [Grd.lastK_length]; omega) w6 h1 (by rw [Grd.lastK_length] at h2 ⊢; rw [HG5.out] at h2; exact h2) (by rw [Grd.lastK_length]; exact h1c) (by rw [Grd.lastK_length]; exact h2c)
      rw [Grd.lastK_length] at h
      exact h
    have h04 : Turns w w4 [b.n.T, b.L, b.E] := (HT03.out.mono (by simp)).then_below HB4.out
    have HT6 : Hid (Turns w w6 [b.n.T, b.L, b.E]) := (h04.trans HT45.out (fun k hk => .inl (List.mem_cons_of_mem _ hk))).then_below hb6
    have HR6 : Hid (Row w6 (Z + 1) 56 nilAn) := (HT45.out.row HR4.out (by
      have h2 := HH.out.Tlt b.L HTT.out.2.1
      have h3 := HH.out.Tlt b.E HTT.out.2.2
      have h4 := HZw.out
      simp only [List.mem_cons, List.not_mem_nil, or_false, not_or]
      omega)).below hb6 (by have h1 := HB4.out.size; have h2 := HT45.out.size; have h3 := HZL.out; omega)
    clear h04 HLa hown2 hb6 hO6 hL1 HO1 HA5 HA4 HA3 HR4 HT45 HT03 HB4
    go_wp2_with fail
    refine HEq.out.mono ?_
    rintro e w7 ⟨rfl, hb7⟩
    have HA7 := Lib.hid (HA6.out.below hb7)
    have HT7 := Lib.hid (HT6.out.then_below hb7)
    have HR7 : Hid (Row w7 (Z + 1) 56 nilAn) := HR6.out.below hb7 HR6.out.lt
    clear hb7 HEq HA6 HT6 HR6
    cases hdc : decide (Grd.lastK S.G = Grd.lastK S5.G) with
    | true =>
      have HStt := Lib.hid (status_any HA7.out)
      go_wp2_with fail
      refine HStt.out.mono ?_
      rintro e w9 ⟨rfl, hA9, ht9⟩
      have hZE : Z + 1 ≠ b.E := by
        have h3 := HH.out.Tlt b.E HTT.out.2.2
        have h4 := HZw.out
        omega
      have hR9 := ht9.row HR7.out (by simpa using hZE)
      have n0 : w9.cell? ⟨Z + 1, 0, none⟩ = some (.bool false) := by rw [hR9.cell]; rfl
      have n1 : w9.cell? ⟨Z + 1, 1, none⟩ = some (.slice none 0 0) := by rw [hR9.cell]; rfl
      have n2 : w9.cell? ⟨Z + 1, 2, none⟩ = some (.int .u32 0) := by rw [hR9.cell]; rfl
      have n3 : w9.cell? ⟨Z + 1, 3, none⟩ = some (.slice none 0 0) := by rw [hR9.cell]; rfl
      have g0 := hR9.frozen 0
      have g1 := hR9.frozen 1
      have g2 := hR9.frozen 2
      have g3 := hR9.frozen 3
      have hT9 : Turns w9 ((((w9.setCell ⟨Z + 1, 0, none⟩ (.bool false)).setCell ⟨Z + 1, 1, none⟩ (.slice none 0 0)).setCell ⟨Z + 1, 2, none⟩ (.int .u32 (stN S5 : Nat))).setCell ⟨Z + 1, 3, none⟩ (.slice none 0 0)) [Z + 1] := ((((Turns.refl _ _).setCell (by simp) _).setCell (by simp) _).setCell (by simp) _).setCell (by simp) _
      have HX : Hid (Nx w ((((w9.setCell ⟨Z + 1, 0, none⟩ (.bool false)).setCell ⟨Z + 1, 1, none⟩ (.slice none 0 0)).setCell ⟨Z + 1, 2, none⟩ (.int .u32 (stN S5 : Nat))).setCell ⟨Z + 1, 3, none⟩ (.slice none 0 0)) b T F c S5.told) := by
        have h4 := HZw.out
        have h7 : Turns w w9 [b.n.T, b.L, b.E] := HT7.out.trans ht9 (fun k hk => .inl (by obtain rfl := List.mem_singleton.1 hk; simp))
        have h8 : Turns w ((((w9.setCell ⟨Z + 1, 0, none⟩ (.bool false)).setCell ⟨Z + 1, 1, none⟩ (.slice none 0 0)).setCell ⟨Z + 1, 2, none⟩ (.int .u32 (stN S5 : Nat))).setCell ⟨Z + 1, 3, none⟩ (.slice none 0 0)) [b.n.T, b.L, b.E] := h7.trans hT9 (fun k hk => .inr (by obtain rfl := List.mem_singleton.1 hk; omega))
        refine Nx.of (hA9.turns hT9 (fun k hk => ?_)) h8 (fun k hk => .inl ?_)
        · obtain rfl := List.mem_singleton.1 hk
          exact ⟨fun hm => by have := HL.out.1 _ hm; omega, fun hm => by have := HL.out.2 _ hm; omega⟩
        · simp only [List.mem_cons, List.not_mem_nil, or_false] at hk
          rcases hk with rfl | rfl | rfl
          · exact HTT.out.1
          · exact HTT.out.2.1
          · exact HTT.out.2.2
      have HZ9 : Hid (Row ((((w9.setCell ⟨Z + 1, 0, none⟩ (.bool false)).setCell ⟨Z + 1, 1, none⟩ (.slice none 0 0)).setCell ⟨Z + 1, 2, none⟩ (.int .u32 (stN S5 : Nat))).setCell ⟨Z + 1, 3, none⟩ (.slice none 0 0)) (Z + 1) 56 #[.bool false, .slice none 0 0, .int .u32 (stN S5 : Nat), .slice none 0 0]) := by
        have := (((hR9.put 0 (.bool false)).put 1 (.slice none 0 0)).put 2 (.int .u32 (stN S5 : Nat))).put 3 (.slice none 0 0)
        unfold Hid; simpa [nilAn] using this
      clear hA9 ht9 hR9 hT9 HStt HA7 HR7 HT7
      go_wp2
      refine bodyPost_ret (v := .agg #[.bool false, .slice none 0 0, .int .u32 (stN S5 : Nat), .slice none 0 0]) (results_cell_row rfl _ _ (Z + 1) 56 _ (0, 0) _ rfl HZ9.out Tryz.underlying56 rfl (by kernel_rfl)) rfl ?_
      rw [← HFin.out]
      exact ⟨rfl, HX.out⟩
    | false =>
      have q1 : ∀ t : Kept w7 [], t.u.cell? ⟨b.E, 10, none⟩ = some (.iface 133 (.agg #[.pointer (some ⟨b.n.D, 0, none⟩), .pointer (some ⟨b.n.M, 0, none⟩)])) := fun t => (HA7.out.turns t.h (by simp)).xSt
      have q2 : ∀ t : Kept w7 [], t.u.cell? ⟨b.E, 11, none⟩ = some (.pointer (some ⟨b.n.R, 0, none⟩)) := fun t => (HA7.out.turns t.h (by simp)).xR
      have q3 : ∀ t : Kept w7 [], t.u.cell? ⟨b.E, 12, none⟩ = some (.pointer (some ⟨b.n.G, 0, none⟩)) := fun t => (HA7.out.turns t.h (by simp)).xG
      have hmt := mt_Keep b.n.D b.n.M
      have hnl := nl_Keep b.n.D b.n.M
      have HK := Lib.hid (Keep_any b.n.D (.pointer (some ⟨b.n.R, 0, none⟩)) (.pointer (some ⟨b.n.G, 0, none⟩)) w7.drew)
      have HLs := Lib.hid (lasts_yes HA7.out.drew)
      go_wp2_with fail
      (refine wp_region_noPanic ?_; refine region_treeW (fun u => ∃ t : Kept w7 [], u = t.u) (Tn.takes [0, 1, 2, 3, 4, 5, 6, 7, 8, 9, 10, 11, 12, 13, 14] (.one 15 (.one 16 .nil))) (by kernel_rfl) (by kernel_rfl) (fun _ _ _ _ _ h => h) ⟨⟨_, Turns.of_below (Below.refl _ _).drew _⟩, rfl⟩ ?_; simp only [Tn.takes])
      (repeat ((with_reducible refine wpTree_take (by with_unfolding_all exact rfl) ?_); (with_reducible (show wpQuiet _ _ _ _ (_ :: _) _)); go_big_quiet_step (fail); (with_reducible refine wpQuiet_nil ?_)))
      clear q1 q2 q3
      (with_reducible refine wpTree_one (by with_unfolding_all exact rfl) ?_)
      gi_wp2_with fail
      (first | refine ⟨trivial, ((callsIn_wide (n := 8)).2 (HK.out)).mono ?_⟩ | refine ((callsIn_wide (n := 8)).2 (HK.out)).mono ?_)
      rintro e w8 ⟨rfl, hw8⟩
      rw [hw8]
      clear hw8
      gi_wp2_with fail
      ((with_reducible refine outQ_normal ?_ ?_); exact ⟨⟨_, (Turns.refl _ _).drew⟩, rfl⟩)
      (with_reducible refine wpTree_one (by with_unfolding_all exact rfl) ?_)
      gi_wp2_with fail
      (first | refine ⟨trivial, ((callsIn_wide (n := 8)).2 (HLs.out)).mono ?_⟩ | refine ((callsIn_wide (n := 8)).2 (HLs.out)).mono ?_)
      rintro e w8 ⟨rfl, hw8⟩
      rw [hw8]
      clear hw8
      gi_wp2_with fail
      ((with_reducible refine outQ_normal ?_ ?_); exact ⟨⟨_, (Turns.refl _ _).drew⟩, rfl⟩)
      with_reducible refine wpTree_nil ?_
      refine NoPanic.normal ?_
      have HA8 := Lib.hid HA7.out.drew
      have HR8 : Hid (Row w7.drew (Z + 1) 56 nilAn) := HR7.out.drewN 1
      have HT8 : Hid (Turns w w7.drew [b.n.T, b.L, b.E]) := HT7.out.drew
      clear HA7 HR7 HT7 HK HLs hmt hnl
      generalize w7.drew = w8 at *
      have HStt := Lib.hid (status_any HA8.out)
      go_wp2_with fail
      refine HStt.out.mono ?_
      rintro e w9 ⟨rfl, hA9, ht9⟩
      have hZE : Z + 1 ≠ b.E := by
        have h3 := HH.out.Tlt b.E HTT.out.2.2
        have h4 := HZw.out
        omega
      have hR9 := ht9.row HR8.out (by simpa using hZE)
      have n0 : w9.cell? ⟨Z + 1, 0, none⟩ = some (.bool false) := by rw [hR9.cell]; rfl
      have n1 : w9.cell? ⟨Z + 1, 1, none⟩ = some (.slice none 0 0) := by rw [hR9.cell]; rfl
      have n2 : w9.cell? ⟨Z + 1, 2, none⟩ = some (.int .u32 0) := by rw [hR9.cell]; rfl
      have n3 : w9.cell? ⟨Z + 1, 3, none⟩ = some (.slice none 0 0) := by rw [hR9.cell]; rfl
      have g0 := hR9.frozen 0
      have g1 := hR9.frozen 1
      have g2 := hR9.frozen 2
      have g3 := hR9.frozen 3
      have hT9 : Turns w9 ((((w9.setCell ⟨Z + 1, 0, none⟩ (.bool false)).setCell ⟨Z + 1, 1, none⟩ (.slice none 0 0)).setCell ⟨Z + 1, 2, none⟩ (.int .u32 (stN S5 : Nat))).setCell ⟨Z + 1, 3, none⟩ (.slice none 0 0)) [Z + 1] := ((((Turns.refl _ _).setCell (by simp) _).setCell (by simp) _).setCell (by simp) _).setCell (by simp) _
      have HX : Hid (Nx w ((((w9.setCell ⟨Z + 1, 0, none⟩ (.bool false)).setCell ⟨Z + 1, 1, none⟩ (.slice none 0 0)).setCell ⟨Z + 1, 2, none⟩ (.int .u32 (stN S5 : Nat))).setCell ⟨Z + 1, 3, none⟩ (.slice none 0 0)) b T F c S5.told) := by
        have h4 := HZw.out
        have h7 : Turns w w9 [b.n.T, b.L, b.E] := HT8.out.trans ht9 (fun k hk => .inl (by obtain rfl := List.mem_singleton.1 hk; simp))
        have h8 : Turns w ((((w9.setCell ⟨Z + 1, 0, none⟩ (.bool false)).setCell ⟨Z + 1, 1, none⟩ (.slice none 0 0)).setCell ⟨Z + 1, 2, none⟩ (.int .u32 (stN S5 : Nat))).setCell ⟨Z + 1, 3, none⟩ (.slice none 0 0)) [b.n.T, b.L, b.E] := h7.trans hT9 (fun k hk => .inr (by obtain rfl := List.mem_singleton.1 hk; omega))
        refine Nx.of (hA9.turns hT9 (fun k hk => ?_)) h8 (fun k hk => .inl ?_)
        · obtain rfl := List.mem_singleton.1 hk
          exact ⟨fun hm => by have := HL.out.1 _ hm; omega, fun hm => by have := HL.out.2 _ hm; omega⟩
        · simp only [List.mem_cons, List.not_mem_nil, or_false] at hk
          rcases hk with rfl | rfl | rfl
          · exact HTT.out.1
          · exact HTT.out.2.1
          · exact HTT.out.2.2
      have HZ9 : Hid (Row ((((w9.setCell ⟨Z + 1, 0, none⟩ (.bool false)).setCell ⟨Z + 1, 1, none⟩ (.slice none 0 0)).setCell ⟨Z + 1, 2, none⟩ (.int .u32 (stN S5 : Nat))).setCell ⟨Z + 1, 3, none⟩ (.slice none 0 0)) (Z + 1) 56 #[.bool false, .slice none 0 0, .int .u32 (stN S5 : Nat), .slice none 0 0]) := by
        have := (((hR9.put 0 (.bool false)).put 1 (.slice none 0 0)).put 2 (.int .u32 (stN S5 : Nat))).put 3 (.slice none 0 0)
        unfold Hid; simpa [nilAn] using this
      clear hA9 ht9 hR9 hT9 HStt HA8 HR8 HT8
      go_wp2
      refine bodyPost_ret (v := .agg #[.bool false, .slice none 0 0, .int .u32 (stN S5 : Nat), .slice none 0 0]) (results_cell_row rfl _ _ (Z + 1) 56 _ (0, 0) _ rfl HZ9.out Tryz.underlying56 rfl (by kernel_rfl)) rfl ?_
      rw [← HFin.out]
      exact ⟨rfl, HX.out⟩
end
end Go.Proofs.YtclhhdodebdmjaaGreat

namespace Go.Proofs.YtclhhdodebdmjaaGreat
open Go.RowKit Go.MapKept Go.ChangeMaps
set_option linter.unusedVariables false
set_option linter.unusedSimpArgs false
set_option maxRecDepth 100000

theorem Bytes_any {R : Nat} {V : Rv} (w : World) (h : RgIs w R V) : Calls Tryz.prog 37 #[.pointer (some ⟨R, 0, none⟩)] w fun e w' => e = .returned (.agg (regRow V)) ∧ Below w.heap.size w w' := by
  obtain ⟨r, hr⟩ : ∃ r, r = regRow V := ⟨_, rfl⟩
  rw [← hr]
  have HRow : Hid (Row w R 199 r) := by rw [hr]; exact h
  have hsz : r.size = 64 := by rw [hr]; simp [regRow]
  have hone : r.all (·.oneCell') = true := by
    rw [hr, Array.all_eq_true_iff_forall_mem]
    intro x hx
    simp [regRow] at hx
    obtain ⟨j, _, rfl⟩ := hx
    rfl
  have Hsz := Lib.hid hsz
  have Hone := Lib.hid hone
  clear hr h hsz hone
  go_enter Tryz.func37, Tryz.ntmps37
  go_upto_region 1 with fail
  have HT : Hid ((Tryz.prog.info? 51).map (·.size) = some 64) := by unfold Hid; kernel_rfl
  generalize hW : World.alloc w _ = W
  have HB : Hid (Below w.heap.size w W) := by unfold Hid; rw [← hW]; (repeat (first | (with_reducible refine Below.drew ?_) | (with_reducible refine below_drewN0 ?_ _) | ((with_reducible refine Below.setCell ?_ ?_ _); rotate_left; focus (first | omega | (simp; done) | (simp; omega) | (simp at *; omega))) | ((with_reducible refine Below.alloc ?_ ?_ _); rotate_left; focus (first | omega | (simp; done) | (simp; omega) | (simp at *; omega))) | (with_reducible exact Below.refl _ _)))
  obtain ⟨cs, hcs, hR0⟩ : ∃ cs, cs.size = 64 ∧ Row W w.heap.size 51 cs := by rw [← hW]; exact ⟨_, rfl, Row.fresh _ _ _⟩
  have HR0 := Lib.hid hR0
  have Hcs := Lib.hid hcs
  have HRW := Lib.hid (HRow.out.below HB.out HRow.out.lt)
  clear hW hcs hR0
  go_wp2_with (first | (with_reducible refine wpList_load_whole (o := ⟨some 6, .load 51 (.tmp 5), _, _, _, _⟩) rfl 51 (.tmp 5) rfl R ?d1 199 r HRW.out 64 5 ?d3 ?d4 ?_) | (with_reducible refine wpList_store_whole (o := ⟨none, .store 51 (.tmp 2) (.tmp 6), _, _, _, _⟩) rfl 51 (.tmp 2) (.tmp 6) rfl w.heap.size r ?e1 ?e2 51 cs HR0.out ?e4 ?e5 Hone.out ?_))
  case d1 => rfl
  case d3 => exact Tryz.underlying51
  case d4 => rw [Hsz.out]; exact HT.out
  case e4 => rw [Hsz.out]; exact HT.out
  case e5 => rw [Hsz.out]; exact Hcs.out
  intro w3 HR3 hg3
  go_wp2_with fail
  refine bodyPost_ret (v := .agg r) (results_cell_row rfl _ _ w.heap.size 51 _ (0, 0) _ rfl HR3.out Tryz.underlying51 rfl (by rw [Hsz.out]; exact HT.out)) rfl (And.intro rfl ?_)
  exact below_grown HB.out hg3 HB.out.size (Nat.le_refl _)
section
variable {w w' : World} {b : Bn} {T F : List Nat} {c : Cf} {S : Ab}
theorem Nx.drewN (h : Nx w w' b T F c S) (n : Nat) : Nx w (w'.drewN n) b T F c S := by
  obtain ⟨b1, T1, F1, hA, h1, h2, ht, h3⟩ := h
  exact ⟨b1, T1, F1, hA.drewN n, h1, h2, ht.drewN n, h3⟩
theorem probe_5 (v : Nat) (w : World) : Calls Tryz.prog 213 #[.pointer (some ⟨b.E, 0, none⟩), .int .i64 5, .int .u8 v] w fun e w' => e = .returned (.int .i64 0) ∧ w' = w := by
  go_enter Tryz.func213, Tryz.ntmps213
  go_wp2
  go_ret
  exact ⟨rfl, rfl⟩
theorem change_5 (h : AbIs w b T F c S) (arg v : Nat) (harg : arg < 4294967296) (hn : nextW S.V arg = .tuple #[.int .i64 5, .int .u8 v, .int .i64 0]) (hv : v < 256) (hw : writeE S.V 5 v = 0) :
    Calls Tryz.prog 143 #[.pointer (some ⟨b.E, 0, none⟩), .int .u32 arg] w fun e w' => e = .returned (.tuple #[]) ∧ Nx w w' b T F c { S with V := writeV S.V 5 v } := by
  have HH := Lib.hid h
  have HNx := Lib.hid (Next_rg h.rg arg harg)
  rw [hn] at HNx
  have e11 := h.xR
  have HW := Lib.hid hw
  clear h hn hw
  go_enter Tryz.func143, Tryz.ntmps143
  go_wp2_with fail
  refine HNx.out.mono ?_
  rintro e w1 ⟨rfl, hb1⟩
  have HA1 := Lib.hid (HH.out.below hb1)
  have HB1 := Lib.hid hb1
  have e11 := HA1.out.xR
  have HBy := Lib.hid (Bytes_any w1 HA1.out.rg)
  clear hb1 HNx
  go_wp2_with fail
  refine HBy.out.mono ?_
  rintro e w2 ⟨rfl, hb2⟩
  have HA2 := Lib.hid (HA1.out.below hb2)
  have HB2 : Hid (Below w.heap.size w w2) := HB1.out.trans (hb2.mono HB1.out.size)
  clear hb2 HBy HA1 e11
  have hsz : (regRow S.V).size = 64 := by simp [regRow]
  have hone : (regRow S.V).all (·.oneCell') = true := by
    rw [Array.all_eq_true_iff_forall_mem]
    intro x hx
    simp [regRow] at hx
    obtain ⟨j, _, rfl⟩ := hx
    rfl
  obtain ⟨r, hr⟩ : ∃ r, r = regRow S.V := ⟨_, rfl⟩
  rw [← hr] at hsz hone ⊢
  have Hsz := Lib.hid hsz
  have Hone := Lib.hid hone
  have HT : Hid ((Tryz.prog.info? 51).map (·.size) = some 64) := by unfold Hid; kernel_rfl
  clear hr hsz hone
  go_wp2_with (with_reducible refine wpList_store_whole (o := ⟨none, .store 51 (.tmp 7) (.tmp 22), _, _, _, _⟩) rfl 51 (.tmp 7) (.tmp 22) rfl w2.heap.size r ?e1 ?e2 51 ?old ?hrow ?e4 ?e5 Hone.out ?_)
  case e1 => rfl
  case e2 => rfl
  case hrow => exact Row.fresh _ _ _
  case e4 => rw [Hsz.out]; exact HT.out
  case e5 => rw [Hsz.out]; rfl
  intro w3 HR3 hg3
  have HB3 : Hid (Below w2.heap.size w2 w3) := below_grown (by (repeat (first | (with_reducible refine Below.drew ?_) | (with_reducible refine below_drewN0 ?_ _) | ((with_reducible refine Below.setCell ?_ ?_ _); rotate_left; focus (first | omega | (simp; done) | (simp; omega) | (simp at *; omega))) | ((with_reducible refine Below.alloc ?_ ?_ _); rotate_left; focus (first | omega | (simp; done) | (simp; omega) | (simp at *; omega))) | (with_reducible exact Below.refl _ _)))) hg3 (by simp) (Nat.le_refl _)
  have HA3 := Lib.hid (HA2.out.below HB3.out)
  have HB03 : Hid (Below w.heap.size w w3) := HB2.out.trans (HB3.out.mono HB2.out.size)
  have e11 := HA3.out.xR
  have HPr := Lib.hid (probe_5 (b := b) v w3)
  have HWr : Hid (Calls Tryz.prog 214 #[.pointer (some ⟨b.n.R, 0, none⟩), .int .i64 5, .int .u8 v] w3 fun e w' => e = .returned (.int .i64 0) ∧ RgIs w' b.n.R (writeV S.V 5 v) ∧ Turns w3 w' [b.n.R]) := by
    have h := Write_rg HA3.out.rg 5 v hv
    rw [HW.out] at h
    exact h
  clear hg3 HB3 HB2 HA2 HR3 HT Hsz Hone
  go_wp2_with fail
  refine HPr.out.mono ?_
  rintro e w4 ⟨rfl, hw4⟩
  rw [hw4]
  clear hw4 HPr
  go_wp2_with fail
  refine HWr.out.mono ?_
  rintro e w4 ⟨rfl, hr4, ht4⟩
  have HX : Hid (Nx w w4 b T F c { S with V := writeV S.V 5 v }) := by
    refine Nx.of (HA3.out.regs ht4 hr4 { HA3.out.ok with V := fun i => ?_, ra := ?_ }) ((Turns.of_below HB03.out [b.n.R]).trans ht4 (fun k hk => .inl hk)) (fun k hk => .inl ?_)
    · show writeV S.V 5 v i < 256
      unfold writeV updR
      split
      · show (if i = 5 then v else S.V i) < 256
        split
        · exact hv
        · exact HA3.out.ok.V i
      · exact HA3.out.ok.V i
    · show writeV S.V 5 v 0 < 8
      unfold writeV updR
      split
      · exact HA3.out.ok.ra
      · exact HA3.out.ok.ra
    · obtain rfl := List.mem_singleton.1 hk
      exact HH.out.inT _ (by simp [Bn.ts])
  clear hr4 ht4 HWr HA3 HB03
  have HK5 : Hid (∀ k, Calls Tryz.prog 96 #[.int .i64 5] (w4.drewN k) fun e w' => e = .returned (.int .i64 1) ∧ w' = w4.drewN k) := fun k => by
    have h := Kind_any 5 (w4.drewN k)
    rw [show kindV 5 = 1 by decide] at h
    exact h
  have HK13 : Hid (∀ k, Calls Tryz.prog 96 #[.int .i64 13] (w4.drewN k) fun e w' => e = .returned (.int .i64 3) ∧ w' = w4.drewN k) := fun k => by
    have h := Kind_any 13 (w4.drewN k)
    rw [show kindV 13 = 3 by decide] at h
    exact h
  go_wp2_with fail
  go_quiet ((go_at_call 96; first | (with_reducible exact Calls.quiet_of_same (HK5.out _)) | (with_reducible exact Calls.quiet_of_same (HK13.out _))))
  have HY : Hid (Nx w (w4.drewN nq) b T F c { S with V := writeV S.V 5 v }) := HX.out.drewN nq
  clear HX HK5 HK13
  go_wp2
  go_end0
  exact ⟨rfl, HY.out⟩
end
end Go.Proofs.YtclhhdodebdmjaaGreat

namespace Go.Proofs.YtclhhdodebdmjaaGreat
open Go.RowKit Go.MapKept Go.ChangeMaps
set_option linter.unusedVariables false
set_option linter.unusedSimpArgs false
set_option maxRecDepth 100000

section
variable {w w' : World} {b : Bn} {T F : List Nat} {c : Cf} {S : Ab}
theorem erase_from (h : AbIs w b T F c S) (arg : Nat) (harg : arg < 4294967296) (harea : S.V 0 ≠ 3) (hin : insideB c S ((S.V 0 : Nat) : Int) arg 1 = true) :
    Calls Tryz.prog 146 #[.pointer (some ⟨b.E, 0, none⟩), .agg #[.int .i64 35, .int .u32 arg]] w fun e w' => e = .returned (.tuple #[]) ∧ Nx w w' b T F c { S with e := { S.e with frm := some arg, til := Option.none } } := by
  have HAr := Lib.hid harea
  have HIn0 := Lib.hid hin
  have HH := Lib.hid h
  obtain ⟨W, hW⟩ : ∃ W, W = w.alloc (.cells #[.int .i64 35, .int .u32 arg] 89) := ⟨_, rfl⟩
  obtain ⟨Z, hZ⟩ : ∃ Z, Z = w.heap.size := ⟨_, rfl⟩
  have HBW : Hid (Below w.heap.size w W) := by unfold Hid; rw [hW]; (repeat (first | (with_reducible refine Below.drew ?_) | (with_reducible refine below_drewN0 ?_ _) | ((with_reducible refine Below.setCell ?_ ?_ _); rotate_left; focus (first | omega | (simp; done) | (simp; omega) | (simp at *; omega))) | ((with_reducible refine Below.alloc ?_ ?_ _); rotate_left; focus (first | omega | (simp; done) | (simp; omega) | (simp at *; omega))) | (with_reducible exact Below.refl _ _)))
  have HZ : Hid (Row W Z 89 #[.int .i64 35, .int .u32 arg]) := by unfold Hid; rw [hW, hZ]; exact Row.fresh _ _ _
  have hA0 := h.below HBW.out
  have HA0 := Lib.hid hA0
  have HCu := Lib.hid (current_any hA0)
  have HIn : Hid (Calls Tryz.prog 97 #[.pointer (some ⟨b.E, 0, none⟩), .int .i64 (S.V 0 : Nat), .int .u32 arg, .int .i64 1] W fun e w' => e = .returned (.bool true) ∧ AbIs w' b T F c S ∧ Turns W w' [b.n.T]) := by
    have h := inside_any hA0 ((S.V 0 : Nat) : Int) arg 1 harg (by omega)
    rw [HIn0.out] at h
    exact h
  have z1 := HZ.out.cell 1
  have d3 : (((S.V 0 : Nat) : Int) != 3) = true := by simp; omega
  clear h hin harea hA0
  go_enter Tryz.func146, Tryz.ntmps146
  go_wp2_with fail
  rw [← hW, ← hZ]
  clear hW hZ
  refine HCu.out.mono ?_
  rintro e W2 ⟨rfl, hW2⟩
  rw [hW2]
  clear hW2 HCu W2
  go_wp2_with fail
  refine HIn.out.mono ?_
  rintro e w2 ⟨rfl, hA2, ht2⟩
  have HA2 := Lib.hid hA2
  have HTW : Hid (b.n.T ∈ T ∧ b.E ∈ T) := ⟨HH.out.inT _ (by simp [Bn.ts]), HH.out.inT _ (by simp [Bn.ts])⟩
  have HT2 : Hid (Turns w w2 T) := ((Turns.of_below HBW.out [b.n.T]).trans ht2 (fun k hk => .inl hk)).mono (fun k hk => by obtain rfl := List.mem_singleton.1 hk; exact HTW.out.1)
  have HZ2 : Hid (Row w2 Z 89 #[.int .i64 35, .int .u32 arg]) := ht2.row HZ.out (by
    obtain ⟨r, hr⟩ := HA0.out.tb
    simpa using HZ.out.ne_type hr (by decide))
  have e20 := hA2.xFrm
  have e21 := hA2.xTil
  clear hA2 ht2 HIn z1 HA0 HZ d3
  go_wp2_with fail
  go_quiet (fail)
  have HA3 := Lib.hid (HA2.out.drewN nq)
  have HT3 : Hid (Turns w (w2.drewN nq) T) := HT2.out.drewN nq
  have HZ3 : Hid (Row (w2.drewN nq) Z 89 #[.int .i64 35, .int .u32 arg]) := HZ2.out.drewN nq
  clear HA2 HT2 HZ2 e20 e21
  generalize w2.drewN nq = w3 at *
  have e20 := HA3.out.xFrm
  have f20 := HA3.out.rE.frozen 20
  have e21 := HA3.out.xTil
  have f21 := HA3.out.rE.frozen 21
  have z0 : w3.cell? ⟨Z, 0, none⟩ = some (.int .i64 35) := by rw [HZ3.out.cell]; rfl
  have z1 : w3.cell? ⟨Z, 1, none⟩ = some (.int .u32 arg) := by rw [HZ3.out.cell]; rfl
  have hZE : Z ≠ b.E := HZ3.out.ne_type HA3.out.rE (by decide)
  have hT4 : Turns w3 ((w3.setCell ⟨b.E, 21, none⟩ (.int .i64 (-1))).setCell ⟨b.E, 20, none⟩ (.int .i64 arg)) [b.E] := ((Turns.refl _ _).setCell (by simp) _).setCell (by simp) _
  have HX : Hid (Nx w ((w3.setCell ⟨b.E, 21, none⟩ (.int .i64 (-1))).setCell ⟨b.E, 20, none⟩ (.int .i64 arg)) b T F c { S with e := { S.e with frm := some arg, til := Option.none } }) := by
    have hr := (HA3.out.rE.put 21 (.int .i64 (-1))).put 20 (.int .i64 (arg : Int))
    exact Nx.of (HA3.out.eng (e' := { S.e with frm := some arg, til := Option.none }) hT4 hr { HA3.out.ok with
      frm := fun n hn => by injection hn with hn; omega
      til := fun n hn => by cases hn }) (HT3.out.trans hT4 (fun k hk => .inl (by obtain rfl := List.mem_singleton.1 hk; exact HTW.out.2))) (fun k hk => .inl hk)
  clear hT4 HA3 HT3
  go_wp2
  go_end0
  exact ⟨rfl, HX.out⟩
theorem erase_to (h : AbIs w b T F c S) (arg f : Nat) (harg : arg < 4294967296) (harea : S.V 0 ≠ 3) (hin : insideB c S ((S.V 0 : Nat) : Int) arg 1 = true) (hf : S.e.frm = some f) (hfa : f ≤ arg) :
    Calls Tryz.prog 146 #[.pointer (some ⟨b.E, 0, none⟩), .agg #[.int .i64 36, .int .u32 arg]] w fun e w' => e = .returned (.tuple #[]) ∧ Nx w w' b T F c { S with e := { S.e with til := some arg } } := by
  have hfo : optI S.e.frm = (f : Int) := by rw [hf]; rfl
  obtain ⟨fo, hfo2⟩ : ∃ fo, fo = optI S.e.frm := ⟨_, rfl⟩
  have d4 : decide (fo < 0) = false := by rw [hfo2, hfo, decide_eq_false_iff_not]; omega
  have d5 : decide ((arg : Int) < fo) = false := by rw [hfo2, hfo, decide_eq_false_iff_not]; omega
  have HFo := Lib.hid hfo2
  clear hf hfa hfo hfo2
  have HAr := Lib.hid harea
  have HIn0 := Lib.hid hin
  have HH := Lib.hid h
  obtain ⟨W, hW⟩ : ∃ W, W = w.alloc (.cells #[.int .i64 36, .int .u32 arg] 89) := ⟨_, rfl⟩
  obtain ⟨Z, hZ⟩ : ∃ Z, Z = w.heap.size := ⟨_, rfl⟩
  have HBW : Hid (Below w.heap.size w W) := by unfold Hid; rw [hW]; (repeat (first | (with_reducible refine Below.drew ?_) | (with_reducible refine below_drewN0 ?_ _) | ((with_reducible refine Below.setCell ?_ ?_ _); rotate_left; focus (first | omega | (simp; done) | (simp; omega) | (simp at *; omega))) | ((with_reducible refine Below.alloc ?_ ?_ _); rotate_left; focus (first | omega | (simp; done) | (simp; omega) | (simp at *; omega))) | (with_reducible exact Below.refl _ _)))
  have HZ : Hid (Row W Z 89 #[.int .i64 36, .int .u32 arg]) := by unfold Hid; rw [hW, hZ]; exact Row.fresh _ _ _
  have hA0 := h.below HBW.out
  have HA0 := Lib.hid hA0
  have HCu := Lib.hid (current_any hA0)
  have HIn : Hid (Calls Tryz.prog 97 #[.pointer (some ⟨b.E, 0, none⟩), .int .i64 (S.V 0 : Nat), .int .u32 arg, .int .i64 1] W fun e w' => e = .returned (.bool true) ∧ AbIs w' b T F c S ∧ Turns W w' [b.n.T]) := by
    have h := inside_any hA0 ((S.V 0 : Nat) : Int) arg 1 harg (by omega)
    rw [HIn0.out] at h
    exact h
  have z1 := HZ.out.cell 1
  have d3 : (((S.V 0 : Nat) : Int) != 3) = true := by simp; omega
  clear h hin harea hA0
  go_enter Tryz.func146, Tryz.ntmps146
  go_wp2_with fail
  rw [← hW, ← hZ]
  clear hW hZ
  refine HCu.out.mono ?_
  rintro e W2 ⟨rfl, hW2⟩
  rw [hW2]
  clear hW2 HCu W2
  go_wp2_with fail
  refine HIn.out.mono ?_
  rintro e w2 ⟨rfl, hA2, ht2⟩
  have HA2 := Lib.hid hA2
  have HTW : Hid (b.n.T ∈ T ∧ b.E ∈ T) := ⟨HH.out.inT _ (by simp [Bn.ts]), HH.out.inT _ (by simp [Bn.ts])⟩
  have HT2 : Hid (Turns w w2 T) := ((Turns.of_below HBW.out [b.n.T]).trans ht2 (fun k hk => .inl hk)).mono (fun k hk => by obtain rfl := List.mem_singleton.1 hk; exact HTW.out.1)
  have HZ2 : Hid (Row w2 Z 89 #[.int .i64 36, .int .u32 arg]) := ht2.row HZ.out (by
    obtain ⟨r, hr⟩ := HA0.out.tb
    simpa using HZ.out.ne_type hr (by decide))
  have e20 := hA2.xFrm
  have e21 := hA2.xTil
  clear hA2 ht2 HIn z1 HA0 HZ d3
  go_wp2_with fail
  go_quiet (fail)
  have HA3 := Lib.hid (HA2.out.drewN nq)
  have HT3 : Hid (Turns w (w2.drewN nq) T) := HT2.out.drewN nq
  have HZ3 : Hid (Row (w2.drewN nq) Z 89 #[.int .i64 36, .int .u32 arg]) := HZ2.out.drewN nq
  clear HA2 HT2 HZ2 e20 e21
  generalize w2.drewN nq = w3 at *
  have e20 := HA3.out.xFrm
  have f20 := HA3.out.rE.frozen 20
  have e21 := HA3.out.xTil
  have f21 := HA3.out.rE.frozen 21
  have z0 : w3.cell? ⟨Z, 0, none⟩ = some (.int .i64 36) := by rw [HZ3.out.cell]; rfl
  have z1 : w3.cell? ⟨Z, 1, none⟩ = some (.int .u32 arg) := by rw [HZ3.out.cell]; rfl
  have hZE : Z ≠ b.E := HZ3.out.ne_type HA3.out.rE (by decide)
  rw [← HFo.out] at e20
  rw [← HFo.out]
  have hT4 : Turns w3 ((w3.setCell ⟨b.E, 21, none⟩ (.int .i64 (-1))).setCell ⟨b.E, 21, none⟩ (.int .i64 arg)) [b.E] := ((Turns.refl _ _).setCell (by simp) _).setCell (by simp) _
  have HX : Hid (Nx w ((w3.setCell ⟨b.E, 21, none⟩ (.int .i64 (-1))).setCell ⟨b.E, 21, none⟩ (.int .i64 arg)) b T F c { S with e := { S.e with til := some arg } }) := by
    have hr := (HA3.out.rE.put 21 (.int .i64 (-1))).put 21 (.int .i64 (arg : Int))
    exact Nx.of (HA3.out.eng (e' := { S.e with til := some arg }) hT4 hr { HA3.out.ok with
      til := fun n hn => by injection hn with hn; omega }) (HT3.out.trans hT4 (fun k hk => .inl (by obtain rfl := List.mem_singleton.1 hk; exact HTW.out.2))) (fun k hk => .inl hk)
  clear hT4 HA3 HT3
  go_wp2
  go_end0
  exact ⟨rfl, HX.out⟩
end
end Go.Proofs.YtclhhdodebdmjaaGreat

namespace Go.Proofs.YtclhhdodebdmjaaGreat
open Go.RowKit Go.MapKept Go.ChangeMaps
set_option linter.unusedVariables false
set_option linter.unusedSimpArgs false
set_option maxRecDepth 100000

theorem mt_Wipe (D M : Nat) (w : World) : (Go.method 495 133 (.agg #[.pointer (some ⟨D, 0, none⟩), .pointer (some ⟨M, 0, none⟩)]) "Wipe").run Tryz.prog w = .ok (326, .agg #[.pointer (some ⟨D, 0, none⟩), .pointer (some ⟨M, 0, none⟩)]) w := by kernel_rfl
theorem nl_Wipe (D M : Nat) (w : World) : (nilAhead 495 133 (.agg #[.pointer (some ⟨D, 0, none⟩), .pointer (some ⟨M, 0, none⟩)]) "Wipe").run Tryz.prog w = .ok (some false) w := by kernel_rfl
theorem Wipe_none (D M : Nat) (l : Bool) (n : Nat) (w : World) : Calls Tryz.prog 326 #[.agg #[.pointer (some ⟨D, 0, none⟩), .pointer (some ⟨M, 0, none⟩)], .bool l, .slice none 0 n] w fun e w' => e = .returned (.bool true) ∧ Below w.heap.size w w' := by
  obtain ⟨W, hW⟩ : ∃ W, W = w.alloc (.cells #[.pointer (some ⟨D, 0, none⟩), .pointer (some ⟨M, 0, none⟩)] 133) := ⟨_, rfl⟩
  have HB : Hid (Below w.heap.size w W) := by unfold Hid; rw [hW]; (repeat (first | (with_reducible refine Below.drew ?_) | (with_reducible refine below_drewN0 ?_ _) | ((with_reducible refine Below.setCell ?_ ?_ _); rotate_left; focus (first | omega | (simp; done) | (simp; omega) | (simp at *; omega))) | ((with_reducible refine Below.alloc ?_ ?_ _); rotate_left; focus (first | omega | (simp; done) | (simp; omega) | (simp at *; omega))) | (with_reducible exact Below.refl _ _)))
  go_enter Tryz.func326, Tryz.ntmps326
  go_wp2
  rw [← hW]
  clear hW
  go_loopw [12] (fun i wr => i = .int .i64 0 ∧ wr = W) (fun _ _ => 0)
  case atStart => exact ⟨rfl, rfl⟩
  case round =>
    obtain ⟨rfl, rfl⟩ := hrel
    go_wp2
    go_ret
    exact ⟨rfl, HB.out⟩
section
variable {w w' : World} {b : Bn} {T F : List Nat} {c : Cf} {S : Ab}
theorem wipe_guarded (h : AbIs w b T F c S) (s p : Nat) (hs : s ≤ 20000) (hp : placeI c S.now ((S.V 0 : Nat) : Int) (s : Int) = some (p : Int)) (hg : guardedB c S ((S.V 0 : Nat) : Int) p = true) (l : Bool) :
    Calls Tryz.prog 219 #[.pointer (some ⟨b.E, 0, none⟩), .int .i64 (S.V 0 : Nat), .int .i64 s, .int .i64 s, .bool l] w fun e w' => e = .returned (.tuple #[]) ∧ Nx w w' b T F c (S.raise 67108864) := by
  have HH := Lib.hid h
  have HG := Lib.hid hg
  have HP0 := Lib.hid hp
  have hpb := (place_bd h.ok hp).1
  obtain ⟨a, ha⟩ : ∃ a, a = S.V 0 := ⟨_, rfl⟩
  rw [← ha] at HG HP0 ⊢
  have HTT : Hid (b.n.T ∈ T ∧ b.E ∈ T) := ⟨HH.out.inT _ (by simp [Bn.ts]), HH.out.inT _ (by simp [Bn.ts])⟩
  have HNx : Hid (Nx w w b T F c S) := Nx.of h (Turns.refl w []) (by simp)
  have hET : b.E ≠ b.n.T := by obtain ⟨r, htb⟩ := h.tb; exact h.rE.ne_type htb (by decide)
  clear h hg hp ha
  go_enter Tryz.func219, Tryz.ntmps219
  have e13 := HH.out.xT
  have HPl : Hid (Calls Tryz.prog 101 #[.pointer (some ⟨b.n.T, 0, none⟩), .int .i64 (a : Nat), .int .i64 s] w fun e w' => e = .returned (.tuple #[.int .i64 p, .bool true]) ∧ TbIs w' b.n.T c S.set S.now ∧ Turns w w' [b.n.T]) := by
    have h := Place_any b.n.T c S.set S.now HH.out.ok.cfg HH.out.ok.now ((a : Nat) : Int) (s : Int) w HH.out.tb
    unfold placeW at h
    rw [HP0.out] at h
    exact h
  go_wp2_with fail
  go_loopw [10, 11, 12, 13] (fun a10 i _ _ wr => a10 = .slice none 0 0 ∧ ((i = .int .i64 s ∧ wr = w) ∨ (i = .int .i64 ((s : Int) + 1) ∧ AbIs wr b T F c (S.raise 67108864) ∧ Turns w wr T))) (fun _ i _ _ _ => s + 1 - (intOf i).toNat)
  case atStart => exact ⟨rfl, .inl ⟨rfl, rfl⟩⟩
  case round =>
    obtain ⟨rfl, ⟨rfl, rfl⟩ | ⟨rfl, h1, h2⟩⟩ := hrel
    · go_wp2_with fail
      refine HPl.out.mono ?_
      rintro e w2 ⟨rfl, htb, ht⟩
      have hA2 := HH.out.tabl ht htb HH.out.ok
      have HA2 := Lib.hid hA2
      have HT2 := Lib.hid ht
      have HGd := Lib.hid (guarded_any hA2 ((a : Nat) : Int) p (by omega))
      rw [HG.out] at HGd
      clear htb ht hA2 HPl e13
      go_wp2_with fail
      refine HGd.out.mono ?_
      rintro e w3 ⟨rfl, hA3, ht3⟩
      have HT3 : Hid (Turns wr w3 [b.n.T]) := HT2.out.trans ht3 (by simp)
      have HR := Lib.hid (raise_any hA3 67108864 (by omega))
      clear hA3 ht3 HGd HT2 HA2
      go_wp2_with fail
      refine HR.out.mono ?_
      rintro e w4 ⟨rfl, hA4, ht4⟩
      have HA4 := Lib.hid hA4
      have HT4 : Hid (Turns wr w4 T) := (HT3.out.mono (fun k hk => by obtain rfl := List.mem_singleton.1 hk; exact HTT.out.1)).trans ht4 (fun k hk => .inl (by obtain rfl := List.mem_singleton.1 hk; exact HTT.out.2))
      clear hA4 ht4 HR HT3
      have hs1 : wrap64 ((s : Int) + 1) = (s : Int) + 1 := by unfold wrap64; omega
      go_wp2
      go_roundw
      case rel => exact ⟨rfl, .inr ⟨rfl, HA4.out, HT4.out⟩⟩
      case measure => simp [intOf]
    · have HA := Lib.hid h1
      have HT := Lib.hid h2
      have e10 := h1.xSt
      have hmt := mt_Wipe b.n.D b.n.M
      have hnl := nl_Wipe b.n.D b.n.M
      have HWi := Lib.hid (Wipe_none b.n.D b.n.M l 0 wr)
      have hle : decide ((s : Int) + 1 ≤ s) = false := by rw [decide_eq_false_iff_not]; omega
      clear h1 h2 HPl
      go_wp2_with fail
      refine HWi.out.mono ?_
      rintro e w2 ⟨rfl, hb⟩
      have HA2 := Lib.hid (HA.out.below hb)
      have HT2 := Lib.hid (HT.out.then_below hb)
      have HLs := Lib.hid (lasts_yes HA2.out)
      clear hb HWi HA HT
      go_wp2_with fail
      refine HLs.out.mono ?_
      rintro e w3 ⟨rfl, hw3⟩
      rw [hw3]
      clear hw3 HLs
      have HX : Hid (Nx w w2 b T F c (S.raise 67108864)) := Nx.of HA2.out HT2.out (fun k hk => .inl hk)
      go_wp2
      clear hle e10 hmt hnl
      go_loopw [70] (fun i wz => i = .int .i64 0 ∧ wz = w2) (fun _ _ => 0)
      case atStart => exact ⟨rfl, rfl⟩
      case round =>
        obtain ⟨rfl, hwz⟩ := hrel
        rw [hwz]
        clear hwz
        go_wp2
        go_end0
        exact ⟨rfl, HX.out⟩
end
end Go.Proofs.YtclhhdodebdmjaaGreat

namespace Go.Proofs.YtclhhdodebdmjaaGreat
open Go.RowKit Go.MapKept Go.ChangeMaps
set_option linter.unusedVariables false
set_option linter.unusedSimpArgs false
set_option maxRecDepth 100000

section
variable {w w' : World} {b : Bn} {T F : List Nat} {c : Cf} {S : Ab}
theorem erase_guarded (h : AbIs w b T F c S) (arg s p : Nat) (ha : arg = 0) (harea : S.V 0 ≠ 3) (hin : insideB c S ((S.V 0 : Nat) : Int) arg 1 = true) (hf : S.e.frm = some s) (ht : S.e.til = some s) (hs : s ≤ 20000) (hp : placeI c S.now ((S.V 0 : Nat) : Int) (s : Int) = some (p : Int)) (hg : guardedB c S ((S.V 0 : Nat) : Int) p = true) :
    Calls Tryz.prog 146 #[.pointer (some ⟨b.E, 0, none⟩), .agg #[.int .i64 38, .int .u32 arg]] w fun e w' => e = .returned (.tuple #[]) ∧ Nx w w' b T F c (({ S with e := { S.e with frm := Option.none, til := Option.none } } : Ab).raise 67108864) := by
  have harg : arg < 4294967296 := by omega
  obtain ⟨fo, hfo⟩ : ∃ fo, fo = optI S.e.frm := ⟨_, rfl⟩
  obtain ⟨tv, hto⟩ : ∃ tv, tv = optI S.e.til := ⟨_, rfl⟩
  have hfs : fo = (s : Int) := by rw [hfo, hf]; rfl
  have hts : tv = (s : Int) := by rw [hto, ht]; rfl
  have d4 : decide (fo < 0) = false := by rw [hfs, decide_eq_false_iff_not]; omega
  have d5 : decide (tv < 0) = false := by rw [hts, decide_eq_false_iff_not]; omega
  have d6 : decide ((3 : Int) < (arg : Int)) = false := by rw [decide_eq_false_iff_not]; omega
  have d7 : ((arg : Int) == 2) = false := by simp; omega
  have d8 : ((arg : Int) == 3) = false := by simp; omega
  have HFo := Lib.hid (And.intro hfo hto)
  have HFs := Lib.hid (And.intro hfs hts)
  have HPg := Lib.hid (And.intro hp hg)
  clear hf ht hfo hto hfs hts ha hp hg
  have HAr := Lib.hid harea
  have HIn0 := Lib.hid hin
  have HH := Lib.hid h
  obtain ⟨W, hW⟩ : ∃ W, W = w.alloc (.cells #[.int .i64 38, .int .u32 arg] 89) := ⟨_, rfl⟩
  obtain ⟨Z, hZ⟩ : ∃ Z, Z = w.heap.size := ⟨_, rfl⟩
  have HBW : Hid (Below w.heap.size w W) := by unfold Hid; rw [hW]; (repeat (first | (with_reducible refine Below.drew ?_) | (with_reducible refine below_drewN0 ?_ _) | ((with_reducible refine Below.setCell ?_ ?_ _); rotate_left; focus (first | omega | (simp; done) | (simp; omega) | (simp at *; omega))) | ((with_reducible refine Below.alloc ?_ ?_ _); rotate_left; focus (first | omega | (simp; done) | (simp; omega) | (simp at *; omega))) | (with_reducible exact Below.refl _ _)))
  have HZ : Hid (Row W Z 89 #[.int .i64 38, .int .u32 arg]) := by unfold Hid; rw [hW, hZ]; exact Row.fresh _ _ _
  have hA0 := h.below HBW.out
  have HA0 := Lib.hid hA0
  have HCu := Lib.hid (current_any hA0)
  have HIn : Hid (Calls Tryz.prog 97 #[.pointer (some ⟨b.E, 0, none⟩), .int .i64 (S.V 0 : Nat), .int .u32 arg, .int .i64 1] W fun e w' => e = .returned (.bool true) ∧ AbIs w' b T F c S ∧ Turns W w' [b.n.T]) := by
    have h := inside_any hA0 ((S.V 0 : Nat) : Int) arg 1 harg (by omega)
    rw [HIn0.out] at h
    exact h
  have z1 := HZ.out.cell 1
  have d3 : (((S.V 0 : Nat) : Int) != 3) = true := by simp; omega
  clear h hin harea hA0
  go_enter Tryz.func146, Tryz.ntmps146
  go_wp2_with fail
  rw [← hW, ← hZ]
  clear hW hZ
  refine HCu.out.mono ?_
  rintro e W2 ⟨rfl, hW2⟩
  rw [hW2]
  clear hW2 HCu W2
  go_wp2_with fail
  refine HIn.out.mono ?_
  rintro e w2 ⟨rfl, hA2, ht2⟩
  have HA2 := Lib.hid hA2
  have HTW : Hid (b.n.T ∈ T ∧ b.E ∈ T) := ⟨HH.out.inT _ (by simp [Bn.ts]), HH.out.inT _ (by simp [Bn.ts])⟩
  have HT2 : Hid (Turns w w2 T) := ((Turns.of_below HBW.out [b.n.T]).trans ht2 (fun k hk => .inl hk)).mono (fun k hk => by obtain rfl := List.mem_singleton.1 hk; exact HTW.out.1)
  have HZ2 : Hid (Row w2 Z 89 #[.int .i64 38, .int .u32 arg]) := ht2.row HZ.out (by
    obtain ⟨r, hr⟩ := HA0.out.tb
    simpa using HZ.out.ne_type hr (by decide))
  have e20 := hA2.xFrm
  have e21 := hA2.xTil
  clear hA2 ht2 HIn z1 HA0 HZ d3
  go_wp2_with fail
  go_quiet (fail)
  have HA3 := Lib.hid (HA2.out.drewN nq)
  have HT3 : Hid (Turns w (w2.drewN nq) T) := HT2.out.drewN nq
  have HZ3 : Hid (Row (w2.drewN nq) Z 89 #[.int .i64 38, .int .u32 arg]) := HZ2.out.drewN nq
  clear HA2 HT2 HZ2 e20 e21
  generalize w2.drewN nq = w3 at *
  have e20 := HA3.out.xFrm
  have f20 := HA3.out.rE.frozen 20
  have e21 := HA3.out.xTil
  have f21 := HA3.out.rE.frozen 21
  have z0 : w3.cell? ⟨Z, 0, none⟩ = some (.int .i64 38) := by rw [HZ3.out.cell]; rfl
  have z1 : w3.cell? ⟨Z, 1, none⟩ = some (.int .u32 arg) := by rw [HZ3.out.cell]; rfl
  have hZE : Z ≠ b.E := HZ3.out.ne_type HA3.out.rE (by decide)
  rw [← HFo.out.1] at e20 ⊢
  rw [← HFo.out.2] at e21 ⊢
  have hT4 : Turns w3 ((w3.setCell ⟨b.E, 21, none⟩ (.int .i64 (-1))).setCell ⟨b.E, 20, none⟩ (.int .i64 (-1))) [b.E] := ((Turns.refl _ _).setCell (by simp) _).setCell (by simp) _
  have hA4 : AbIs ((w3.setCell ⟨b.E, 21, none⟩ (.int .i64 (-1))).setCell ⟨b.E, 20, none⟩ (.int .i64 (-1))) b T F c { S with e := { S.e with frm := Option.none, til := Option.none } } := by
    have hr := (HA3.out.rE.put 21 (.int .i64 (-1))).put 20 (.int .i64 (-1))
    exact HA3.out.eng (e' := { S.e with frm := Option.none, til := Option.none }) hT4 hr { HA3.out.ok with
      frm := fun n hn => by cases hn
      til := fun n hn => by cases hn }
  have HT4 : Hid (Turns w ((w3.setCell ⟨b.E, 21, none⟩ (.int .i64 (-1))).setCell ⟨b.E, 20, none⟩ (.int .i64 (-1))) T) := HT3.out.trans hT4 (fun k hk => .inl (by obtain rfl := List.mem_singleton.1 hk; exact HTW.out.2))
  have HWp : Hid (Calls Tryz.prog 219 #[.pointer (some ⟨b.E, 0, none⟩), .int .i64 (S.V 0 : Nat), .int .i64 fo, .int .i64 tv, .bool false] ((w3.setCell ⟨b.E, 21, none⟩ (.int .i64 (-1))).setCell ⟨b.E, 20, none⟩ (.int .i64 (-1))) fun e w' => e = .returned (.tuple #[]) ∧ Nx ((w3.setCell ⟨b.E, 21, none⟩ (.int .i64 (-1))).setCell ⟨b.E, 20, none⟩ (.int .i64 (-1))) w' b T F c (({ S with e := { S.e with frm := Option.none, til := Option.none } } : Ab).raise 67108864)) := by
    rw [HFs.out.1, HFs.out.2]
    have h := wipe_guarded hA4 s p hs HPg.out.1 HPg.out.2 false
    exact h
  clear hT4 hA4 HA3 HT3
  go_wp2_with fail
  refine HWp.out.mono ?_
  rintro e w5 ⟨rfl, hN⟩
  have HX : Hid (Nx w w5 b T F c (({ S with e := { S.e with frm := Option.none, til := Option.none } } : Ab).raise 67108864)) := Nx.after HT4.out rfl rfl (fun k hk => hk) (fun k hk => .inl hk) (fun k hk => .inl hk) hN
  clear hN HWp HT4
  go_wp2
  go_end0
  exact ⟨rfl, HX.out⟩
end
end Go.Proofs.YtclhhdodebdmjaaGreat
