/- CrashPlays: any size, any acts (at most 60): what each place may have, whether what is read may be, is as the document's answer says, behind each act: the law returns true, and its arguments read as before. Condition: the arguments hold at most 1048576 items (the given bound on their bulk). -/
import Derived.Test.YtomigaldomiefaaQ21
import Derived.Test.YtomigaldomiefaaQ20
import Derived.Test.YtomigaldomiefaaQ4
namespace Go.Proofs.Ytomigaldomiefaa
open Go.RowKit Go.Shelf Go.MapKept Go.ChangeMaps
attribute [local go_sem] Oper.semAt_some
attribute [local simp, local go_sem] wide_fn
set_option linter.unusedVariables false
set_option linter.unusedSimpArgs false

theorem DatsIs.mono {w : World} {B B' X n : Nat} {h : Nat → List Nat} (hd : DatsIs w B X n h) (hb : B' ≤ B) : DatsIs w B' X n h := by
  obtain ⟨cs, h1, h2, h3⟩ := hd
  exact ⟨cs, h1, h2, fun p hp => by obtain ⟨A, c, h4, h5⟩ := h3 p hp; exact ⟨A, c, h4, h5.small, h5.short, own_mono h5.own hb⟩⟩
theorem RfIs.mono {w : World} {B B' R X L : Nat} {v3 v4 : Value} {S : Cr} (h : RfIs w B R X L v3 v4 S) (hb : B' ≤ B) : RfIs w B' R X L v3 v4 S :=
  ⟨h.row, h.has.mono hb, h.loose, h.grs.mono hb, h.fly.mono hb, ⟨by have := h.low; omega, by have := h.low; omega, by have := h.low; omega⟩, h.n, h.sz, h.okH, h.okG, h.okF, h.few⟩
set_option maxRecDepth 100000 in
set_option maxHeartbeats 4000000 in
theorem plays_out (n sz : Int) (A : Option Addr) (m c : Nat) (acs : List Ac) (fw : Bool) (hlen : acs.length ≤ 1048576) (hN : acsN acs ≤ 1048576) (hm : m = acs.length) (hfw : fw = decide (acs.length ≤ 60 ∧ acsN acs ≤ 600)) (w : World) (hA : PlActs w A acs) (hout : fw = false ∨ (40 < n ∧ n ≤ 16384) ∨ (8 < sz ∧ sz ≤ 512)) :
    Calls Try.prog 7 #[.int .i64 n, .int .i64 sz, .slice A m c] w fun e w' => e = .returned (.bool true) ∧ Below w.heap.size w w' := by
  have HO := Lib.hid hout
  clear hout
  have HKn := Lib.hid (known_any w)
  have HFw : Hid (∀ w1, Below w.heap.size w w1 → Calls Try.prog 23 #[.slice A m c] w1 fun e w' => e = .returned (.bool fw) ∧ Below w1.heap.size w1 w') := fun w1 hb => by
    rw [hfw, hm]; exact plfew_any A c acs hlen hN w1 (hA.keep (keep_below hb))
  clear hA hN hlen hm hfw
  go_enter Try.func7, Try.ntmps7
  go_wp2_with fail
  refine HKn.out.mono ?_
  rintro e w1 ⟨rfl, hb⟩
  have HB1 := Lib.hid hb
  have HFw1 := Lib.hid (HFw.out w1 hb)
  clear hb HKn
  go_wp2_with fail
  refine HFw1.out.mono ?_
  rintro e w2 ⟨rfl, hb⟩
  have HB2 : Hid (Below w.heap.size w w2) := HB1.out.trans (hb.mono HB1.out.size)
  clear hb HFw1
  cases fw with
  | false =>
    go_wp2
    go_ret
    exact ⟨rfl, HB2.out⟩
  | true =>
    by_cases h1 : n > 40
    · by_cases h2 : n ≤ 16384
      · go_wp2
        go_ret
        exact ⟨rfl, HB2.out⟩
      · have h3 : sz > 8 := by rcases HO.out with h | h | h <;> first | (cases h; done) | omega
        have h4 : sz ≤ 512 := by rcases HO.out with h | h | h <;> first | (cases h; done) | omega
        go_wp2
        go_ret
        exact ⟨rfl, HB2.out⟩
    · have h3 : sz > 8 := by rcases HO.out with h | h | h <;> first | (cases h; done) | omega
      have h4 : sz ≤ 512 := by rcases HO.out with h | h | h <;> first | (cases h; done) | omega
      go_wp2
      go_ret
      exact ⟨rfl, HB2.out⟩
set_option maxRecDepth 100000 in
set_option maxHeartbeats 4000000 in
theorem plays_none (n sz : Int) (A : Option Addr) (m c : Nat) (acs : List Ac) (fw : Bool) (hlen : acs.length ≤ 1048576) (hN : acsN acs ≤ 1048576) (hm : m = acs.length) (hfw : fw = decide (acs.length ≤ 60 ∧ acsN acs ≤ 600)) (w : World) (hA : PlActs w A acs) (hin : fw = true ∧ (n ≤ 40 ∨ 16384 < n) ∧ (sz ≤ 8 ∨ 512 < sz)) (hno : n < 1 ∨ 16384 < n ∨ sz < 1 ∨ 512 < sz) :
    Calls Try.prog 7 #[.int .i64 n, .int .i64 sz, .slice A m c] w fun e w' => e = .returned (.bool true) ∧ Below w.heap.size w w' := by
  obtain ⟨hft, hn, hs⟩ := hin
  have HNo := Lib.hid hno
  have HIn := Lib.hid (And.intro hn hs)
  have HFt := Lib.hid hft
  clear hn hs hno hft
  have HKn := Lib.hid (known_any w)
  have HFw : Hid (∀ w1, Below w.heap.size w w1 → Calls Try.prog 23 #[.slice A m c] w1 fun e w' => e = .returned (.bool fw) ∧ Below w1.heap.size w1 w') := fun w1 hb => by
    rw [hfw, hm]; exact plfew_any A c acs hlen hN w1 (hA.keep (keep_below hb))
  clear hA hN hlen hm hfw
  go_enter Try.func7, Try.ntmps7
  go_wp2_with fail
  refine HKn.out.mono ?_
  rintro e w1 ⟨rfl, hb⟩
  have HB1 := Lib.hid hb
  have HFw1 := Lib.hid (HFw.out w1 hb)
  clear hb HKn
  go_wp2_with fail
  refine HFw1.out.mono ?_
  rintro e w2 ⟨rfl, hb⟩
  have HB2 : Hid (Below w.heap.size w w2) := HB1.out.trans (hb.mono HB1.out.size)
  clear hb HFw1
  have hft := HFt.out
  subst hft
  have HN1 := Lib.hid (New_no n sz HNo.out w2)
  have HN2 := Lib.hid (rfNew_no n sz HNo.out w2)
  by_cases h1 : n > 40
  · have g1 : ¬ n ≤ 16384 := by have := HIn.out; omega
    by_cases h2 : sz > 8
    · have g2 : ¬ sz ≤ 512 := by have := HIn.out; omega
      go_wp2_with fail
      refine HN1.out.mono ?_
      rintro e w3 ⟨rfl, rfl⟩
      go_wp2_with fail
      refine HN2.out.mono ?_
      rintro e w3 ⟨rfl, rfl⟩
      go_wp2
      go_ret
      exact ⟨rfl, HB2.out⟩
    · skip
      go_wp2_with fail
      refine HN1.out.mono ?_
      rintro e w3 ⟨rfl, rfl⟩
      go_wp2_with fail
      refine HN2.out.mono ?_
      rintro e w3 ⟨rfl, rfl⟩
      go_wp2
      go_ret
      exact ⟨rfl, HB2.out⟩
  · by_cases h2 : sz > 8
    · have g2 : ¬ sz ≤ 512 := by have := HIn.out; omega
      go_wp2_with fail
      refine HN1.out.mono ?_
      rintro e w3 ⟨rfl, rfl⟩
      go_wp2_with fail
      refine HN2.out.mono ?_
      rintro e w3 ⟨rfl, rfl⟩
      go_wp2
      go_ret
      exact ⟨rfl, HB2.out⟩
    · skip
      go_wp2_with fail
      refine HN1.out.mono ?_
      rintro e w3 ⟨rfl, rfl⟩
      go_wp2_with fail
      refine HN2.out.mono ?_
      rintro e w3 ⟨rfl, rfl⟩
      go_wp2
      go_ret
      exact ⟨rfl, HB2.out⟩
theorem Pl.cells {w0 w : World} {C H L R X M : Nat} {S : Cr} (h : Pl w0 w C H L R X M S) : (C < w.heap.size ∧ H < w.heap.size ∧ L < w.heap.size) ∧ (R < w.heap.size ∧ X < w.heap.size ∧ M < w.heap.size) ∧ (w0.heap.size ≤ C ∧ w0.heap.size ≤ H ∧ w0.heap.size ≤ L) ∧ (w0.heap.size ≤ R ∧ w0.heap.size ≤ X ∧ w0.heap.size ≤ M) := by
  obtain ⟨v4, v5, h1⟩ := h.cr
  obtain ⟨u3, u4, h2⟩ := h.rf
  exact ⟨⟨h1.row.lt, h1.has.lt, h1.loose.lt⟩, h2.lt, h1.low, h2.low⟩
set_option maxRecDepth 100000 in
set_option maxHeartbeats 8000000 in
theorem plays_walk (n sz : Nat) (hn : 1 ≤ n ∧ n ≤ 40) (hs : 1 ≤ sz ∧ sz ≤ 8) (A : Option Addr) (m c : Nat) (acs : List Ac) (fw : Bool) (hlen : acs.length ≤ 1048576) (hN : acsN acs ≤ 1048576) (hm : m = acs.length) (hfw : fw = decide (acs.length ≤ 60 ∧ acsN acs ≤ 600)) (hft : fw = true) (w : World) (hA : PlActs w A acs) :
    Calls Try.prog 7 #[.int .i64 n, .int .i64 sz, .slice A m c] w fun e w' => e = .returned (.bool true) ∧ Below w.heap.size w w' := by
  have hfew : acs.length ≤ 60 ∧ acsN acs ≤ 600 := of_decide_eq_true (hfw ▸ hft)
  have HFew := Lib.hid hfew
  have HFt := Lib.hid hft
  have HAa : Hid (∀ wr, Below w.heap.size w wr → PlActs wr A acs) := fun wr hb => hA.keep (keep_below hb)
  have HM := Lib.hid hm
  have hm60 : m ≤ 60 := by rw [hm]; exact hfew.1
  have h1 : ¬ (n : Int) > 40 := by omega
  have h2 : ¬ (sz : Int) > 8 := by omega
  clear hft hfew
  have HKn := Lib.hid (known_any w)
  have HFw : Hid (∀ w1, Below w.heap.size w w1 → Calls Try.prog 23 #[.slice A m c] w1 fun e w' => e = .returned (.bool fw) ∧ Below w1.heap.size w1 w') := fun w1 hb => by
    rw [hfw, hm]; exact plfew_any A c acs hlen hN w1 (hA.keep (keep_below hb))
  clear hA hN hlen hm hfw
  go_enter Try.func7, Try.ntmps7
  go_wp2_with fail
  refine HKn.out.mono ?_
  rintro e w1 ⟨rfl, hb⟩
  have HB1 := Lib.hid hb
  have HFw1 := Lib.hid (HFw.out w1 hb)
  clear hb HKn
  go_wp2_with fail
  refine HFw1.out.mono ?_
  rintro e w2 ⟨rfl, hb⟩
  have HB2 : Hid (Below w.heap.size w w2) := HB1.out.trans (hb.mono HB1.out.size)
  clear hb HFw1
  have hft := HFt.out
  subst hft
  have HN1 := Lib.hid (New_yes n sz (by omega) (by omega) w2)
  go_wp2_with fail
  refine HN1.out.mono ?_
  rintro e w3 ⟨C, H, L, rfl, hc, hb⟩
  have HB3 := Lib.hid hb
  have HC3 := Lib.hid hc
  have HN2 := Lib.hid (rfNew_yes n sz (by omega) (by omega) w3)
  clear hb hc HN1
  go_wp2_with fail
  refine HN2.out.mono ?_
  rintro e w4 ⟨R, X, M, rfl, hr, hb⟩
  have HP0 : Hid (Pl w2 w4 C H L R X M (cr0 n sz)) := ⟨⟨_, _, HC3.out.below hb⟩, ⟨_, _, hr.mono HB3.out.size⟩, HB3.out.trans (hb.mono HB3.out.size)⟩
  clear hb hr HN2 HB3 HC3 h1 h2
  go_wp2_with fail
  go_loopw [11] (fun i wr => ∃ (k : Nat) (S : Cr), i = .int .i64 k ∧ k ≤ m ∧ Pl w2 wr C H L R X M S) (fun i _ => m - (intOf i).toNat)
  case atStart => exact ⟨0, _, rfl, by omega, HP0.out⟩
  case round =>
    clear HP0
    obtain ⟨k, S, rfl, hk, hp⟩ := hrel
    have HP := Lib.hid hp
    have HB := Lib.hid (HB2.out.trans (hp.below.mono HB2.out.size))
    clear hp
    by_cases hkm : k < m
    · obtain ⟨a, ha⟩ : ∃ a, acs[k]? = some a := ⟨_, List.getElem?_eq_getElem (by rw [← HM.out]; exact hkm)⟩
      obtain ⟨⟨b, off, e1, hcell⟩, _⟩ := HAa.out wr HB.out k a ha
      subst e1
      have HAc : Hid (∀ wx, Below w.heap.size w wx → AcAt wx a) := fun wx hb => (HAa.out wx hb k a ha).2
      have HCn : Hid (a.its.length ≤ 600 ∧ a.ds.length ≤ 600 ∧ a.gss.length ≤ 600 ∧ ∀ g ∈ a.gss, g.its.length ≤ 600) := by
        have h1 := acsN_mem (List.mem_of_getElem? ha)
        have h2 := HFew.out.2
        have h3 := gsN_len a.gss
        unfold Ac.cnt at h1
        refine ⟨by omega, by omega, by omega, fun g hg => ?_⟩
        have := gsN_mem hg
        omega
      have q0 := hcell 0 _ rfl
      have q1 := hcell 1 _ rfl
      have q2 := hcell 2 _ rfl
      have q3 := hcell 3 _ rfl
      have q4 := hcell 4 _ rfl
      rw [← Nat.add_assoc] at q0 q1 q2 q3 q4
      simp only [Nat.add_zero] at q0
      obtain ⟨wz, hwz⟩ : ∃ wz, wz = wr.alloc (.cells #[.int .i64 a.op, .slice a.A1 a.its.length a.c1, .slice a.A2 a.gss.length a.c2, .int .i64 a.pl, .slice a.A3 a.ds.length a.c3] 56) := ⟨_, rfl⟩
      have HBz : Hid (Below wr.heap.size wr wz) := by unfold Hid; rw [hwz]; (repeat (first | (with_reducible refine Below.drew ?_) | (with_reducible refine below_drewN0 ?_ _) | ((with_reducible refine Below.setCell ?_ ?_ _); rotate_left; focus (first | omega | (simp; done) | (simp; omega) | (simp at *; omega))) | ((with_reducible refine Below.alloc ?_ ?_ _); rotate_left; focus (first | omega | (simp; done) | (simp; omega) | (simp at *; omega))) | (with_reducible exact Below.refl _ _)))
      have HZ : Hid (Row wz wr.heap.size 56 #[.int .i64 a.op, .slice a.A1 a.its.length a.c1, .slice a.A2 a.gss.length a.c2, .int .i64 a.pl, .slice a.A3 a.ds.length a.c3]) := by unfold Hid; rw [hwz]; exact Row.fresh _ _ _
      have HPz := Lib.hid (HP.out.later HBz.out)
      have HWz := Lib.hid hwz
      have HZn : Hid (wr.heap.size ∉ [C, H, L] ∧ wr.heap.size ∉ [R, X, M]) := by
        have := HP.out.cells
        unfold Hid
        simp; omega
      clear hcell ha hwz HP
      obtain ⟨x4, x5, hcz⟩ := HPz.out.cr
      have HCz := Lib.hid hcz
      have HAz := Lib.hid (HAc.out wz (HB.out.trans (HBz.out.mono HB.out.size)))
      have HTB : Hid (∀ {V V' : World} {T : List Nat}, Below w2.heap.size w2 V → Turns V V' T → (∀ x ∈ T, w2.heap.size ≤ x) → Below w.heap.size w V') := fun hb ht hT => HB2.out.trans ((ht.below hb hb.size hT).mono HB2.out.size)
      have HLow := Lib.hid HPz.out.cells
      clear hcz
      by_cases o1 : a.op = 1
      · rw [o1] at q0 HWz HZ
        clear o1
        have HD1 := Lib.hid (Durable_any HCz.out a.A1 a.c1 a.its (by have := HCn.out; omega) HAz.out.wr)
        have hc1 : ∀ w5, (CrIs w5 w2.heap.size C H L x4 x5 (S.durable (rightL S.n S.sz a.its)) ∧ Turns wz w5 [H, L]) → (∃ v4 v5, CrIs w5 w2.heap.size C H L v4 v5 (S.durable (rightL S.n S.sz a.its))) ∧ Turns wz w5 [C, H, L] := fun w5 h => ⟨⟨_, _, h.1⟩, h.2.mono (by simp)⟩
        have HC1 := Lib.hid hc1
        clear hc1
        go_wp2_with fail
        rw [← HWz.out]
        refine HD1.out.mono ?_
        rintro e w5 ⟨⟨_, rfl⟩, h5⟩
        obtain ⟨hc5, ht5⟩ := HC1.out w5 h5
        obtain ⟨g1, g2, g3⟩ := HPz.out.crash ht5 hc5
        have HG5 := Lib.hid (And.intro g1 (And.intro g2 g3))
        have HZ5 := Lib.hid (ht5.row HZ.out HZn.out.1)
        have HA5 := Lib.hid (HAc.out w5 (HTB.out HPz.out.below ht5 (by have := HLow.out; simp; omega)))
        obtain ⟨u3, u4, hr5⟩ := g2
        have HR5 := Lib.hid hr5
        have q0 := HZ5.out.cell 0
        have q1 := HZ5.out.cell 1
        have q2 := HZ5.out.cell 2
        have q3 := HZ5.out.cell 3
        simp only [List.getElem?_toArray, List.getElem?_cons_zero, List.getElem?_cons_succ] at q0 q1 q2 q3
        clear h5 hc5 ht5 g1 g3 hr5
        have HD2 := Lib.hid (rfDurable_any HR5.out a.A1 a.c1 a.its (by have := HCn.out; omega) HA5.out.wr)
        clear HD1 HC1
        go_wp2_with fail
        refine HD2.out.mono ?_
        rintro e w6 ⟨⟨_, rfl⟩, h6, ht6⟩
        have h6 : ∃ v3 v4, RfIs w6 w2.heap.size R X M v3 v4 (S.durable (rightL S.n S.sz a.its)) := ⟨_, _, h6⟩
        have HP6 : Hid (Pl w2 w6 C H L R X M (S.durable (rightL S.n S.sz a.its))) := Pl.ref HG5.out.1 HG5.out.2.1 HG5.out.2.2 ht6 h6
        have HZ6 := Lib.hid (ht6.row HZ5.out HZn.out.2)
        clear h6 ht6 HD2 q0 q1 q2 q3
        have HBx := Lib.hid (HB2.out.trans ((HP6.out).below.mono HB2.out.size))
        have q3 := (HZ6.out).cell 3
        have q4 := (HZ6.out).cell 4
        simp only [List.getElem?_toArray, List.getElem?_cons_zero, List.getElem?_cons_succ] at q3 q4
        have HLk := Lib.hid (looks_any w2 w6 C H L R X M (S.durable (rightL S.n S.sz a.its)) HP6.out a.pl a.A3 a.c3 a.ds (HAc.out w6 HBx.out).rd (by have := HCn.out; omega) (HAc.out w6 HBx.out).small)
        go_wp2_with fail
        refine HLk.out.mono ?_
        rintro e wy ⟨rfl, hb⟩
        have HPy := Lib.hid ((HP6.out).later hb)
        clear hb HLk q3 q4
        go_wp2
        go_roundw
        case rel => exact ⟨k + 1, _, by go_num, by omega, HPy.out⟩
        case measure => simp [intOf]; omega
      by_cases o2 : a.op = 2
      · rw [o2] at q0 HWz HZ
        clear o1 o2
        have HD1 := Lib.hid (Loose_any HCz.out a.pl)
        have hc1 : ∀ w5, (CrIs w5 w2.heap.size C H L x4 x5 { S with loose := fun q => S.loose q || (decide (0 ≤ a.pl ∧ a.pl < S.n) && decide (q = a.pl.toNat)) } ∧ Turns wz w5 [L]) → (∃ v4 v5, CrIs w5 w2.heap.size C H L v4 v5 { S with loose := fun q => S.loose q || (decide (0 ≤ a.pl ∧ a.pl < S.n) && decide (q = a.pl.toNat)) }) ∧ Turns wz w5 [C, H, L] := fun w5 h => ⟨⟨_, _, h.1⟩, h.2.mono (by simp)⟩
        have HC1 := Lib.hid hc1
        clear hc1
        go_wp2_with fail
        rw [← HWz.out]
        refine HD1.out.mono ?_
        rintro e w5 ⟨⟨_, rfl⟩, h5⟩
        obtain ⟨hc5, ht5⟩ := HC1.out w5 h5
        obtain ⟨g1, g2, g3⟩ := HPz.out.crash ht5 hc5
        have HG5 := Lib.hid (And.intro g1 (And.intro g2 g3))
        have HZ5 := Lib.hid (ht5.row HZ.out HZn.out.1)
        have HA5 := Lib.hid (HAc.out w5 (HTB.out HPz.out.below ht5 (by have := HLow.out; simp; omega)))
        obtain ⟨u3, u4, hr5⟩ := g2
        have HR5 := Lib.hid hr5
        have q0 := HZ5.out.cell 0
        have q1 := HZ5.out.cell 1
        have q2 := HZ5.out.cell 2
        have q3 := HZ5.out.cell 3
        simp only [List.getElem?_toArray, List.getElem?_cons_zero, List.getElem?_cons_succ] at q0 q1 q2 q3
        clear h5 hc5 ht5 g1 g3 hr5
        have HD2 := Lib.hid (rfLoose_any HR5.out a.pl)
        clear HD1 HC1
        go_wp2_with fail
        refine HD2.out.mono ?_
        rintro e w6 ⟨⟨_, rfl⟩, h6, ht6⟩
        have h6 : ∃ v3 v4, RfIs w6 w2.heap.size R X M v3 v4 { S with loose := fun q => S.loose q || (decide (0 ≤ a.pl ∧ a.pl < S.n) && decide (q = a.pl.toNat)) } := ⟨_, _, h6.loosened⟩
        have HP6 : Hid (Pl w2 w6 C H L R X M { S with loose := fun q => S.loose q || (decide (0 ≤ a.pl ∧ a.pl < S.n) && decide (q = a.pl.toNat)) }) := Pl.ref HG5.out.1 HG5.out.2.1 HG5.out.2.2 ht6 h6
        have HZ6 := Lib.hid (ht6.row HZ5.out HZn.out.2)
        clear h6 ht6 HD2 q0 q1 q2 q3
        have HBx := Lib.hid (HB2.out.trans ((HP6.out).below.mono HB2.out.size))
        have q3 := (HZ6.out).cell 3
        have q4 := (HZ6.out).cell 4
        simp only [List.getElem?_toArray, List.getElem?_cons_zero, List.getElem?_cons_succ] at q3 q4
        have HLk := Lib.hid (looks_any w2 w6 C H L R X M { S with loose := fun q => S.loose q || (decide (0 ≤ a.pl ∧ a.pl < S.n) && decide (q = a.pl.toNat)) } HP6.out a.pl a.A3 a.c3 a.ds (HAc.out w6 HBx.out).rd (by have := HCn.out; omega) (HAc.out w6 HBx.out).small)
        go_wp2_with fail
        refine HLk.out.mono ?_
        rintro e wy ⟨rfl, hb⟩
        have HPy := Lib.hid ((HP6.out).later hb)
        clear hb HLk q3 q4
        go_wp2
        go_roundw
        case rel => exact ⟨k + 1, _, by go_num, by omega, HPy.out⟩
        case measure => simp [intOf]; omega
      by_cases o3 : a.op = 3
      · rw [o3] at q0 HWz HZ
        clear o1 o2 o3
        have HD1 := Lib.hid (Cached_any HCz.out a.A2 a.c2 a.gss (by have := HCn.out; omega) (fun g hg => by have := HCn.out.2.2.2 g hg; omega) (fun wq hq => (HAc.out wq (HTB.out HPz.out.below hq (by have := HLow.out; simp; omega))).gr))
        have hc1 : ∀ w5, ((∃ v, CrIs w5 w2.heap.size C H L v x5 { S with groups := rightG S.n S.sz a.gss }) ∧ Turns wz w5 [C]) → (∃ v4 v5, CrIs w5 w2.heap.size C H L v4 v5 { S with groups := rightG S.n S.sz a.gss }) ∧ Turns wz w5 [C, H, L] := fun w5 h => ⟨⟨_, _, h.1.choose_spec⟩, h.2.mono (by simp)⟩
        have HC1 := Lib.hid hc1
        clear hc1
        go_wp2_with fail
        rw [← HWz.out]
        refine HD1.out.mono ?_
        rintro e w5 ⟨⟨_, rfl⟩, h5⟩
        obtain ⟨hc5, ht5⟩ := HC1.out w5 h5
        obtain ⟨g1, g2, g3⟩ := HPz.out.crash ht5 hc5
        have HG5 := Lib.hid (And.intro g1 (And.intro g2 g3))
        have HZ5 := Lib.hid (ht5.row HZ.out HZn.out.1)
        have HA5 := Lib.hid (HAc.out w5 (HTB.out HPz.out.below ht5 (by have := HLow.out; simp; omega)))
        obtain ⟨u3, u4, hr5⟩ := g2
        have HR5 := Lib.hid hr5
        have q0 := HZ5.out.cell 0
        have q1 := HZ5.out.cell 1
        have q2 := HZ5.out.cell 2
        have q3 := HZ5.out.cell 3
        simp only [List.getElem?_toArray, List.getElem?_cons_zero, List.getElem?_cons_succ] at q0 q1 q2 q3
        clear h5 hc5 ht5 g1 g3 hr5
        have HD2 := Lib.hid (rfCached_any HR5.out a.A2 a.c2 a.gss (by have := HCn.out; omega) (fun g hg => by have := HCn.out.2.2.2 g hg; omega) (fun wq hq => (HAc.out wq (HTB.out HG5.out.2.2 hq (by have := HLow.out; simp; omega))).gr))
        clear HD1 HC1
        go_wp2_with fail
        refine HD2.out.mono ?_
        rintro e w6 ⟨⟨_, rfl⟩, ⟨v6, h6⟩, ht6⟩
        have h6 : ∃ v3 v4, RfIs w6 w2.heap.size R X M v3 v4 { S with groups := rightG S.n S.sz a.gss } := ⟨_, _, h6⟩
        have HP6 : Hid (Pl w2 w6 C H L R X M { S with groups := rightG S.n S.sz a.gss }) := Pl.ref HG5.out.1 HG5.out.2.1 HG5.out.2.2 ht6 h6
        have HZ6 := Lib.hid (ht6.row HZ5.out HZn.out.2)
        clear h6 ht6 HD2 q0 q1 q2 q3
        have HBx := Lib.hid (HB2.out.trans ((HP6.out).below.mono HB2.out.size))
        have q3 := (HZ6.out).cell 3
        have q4 := (HZ6.out).cell 4
        simp only [List.getElem?_toArray, List.getElem?_cons_zero, List.getElem?_cons_succ] at q3 q4
        have HLk := Lib.hid (looks_any w2 w6 C H L R X M { S with groups := rightG S.n S.sz a.gss } HP6.out a.pl a.A3 a.c3 a.ds (HAc.out w6 HBx.out).rd (by have := HCn.out; omega) (HAc.out w6 HBx.out).small)
        go_wp2_with fail
        refine HLk.out.mono ?_
        rintro e wy ⟨rfl, hb⟩
        have HPy := Lib.hid ((HP6.out).later hb)
        clear hb HLk q3 q4
        go_wp2
        go_roundw
        case rel => exact ⟨k + 1, _, by go_num, by omega, HPy.out⟩
        case measure => simp [intOf]; omega
      by_cases o4 : a.op = 4
      · rw [o4] at q0 HWz HZ
        clear o1 o2 o3 o4
        have HD1 := Lib.hid (Flight_any HCz.out a.A1 a.c1 a.its (by have := HCn.out; omega) HAz.out.wr)
        have hc1 : ∀ w5, ((∃ v, CrIs w5 w2.heap.size C H L x4 v { S with fly := rightL S.n S.sz a.its }) ∧ Turns wz w5 [C]) → (∃ v4 v5, CrIs w5 w2.heap.size C H L v4 v5 { S with fly := rightL S.n S.sz a.its }) ∧ Turns wz w5 [C, H, L] := fun w5 h => ⟨⟨_, _, h.1.choose_spec⟩, h.2.mono (by simp)⟩
        have HC1 := Lib.hid hc1
        clear hc1
        go_wp2_with fail
        rw [← HWz.out]
        refine HD1.out.mono ?_
        rintro e w5 ⟨⟨_, rfl⟩, h5⟩
        obtain ⟨hc5, ht5⟩ := HC1.out w5 h5
        obtain ⟨g1, g2, g3⟩ := HPz.out.crash ht5 hc5
        have HG5 := Lib.hid (And.intro g1 (And.intro g2 g3))
        have HZ5 := Lib.hid (ht5.row HZ.out HZn.out.1)
        have HA5 := Lib.hid (HAc.out w5 (HTB.out HPz.out.below ht5 (by have := HLow.out; simp; omega)))
        obtain ⟨u3, u4, hr5⟩ := g2
        have HR5 := Lib.hid hr5
        have q0 := HZ5.out.cell 0
        have q1 := HZ5.out.cell 1
        have q2 := HZ5.out.cell 2
        have q3 := HZ5.out.cell 3
        simp only [List.getElem?_toArray, List.getElem?_cons_zero, List.getElem?_cons_succ] at q0 q1 q2 q3
        clear h5 hc5 ht5 g1 g3 hr5
        have HD2 := Lib.hid (rfFlight_any HR5.out a.A1 a.c1 a.its (by have := HCn.out; omega) HA5.out.wr)
        clear HD1 HC1
        go_wp2_with fail
        refine HD2.out.mono ?_
        rintro e w6 ⟨⟨_, rfl⟩, ⟨v6, h6⟩, ht6⟩
        have h6 : ∃ v3 v4, RfIs w6 w2.heap.size R X M v3 v4 { S with fly := rightL S.n S.sz a.its } := ⟨_, _, h6⟩
        have HP6 : Hid (Pl w2 w6 C H L R X M { S with fly := rightL S.n S.sz a.its }) := Pl.ref HG5.out.1 HG5.out.2.1 HG5.out.2.2 ht6 h6
        have HZ6 := Lib.hid (ht6.row HZ5.out HZn.out.2)
        clear h6 ht6 HD2 q0 q1 q2 q3
        have HBx := Lib.hid (HB2.out.trans ((HP6.out).below.mono HB2.out.size))
        have q3 := (HZ6.out).cell 3
        have q4 := (HZ6.out).cell 4
        simp only [List.getElem?_toArray, List.getElem?_cons_zero, List.getElem?_cons_succ] at q3 q4
        have HLk := Lib.hid (looks_any w2 w6 C H L R X M { S with fly := rightL S.n S.sz a.its } HP6.out a.pl a.A3 a.c3 a.ds (HAc.out w6 HBx.out).rd (by have := HCn.out; omega) (HAc.out w6 HBx.out).small)
        go_wp2_with fail
        refine HLk.out.mono ?_
        rintro e wy ⟨rfl, hb⟩
        have HPy := Lib.hid ((HP6.out).later hb)
        clear hb HLk q3 q4
        go_wp2
        go_roundw
        case rel => exact ⟨k + 1, _, by go_num, by omega, HPy.out⟩
        case measure => simp [intOf]; omega
      by_cases o5 : a.op = 5
      · rw [o5] at q0 HWz HZ
        clear o1 o2 o3 o4 o5
        obtain ⟨rd, hrd⟩ : ∃ rd, rd = rdOf a.ds := ⟨_, rfl⟩
        have HRd := Lib.hid hrd
        obtain ⟨dl, hdl⟩ : ∃ dl, dl = a.ds.length := ⟨_, rfl⟩
        have HDl := Lib.hid hdl
        rw [← hdl] at HWz HZ q4
        have k4 : ∀ t : Kept wz [C, H, L, R, X, M], t.u.cell? ⟨wr.heap.size, 4, none⟩ = some (.slice a.A3 dl a.c3) := fun t => (t.h.row HZ.out (by have h1 := HZn.out.1; have h2 := HZn.out.2; simp at h1 h2 ⊢; omega)).cell 4
        have HRa := Lib.hid (reader_any a.A3 dl a.c3 wz.drew)
        clear hrd hdl
        cases hmy : S.may rd with
        | true =>
          have HMy := Lib.hid hmy
          clear hmy
          go_wp2_with fail
          rw [← HWz.out]
          generalize wr.heap.size = Za at *
          (refine region_kept ([C, H, L, R, X, M]) [0, 1, 2, 5, 6, 7] [3, 4, 8, 9] (by kernel_rfl) (by kernel_rfl) (fun _ _ _ _ _ h => h) ?_; simp only [List.filterMap_cons, List.getElem?_cons_zero, List.getElem?_cons_succ, List.filterMap_nil]; (repeat ((show wpQuiet _ _ _ _ (_ :: _) _); go_big_quiet_step (fail))); refine wpQuiet_nil ?_)
          clear k4 q0 q1 q2 q3 q4
          refine wpSeqS_step ?_
          go_wp2_with fail
          refine HRa.out.mono ?_
          rintro e wb ⟨rfl, hwb⟩
          have HBb : Hid (Below wz.heap.size wz wb) := by unfold Hid; rw [hwb]; (repeat (first | (with_reducible refine Below.drew ?_) | (with_reducible refine below_drewN0 ?_ _) | ((with_reducible refine Below.setCell ?_ ?_ _); rotate_left; focus (first | omega | (simp; done) | (simp; omega) | (simp at *; omega))) | ((with_reducible refine Below.alloc ?_ ?_ _); rotate_left; focus (first | omega | (simp; done) | (simp; omega) | (simp at *; omega))) | (with_reducible exact Below.refl _ _)))
          have HRw : Hid (Row wb wz.heap.size 37 #[.slice a.A3 dl a.c3]) := by unfold Hid; rw [hwb]; exact Row.fresh _ _ _
          have HPb := Lib.hid (HPz.out.later HBb.out)
          have HZb := Lib.hid (HZ.out.below HBb.out HZ.out.lt)
          have hSe := Settle_any _ _ rd (by
            rw [HRd.out]
            refine reader_ok wz.heap.size a.c3 S.n (by have := HCz.out.n; omega) a.A3 a.ds (by have := HCn.out; omega) HAz.out.small [C, H, L] wb (fun V hV => ⟨?_, ?_⟩)
            · rw [← HDl.out]; exact (hV.row HRw.out (by have := HLow.out; simp; omega)).cell 0
            · exact (HAc.out V (HTB.out HPb.out.below hV (by have := HLow.out; simp; omega))).rd) (HCz.out.below HBb.out)
          rw [HMy.out] at hSe
          have HSe := Lib.hid hSe
          clear hSe hwb HRa
          go_wp2_with fail
          refine outQ_normal (Turns.of_below HBb.out _) ?_
          refine wpSeqS_step ?_
          go_wp2_with fail
          refine HSe.out.mono ?_
          rintro e w5 ⟨rfl, h5, ht5⟩
          have hc5 : ∃ v4 v5, CrIs w5 w2.heap.size C H L v4 v5 (S.settled rd S.n) := ⟨_, _, by simpa using h5⟩
          obtain ⟨g1, g2, g3⟩ := HPb.out.crash ht5 hc5
          have HG5 := Lib.hid (And.intro g1 (And.intro g2 g3))
          have HZ5 := Lib.hid (ht5.row HZb.out HZn.out.1)
          have HT5 : Hid (Turns wz w5 [C, H, L, R, X, M]) := (Turns.of_below HBb.out _).trans ht5 (fun x hx => .inl (by simp at hx ⊢; omega))
          obtain ⟨u3, u4, hr5⟩ := g2
          have hRs := rfSettle_any w2.heap.size R X M u3 u4 S a.A3 a.c3 a.ds w5 hr5 (fun V hV => (HAc.out V (HTB.out g3 hV (by have := HLow.out; simp; omega))).rd) (fun h0 ad e => by
              obtain ⟨d, hd⟩ : ∃ d, a.ds[0]? = some d := ⟨_, List.getElem?_eq_getElem h0⟩
              obtain ⟨g, off, A1, c1, e2, hcell, _⟩ := (HAc.out w (Below.refl _ _)).rd 0 d hd
              rw [e2] at e
              injection e with e
              subst e
              have h1 := World.block_lt_of_cell? w _ hcell
              have h2 := HB2.out.size
              have h3 := HLow.out
              simp only at h1 ⊢
              simp; omega) (by have := HCn.out; omega) HAz.out.small
          rw [← HRd.out, HMy.out, ← HDl.out] at hRs
          have HRs := Lib.hid hRs
          clear h5 hc5 ht5 g1 g3 hr5 hRs HSe
          go_wp2_with fail
          refine outQ_normal HT5.out ?_
          refine wpSeqS_step ?_
          go_wp2_with fail
          refine HRs.out.mono ?_
          rintro e w6 ⟨rfl, h6, ht6⟩
          have h6 : ∃ v3 v4, RfIs w6 w2.heap.size R X M v3 v4 (S.settled rd S.n) := ⟨_, _, by simpa using h6⟩
          have HP6 : Hid (Pl w2 w6 C H L R X M (S.settled rd S.n)) := Pl.ref HG5.out.1 HG5.out.2.1 HG5.out.2.2 ht6 h6
          have HZ6 := Lib.hid (ht6.row HZ5.out HZn.out.2)
          have HT6 : Hid (Turns wz w6 [C, H, L, R, X, M]) := HT5.out.trans ht6 (fun x hx => .inl (by simp at hx ⊢; omega))
          clear h6 ht6 HRs
          go_wp2_with fail
          refine outQ_normal HT6.out ?_
          refine wpSeqS_last ?_
          rw [HDl.out] at HZ6
          have HBx := Lib.hid (HB2.out.trans ((HP6.out).below.mono HB2.out.size))
          have q3 := (HZ6.out).cell 3
          have q4 := (HZ6.out).cell 4
          simp only [List.getElem?_toArray, List.getElem?_cons_zero, List.getElem?_cons_succ] at q3 q4
          have HLk := Lib.hid (looks_any w2 w6 C H L R X M (S.settled rd S.n) HP6.out a.pl a.A3 a.c3 a.ds (HAc.out w6 HBx.out).rd (by have := HCn.out; omega) (HAc.out w6 HBx.out).small)
          go_wp2_with fail
          refine HLk.out.mono ?_
          rintro e wy ⟨rfl, hb⟩
          have HPy := Lib.hid ((HP6.out).later hb)
          clear hb HLk q3 q4
          go_wp2
          go_roundw
          case rel => exact ⟨k + 1, _, by go_num, by omega, HPy.out⟩
          case measure => simp [intOf]; omega
        | false =>
          have HMy := Lib.hid hmy
          clear hmy
          go_wp2_with fail
          rw [← HWz.out]
          generalize wr.heap.size = Za at *
          (refine region_kept ([C, H, L, R, X, M]) [0, 1, 2, 5, 6, 7] [3, 4, 8, 9] (by kernel_rfl) (by kernel_rfl) (fun _ _ _ _ _ h => h) ?_; simp only [List.filterMap_cons, List.getElem?_cons_zero, List.getElem?_cons_succ, List.filterMap_nil]; (repeat ((show wpQuiet _ _ _ _ (_ :: _) _); go_big_quiet_step (fail))); refine wpQuiet_nil ?_)
          clear k4 q0 q1 q2 q3 q4
          refine wpSeqS_step ?_
          go_wp2_with fail
          refine HRa.out.mono ?_
          rintro e wb ⟨rfl, hwb⟩
          have HBb : Hid (Below wz.heap.size wz wb) := by unfold Hid; rw [hwb]; (repeat (first | (with_reducible refine Below.drew ?_) | (with_reducible refine below_drewN0 ?_ _) | ((with_reducible refine Below.setCell ?_ ?_ _); rotate_left; focus (first | omega | (simp; done) | (simp; omega) | (simp at *; omega))) | ((with_reducible refine Below.alloc ?_ ?_ _); rotate_left; focus (first | omega | (simp; done) | (simp; omega) | (simp at *; omega))) | (with_reducible exact Below.refl _ _)))
          have HRw : Hid (Row wb wz.heap.size 37 #[.slice a.A3 dl a.c3]) := by unfold Hid; rw [hwb]; exact Row.fresh _ _ _
          have HPb := Lib.hid (HPz.out.later HBb.out)
          have HZb := Lib.hid (HZ.out.below HBb.out HZ.out.lt)
          have hSe := Settle_any _ _ rd (by
            rw [HRd.out]
            refine reader_ok wz.heap.size a.c3 S.n (by have := HCz.out.n; omega) a.A3 a.ds (by have := HCn.out; omega) HAz.out.small [C, H, L] wb (fun V hV => ⟨?_, ?_⟩)
            · rw [← HDl.out]; exact (hV.row HRw.out (by have := HLow.out; simp; omega)).cell 0
            · exact (HAc.out V (HTB.out HPb.out.below hV (by have := HLow.out; simp; omega))).rd) (HCz.out.below HBb.out)
          rw [HMy.out] at hSe
          have HSe := Lib.hid hSe
          clear hSe hwb HRa
          go_wp2_with fail
          refine outQ_normal (Turns.of_below HBb.out _) ?_
          refine wpSeqS_step ?_
          go_wp2_with fail
          refine HSe.out.mono ?_
          rintro e w5 ⟨rfl, h5, ht5⟩
          have hc5 : ∃ v4 v5, CrIs w5 w2.heap.size C H L v4 v5 S := ⟨_, _, by simpa using h5⟩
          obtain ⟨g1, g2, g3⟩ := HPb.out.crash ht5 hc5
          have HG5 := Lib.hid (And.intro g1 (And.intro g2 g3))
          have HZ5 := Lib.hid (ht5.row HZb.out HZn.out.1)
          have HT5 : Hid (Turns wz w5 [C, H, L, R, X, M]) := (Turns.of_below HBb.out _).trans ht5 (fun x hx => .inl (by simp at hx ⊢; omega))
          obtain ⟨u3, u4, hr5⟩ := g2
          have hRs := rfSettle_any w2.heap.size R X M u3 u4 S a.A3 a.c3 a.ds w5 hr5 (fun V hV => (HAc.out V (HTB.out g3 hV (by have := HLow.out; simp; omega))).rd) (fun h0 ad e => by
              obtain ⟨d, hd⟩ : ∃ d, a.ds[0]? = some d := ⟨_, List.getElem?_eq_getElem h0⟩
              obtain ⟨g, off, A1, c1, e2, hcell, _⟩ := (HAc.out w (Below.refl _ _)).rd 0 d hd
              rw [e2] at e
              injection e with e
              subst e
              have h1 := World.block_lt_of_cell? w _ hcell
              have h2 := HB2.out.size
              have h3 := HLow.out
              simp only at h1 ⊢
              simp; omega) (by have := HCn.out; omega) HAz.out.small
          rw [← HRd.out, HMy.out, ← HDl.out] at hRs
          have HRs := Lib.hid hRs
          clear h5 hc5 ht5 g1 g3 hr5 hRs HSe
          go_wp2_with fail
          refine outQ_normal HT5.out ?_
          refine wpSeqS_step ?_
          go_wp2_with fail
          refine HRs.out.mono ?_
          rintro e w6 ⟨rfl, h6, ht6⟩
          have h6 : ∃ v3 v4, RfIs w6 w2.heap.size R X M v3 v4 S := ⟨_, _, by simpa using h6⟩
          have HP6 : Hid (Pl w2 w6 C H L R X M S) := Pl.ref HG5.out.1 HG5.out.2.1 HG5.out.2.2 ht6 h6
          have HZ6 := Lib.hid (ht6.row HZ5.out HZn.out.2)
          have HT6 : Hid (Turns wz w6 [C, H, L, R, X, M]) := HT5.out.trans ht6 (fun x hx => .inl (by simp at hx ⊢; omega))
          clear h6 ht6 HRs
          go_wp2_with fail
          refine outQ_normal HT6.out ?_
          refine wpSeqS_last ?_
          rw [HDl.out] at HZ6
          have HBx := Lib.hid (HB2.out.trans ((HP6.out).below.mono HB2.out.size))
          have q3 := (HZ6.out).cell 3
          have q4 := (HZ6.out).cell 4
          simp only [List.getElem?_toArray, List.getElem?_cons_zero, List.getElem?_cons_succ] at q3 q4
          have HLk := Lib.hid (looks_any w2 w6 C H L R X M S HP6.out a.pl a.A3 a.c3 a.ds (HAc.out w6 HBx.out).rd (by have := HCn.out; omega) (HAc.out w6 HBx.out).small)
          go_wp2_with fail
          refine HLk.out.mono ?_
          rintro e wy ⟨rfl, hb⟩
          have HPy := Lib.hid ((HP6.out).later hb)
          clear hb HLk q3 q4
          go_wp2
          go_roundw
          case rel => exact ⟨k + 1, _, by go_num, by omega, HPy.out⟩
          case measure => simp [intOf]; omega
      · have HNo := Lib.hid (And.intro o1 (And.intro o2 (And.intro o3 (And.intro o4 o5))))
        have hop : ∃ op, op = a.op := ⟨_, rfl⟩
        have q3 := HZ.out.cell 3
        have q4 := HZ.out.cell 4
        simp only [List.getElem?_toArray, List.getElem?_cons_zero, List.getElem?_cons_succ] at q3 q4
        have HBx := Lib.hid (HB2.out.trans ((HPz.out).below.mono HB2.out.size))
        have HLk := Lib.hid (looks_any w2 wz C H L R X M S HPz.out a.pl a.A3 a.c3 a.ds (HAc.out wz HBx.out).rd (by have := HCn.out; omega) (HAc.out wz HBx.out).small)
        go_wp2_with fail
        rw [← HWz.out]
        refine HLk.out.mono ?_
        rintro e wy ⟨rfl, hb⟩
        have HPy := Lib.hid (HPz.out.later hb)
        clear hb HLk q3 q4
        go_wp2
        go_roundw
        case rel => exact ⟨k + 1, _, by go_num, by omega, HPy.out⟩
        case measure => simp [intOf]; omega
    · obtain rfl : k = m := by omega
      go_wp2
      go_ret
      exact ⟨rfl, HB.out⟩
end Go.Proofs.Ytomigaldomiefaa
namespace Go.Proofs.Ytomigaldomiefaa.crashPlays
open Go.ChangeShapes Go.WideShapes Go.ChangeAt Go.RowKit Go.Joins
set_option linter.unusedVariables false
set_option linter.unusedSimpArgs false

set_option maxRecDepth 100000 in
theorem opened {H : Type} {enc : TypeId × Value → H} (W : World) {base : Nat} {v0 v1 v2 : Value} {d0 d1 d2 : DataW H} {gs : List (DataW H)} {p0 p1 p2 : List MemPlace}
    (o0 : Value.okWide Try.prog W .any base 3 v0) (o1 : Value.okWide Try.prog W .any base 3 v1) (o2 : Value.okWide Try.prog W .any base 50 v2)
    (h0 : DataW.Trod enc Try.prog W 0 (fun _ => true) true 3 v0 d0 p0) (h1 : DataW.Trod enc Try.prog W 0 (fun _ => true) true 3 v1 d1 p1) (h2 : DataW.Trod enc Try.prog W 0 (fun _ => true) true 50 v2 d2 p2)
    (hk : Rows.uptoSmall H ([d0, d1, d2] ++ gs) = true) :
    Calls Try.prog 7 #[v0, v1, v2] W fun e W' => e = .returned (.bool true) ∧ Below W.heap.size W W' := by
  obtain ⟨n, rfl, rfl, rfl, wn⟩ := open_int Try.underlying3 o0 h0
  obtain ⟨sz, rfl, rfl, rfl, ws⟩ := open_int Try.underlying3 o1 h1
  obtain ⟨A, cap, acs, rfl, hA, hN, hL⟩ := placts_view o2 h2
  have hle := bulk_part (d := d2) (l := [.lit (.int .i64 n), .lit (.int .i64 sz), d2] ++ gs) (by simp)
  have hbd := bulk_bound hk
  by_cases hf : acs.length ≤ 60 ∧ acsN acs ≤ 600
  · have hft : decide (acs.length ≤ 60 ∧ acsN acs ≤ 600) = true := decide_eq_true hf
    by_cases hin : (n ≤ 40 ∨ 16384 < n) ∧ (sz ≤ 8 ∨ 512 < sz)
    · by_cases hno : n < 1 ∨ 16384 < n ∨ sz < 1 ∨ 512 < sz
      · exact plays_none n sz A acs.length cap acs _ (by omega) (by omega) rfl rfl W hA ⟨hft, hin⟩ hno
      · obtain ⟨n, rfl⟩ := Int.eq_ofNat_of_zero_le (show 0 ≤ n by omega)
        obtain ⟨sz, rfl⟩ := Int.eq_ofNat_of_zero_le (show 0 ≤ sz by omega)
        exact plays_walk n sz (by omega) (by omega) A acs.length cap acs _ (by omega) (by omega) rfl rfl hft W hA
    · exact plays_out n sz A acs.length cap acs _ (by omega) (by omega) rfl rfl W hA (.inr (by omega))
  · exact plays_out n sz A acs.length cap acs _ (by omega) (by omega) rfl rfl W hA (.inl (decide_eq_false hf))

/-! THE STATEMENT's FRAME, written by my own program over the guide's way (howto/shells, how-to-prove-an-upto-statement). -/
theorem own : ownKnob Try.prog.godebug = none := by kernel_rfl
theorem laidOut : laidOutB Try.prog = true := by kernel_rfl

set_option maxRecDepth 100000 in
theorem contract (H : Type) (enc : TypeId × Value → H) (W : World) (base : Nat) (args : Array Value) (ds gs : List (DataW H)) (before : List MemPlace)
    (hval : ∀ (j : Nat) t v, Try.f7.params[j]? = some t → args[j]? = some v → Value.okWide Try.prog W .any base t v)
    (hW : DataW.Whole enc Try.prog Try.f7.params.toList Rows.crashPlaysSpec.vars false W args.toList ds gs before) (hk : Rows.uptoSmall H (ds ++ gs) = true) :
    Calls Try.prog 7 args W fun e W' => ∃ v, e = .returned v ∧ Rows.crashPlaysSpec.post enc Try.prog Try.f7 false true false false W args v W' := by
  have hW' := hW
  obtain ⟨p, q, hA0, hV, rfl, hfz, hnd⟩ := hW
  have hA : DataW.TrodAll enc Try.prog W 0 (fun _ => true) true Try.f7.params.toList args.toList ds p := hA0
  rw [Try.params7] at hA hval
  obtain ⟨v0, vs0, d0, ds0, p0, q0, hargs, rfl, rfl, h0, r0⟩ := trodAll_cons hA
  obtain ⟨v1, vs1, d1, ds1, p1, q1, rfl, rfl, rfl, h1, r1⟩ := trodAll_cons r0
  obtain ⟨v2, vs2, d2, ds2, p2, q2, rfl, rfl, rfl, h2, r2⟩ := trodAll_cons r1
  obtain ⟨rfl, rfl, rfl⟩ := trodAll_nil r2
  obtain rfl : args = #[v0, v1, v2] := by cases args; simp_all
  obtain ⟨rfl, rfl⟩ := trodVars_none hV
  have k0 := h0
  have lt0 : ∀ x ∈ p0, x.block < W.heap.size := by obtain ⟨m, hm⟩ := k0; exact DataW.trod_lt m _ _ _ hm
  have k1 := h1
  have lt1 : ∀ x ∈ p1, x.block < W.heap.size := by obtain ⟨m, hm⟩ := k1; exact DataW.trod_lt m _ _ _ hm
  have k2 := h2
  have lt2 : ∀ x ∈ p2, x.block < W.heap.size := by obtain ⟨m, hm⟩ := k2; exact DataW.trod_lt m _ _ _ hm
  clear hA0
  refine (opened W (hval 0 3 v0 rfl rfl) (hval 1 3 v1 rfl rfl) (hval 2 50 v2 rfl rfl) h0 h1 h2 hk).mono fun e W' ⟨he, bel⟩ => ?_
  subst he
  exact ⟨_, rfl, _, _, _, [], _, [], hW', trodAll_mk1 (shut_bool Try.underlying4 _), (trodAll_cons_mk (Below.trod laidOut (by kernel_rfl) (of_decide_eq_true (by kernel_rfl)) k0 bel lt0) (trodAll_cons_mk (Below.trod laidOut (by kernel_rfl) (of_decide_eq_true (by kernel_rfl)) k1 bel lt1) (trodAll_cons_mk (Below.trod laidOut (by kernel_rfl) (of_decide_eq_true (by kernel_rfl)) k2 bel lt2) trodAll_mk0))), rfl, bel.frame _, fun h => by cases h⟩

set_option maxRecDepth 100000 in
theorem lifted (os : Os) (started : os.Started) (H : Type) (enc : TypeId × Value → H) (F : Stop.Interp) :
    ReturnsInHanded {} Try.checked os 7 .any ((Rows.OpenSpec.upto Rows.crashPlaysSpec).pre6 enc Try.prog Try.f7 Rows.crashPlaysUptoRow.domain false) (((Rows.OpenSpec.upto Rows.crashPlaysSpec).at F).post enc Try.prog Try.f7 false true false false) := by
  refine returnsInHanded_of_cond (C := Try.checked) (s := Rows.OpenSpec.upto Rows.crashPlaysSpec) (k := Rows.uptoSmall) rfl own started (by kernel_rfl) Try.func7
    (OpenSpec.witness (enc := enc) (C := Try.checked) (s := Rows.OpenSpec.upto Rows.crashPlaysSpec) (k := Rows.uptoSmall) rfl false ⟨#[], #[.int .i64 0, .int .i64 0, .slice none 0 0], []⟩ 8 (by kernel_rfl) (by kernel_rfl) (by kernel_rfl)
      (x := ([.lit (.int .i64 0), .lit (.int .i64 0), .nil], [], [])) (by kernel_rfl) rfl (by kernel_rfl)) ?_
  intro W base args ds gs before hval hW _ hk _
  exact contract H enc W base args ds gs before hval hW hk

theorem proved : Rows.CrashPlaysUptoSaid :=
  OpenClaim.holds_of_cond 7 Try.f7 rfl rfl rfl rfl rfl rfl rfl ⟨rfl, rfl, rfl, rfl, rfl⟩ rfl rfl rfl rfl rfl (by kernel_rfl) Try.func7 (by kernel_rfl)
    (of_decide_eq_true (by kernel_rfl)) (by unfold Func.isWrapper; first | (rw [if_pos (by decide +kernel)]; kernel_rfl) | (rw [if_neg (by decide +kernel)]; exact ⟨rfl, rfl⟩))
    (fun os started H enc _ F => lifted os started H enc F)
#print axioms proved
end Go.Proofs.Ytomigaldomiefaa.crashPlays
