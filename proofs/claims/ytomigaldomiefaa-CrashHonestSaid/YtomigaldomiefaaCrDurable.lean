/- crash: Durable. -/
import Derived.Test.YtomigaldomiefaaCrCached
namespace Go.Proofs.Ytomigaldomiefaa
open Go.RowKit Go.MapKept Go.ChangeMaps
open Go.Maps (Keyed)
set_option linter.unusedVariables false
set_option linter.unusedSimpArgs false

def Cr.put (S : Cr) (x : Wr) : Cr := { S with has := updH S.has x.1 x.2, loose := updL S.loose x.1 false }
def Cr.durable (S : Cr) (l : List Wr) : Cr := l.foldl Cr.put S
theorem durable_same (l : List Wr) : ∀ S : Cr, (S.durable l).n = S.n ∧ (S.durable l).sz = S.sz ∧ (S.durable l).groups = S.groups ∧ (S.durable l).fly = S.fly := by
  induction l with
  | nil => intro S; exact ⟨rfl, rfl, rfl, rfl⟩
  | cons x l ih => intro S; exact ih (S.put x)
theorem durable_take (S : Cr) (l : List Wr) (k : Nat) (x : Wr) (h : l[k]? = some x) : S.durable (l.take (k + 1)) = (S.durable (l.take k)).put x := by
  have e : l.take (k + 1) = l.take k ++ [x] := by rw [List.take_add_one, h]; rfl
  unfold Cr.durable; rw [e, List.foldl_append]; rfl
theorem WrsIs.at0 {w : World} {B n c : Nat} {A : Option Addr} {l : List Wr} (h : WrsIs w B (.slice A n c) l) : n = l.length ∧ ∀ (k : Nat) (x : Wr), l[k]? = some x → ∃ g A1 c1, A = some ⟨g, 0, none⟩ ∧ w.cell? ⟨g, k * 3, none⟩ = some (.int .i64 0) ∧ w.cell? ⟨g, k * 3 + 1, none⟩ = some (.int .i64 x.1) ∧ w.cell? ⟨g, k * 3 + 2, none⟩ = some (.slice A1 x.2.length c1) ∧ Cells8 w A1 x.2 := by
  obtain ⟨its, e, ho, hd⟩ := h
  have hn : n = its.length := by
    obtain ⟨A', c', e', _⟩ := own_shape ho
    injection e' with _ e'
  refine ⟨by rw [hn, e, List.length_map], fun k x hx => ?_⟩
  rw [e, List.getElem?_map] at hx
  cases hi : its[k]? with
  | none => rw [hi] at hx; cases hx
  | some y =>
    rw [hi] at hx
    injection hx with hx
    subst hx
    have hlt : k < its.length := (List.getElem?_eq_some_iff.1 hi).1
    obtain ⟨ya, ys, hda⟩ := hd y (List.mem_of_getElem? hi)
    rw [hn] at ho
    rcases ho.2 with ⟨_, h0⟩ | ⟨g, cap, cur, e1, _, hr, h1, h2, h3, h4⟩
    · omega
    · injection e1 with e1 _ _
      have key : ∀ (j : Nat) (u : Value), y.wr[j]? = some u → w.cell? ⟨g, k * 3 + j, none⟩ = some u := fun j u hu => by
        have hj : j < 3 := by have := (List.getElem?_eq_some_iff.1 hu).1; simpa [Ws.wr] using this
        have h5 := wrsV_get its k j y u hi hu
        rw [← h4, List.getElem?_take, if_pos (by omega)] at h5
        rw [(show Row w g _ cur from hr).cell]
        simpa using h5
      refine ⟨g, y.A, y.c, e1, ?_, ?_, key 2 _ rfl, hda.lies⟩
      · have := key 0 _ rfl; rw [ya] at this; simpa using this
      · have := key 1 _ rfl
        rw [this]; congr 2; show y.s = ((y.s.toNat : Nat) : Int); omega
section
variable {w w' : World} {B C H L : Nat} {v4 v5 : Value} {S : Cr}
theorem CrIs.put (h : CrIs w B C H L v4 v5 S) {x : Wr} (hx : x.1 < S.n ∧ x.2.length = S.sz ∧ ∀ u ∈ x.2, u < 256) :
    ∃ w1, (Instr.mapUpdate 64 (.map (some H)) (pv x.1) (.string (textOf x.2))).run Try.prog w = .ok () w1 ∧ CrIs w1 B C H L v4 v5 { S with has := updH S.has x.1 x.2 } ∧ Turns w w1 [H] := by
  obtain ⟨w1, hr, hh, ht⟩ := h.has.set (p := x.1) (by have := h.n; omega) hx.1 hx.2.1 hx.2.2
  exact ⟨w1, hr, h.putH ht hh, ht⟩
theorem CrIs.dropL (h : CrIs w B C H L v4 v5 S) (ty : TypeId) {p : Nat} (hp : p < S.n) :
    ∃ w1, (Builtin.delete_ #[65, 77] ty #[.map (some L), pv p]).run Try.prog w = .ok (.tuple #[]) w1 ∧ CrIs w1 B C H L v4 v5 { S with loose := updL S.loose p false } ∧ Turns w w1 [L] := by
  obtain ⟨w1, hr, hh, ht⟩ := h.loose.drop (ty := ty) (p := p) (by have := h.n; omega)
  exact ⟨w1, hr, h.putL ht hh, ht⟩
set_option maxRecDepth 100000 in
set_option maxHeartbeats 4000000 in
theorem Durable_any (h : CrIs w B C H L v4 v5 S) (A : Option Addr) (c : Nat) (its : List Ws) (hlen : its.length ≤ 3518437208883) (hW : Writes w A its) :
    Calls Try.prog 14 #[.pointer (some ⟨C, 0, none⟩), .slice A its.length c] w fun e w' => (∃ v, e = .returned v) ∧ CrIs w' B C H L v4 v5 (S.durable (rightL S.n S.sz its)) ∧ Turns w w' [H, L] := by
  have HR := Lib.hid (right_any C S.n S.sz A c its hlen h.sz.2 w hW h.cells.1 h.cells.2.1)
  have HOk := Lib.hid (rightL_ok S.n S.sz hW)
  have HLe : Hid ((rightL S.n S.sz its).length ≤ 3518437208883) := Nat.le_trans (rightL_le S.n S.sz its) hlen
  have HC := Lib.hid h
  generalize rightL S.n S.sz its = l at *
  generalize its.length = ni at *
  clear hW h hlen
  go_enter Try.func14, Try.ntmps14
  go_wp2_with fail
  refine HR.out.mono ?_
  rintro e w1 ⟨v, rfl, hv, hb⟩
  obtain ⟨n1, A1, c1, rfl⟩ := hv.shape
  have HA := Lib.hid hv.at0
  obtain ⟨hn1, _⟩ := hv.at0
  have HV : Hid (∀ wr, Turns w1 wr [H, L] → WrsIs wr w.heap.size (.slice A1 n1 c1) l) := fun wr ht => hv.lone ht (fun g ty cs hr hne hm => (HC.out.below hb).lone g ty cs hr hne (List.mem_cons_of_mem _ hm))
  have HC1 := Lib.hid (HC.out.below hb)
  have HB1 := Lib.hid hb
  have hn1l : n1 ≤ 3518437208883 := by rw [hn1]; exact HLe.out
  have HN := Lib.hid hn1
  clear HR hv hb HC hn1
  go_wp2_with fail
  go_loopw [5, 10] (fun bp i wr => ∃ k : Nat, i = .int .i64 k ∧ k ≤ n1 ∧ CrIs wr B C H L v4 v5 (S.durable (l.take k)) ∧ Turns w1 wr [H, L]) (fun _ i _ => n1 - (intOf i).toNat)
  case atStart => exact ⟨0, rfl, by omega, HC1.out, Turns.refl _ _⟩
  case round =>
    clear HC1
    obtain ⟨k, rfl, hk, hc, ht⟩ := hrel
    by_cases hkn : k < n1
    · obtain ⟨⟨p, d⟩, hx⟩ : ∃ x, l[k]? = some x := ⟨_, List.getElem?_eq_getElem (by rw [← HN.out]; exact hkn)⟩
      obtain ⟨g, A2, c2, rfl, q0, q1, q2, hd⟩ := (HV.out wr ht).at0.2 k (p, d) hx
      have HSt := Lib.hid (durable_take S l k (p, d) hx)
      obtain ⟨s1, s2, _, _⟩ := durable_same (l.take k) S
      have HX : Hid (p < (S.durable (l.take k)).n ∧ d.length = (S.durable (l.take k)).sz ∧ ∀ u ∈ d, u < 256) := by
        rw [s1, s2]; exact HOk.out (p, d) (List.mem_of_getElem? hx)
      obtain ⟨wz, hwz⟩ : ∃ wz, wz = wr.alloc (.cells #[.int .i64 0, .int .i64 p, .slice A2 d.length c2] 30) := ⟨_, rfl⟩
      have HBz : Hid (Below wr.heap.size wr wz) := by unfold Hid; rw [hwz]; (repeat (first | (with_reducible refine Below.drew ?_) | (with_reducible refine below_drewN0 ?_ _) | ((with_reducible refine Below.setCell ?_ ?_ _); rotate_left; focus (first | omega | (simp; done) | (simp; omega) | (simp at *; omega))) | ((with_reducible refine Below.alloc ?_ ?_ _); rotate_left; focus (first | omega | (simp; done) | (simp; omega) | (simp at *; omega))) | (with_reducible exact Below.refl _ _)))
      have HRz : Hid (Row wz wr.heap.size 30 #[.int .i64 0, .int .i64 p, .slice A2 d.length c2]) := by unfold Hid; rw [hwz]; exact Row.fresh _ _ _
      have HCz := Lib.hid (hc.below HBz.out)
      have HTz : Hid (Turns w1 wz [H, L]) := ht.then_below HBz.out
      have HD : Hid (∀ t : Kept wz [], Cells8 t.u A2 d) := fun t => (hd.keep (keep_below HBz.out)).keep (fun a v h => t.h.cell h (by simp))
      have kc : ∀ t : Kept wz [], (convert 22 9 (.slice A2 d.length c2)).run Try.prog t.u = .ok (.string (textOf d)) t.u := fun t => conv_text (HD.out t)
      have k1 : ∀ t : Kept wz [], t.u.cell? ⟨C, 2, none⟩ = some (.map (some H)) := fun t => (t.h.row HCz.out.row (by simp)).cell 2
      have k2 : ∀ t : Kept wz [], t.u.cell? ⟨wr.heap.size, 1, none⟩ = some (.int .i64 p) := fun t => (t.h.row HRz.out (by simp)).cell 1
      have k3 : ∀ t : Kept wz [], t.u.cell? ⟨wr.heap.size, 2, none⟩ = some (.slice A2 d.length c2) := fun t => (t.h.row HRz.out (by simp)).cell 2
      have HZ : Hid (wr.heap.size ∉ [H, L]) := fun hm => HCz.out.lone _ _ _ HRz.out (by decide) (List.mem_cons_of_mem _ hm)
      obtain ⟨w4, hup, hc4, ht4⟩ := (HCz.out.drewN 1).put (x := (p, d)) HX.out
      have HUp : Hid ((Instr.mapUpdate 64 (.map (some H)) (.agg #[.int .i64 p]) (.string (textOf d))).run Try.prog wz.drew = .ok () w4) := hup
      have HC4 := Lib.hid hc4
      have HT4 : Hid (Turns wz w4 [H]) := (show Turns wz.drew w4 [H] from ht4) |> fun h => ((Turns.refl wz []).drew).mono (by simp) |>.trans h (fun k hk => .inl hk)
      generalize d.length = dl at *
      generalize hS' : S.durable (l.take k) = S' at *
      clear hc ht hx hd s1 s2 hup hc4 ht4
      go_wp2
      rw [← hwz]
      clear hwz q0 q1 q2
      generalize wr.heap.size = Z at *
      (refine region_kept ([]) [0, 1, 2, 3, 4, 5, 6, 7, 8, 9] [10] (by kernel_rfl) (by kernel_rfl) (fun _ _ _ _ _ h => h) ?_; simp only [List.filterMap_cons, List.getElem?_cons_zero, List.getElem?_cons_succ, List.filterMap_nil]; (repeat ((show wpQuiet _ _ _ _ (_ :: _) _); go_big_quiet_step (fail))); refine wpQuiet_nil ?_)
      clear k1 k2 k3 kc
      have hup := HUp.out
      refine wpSeqS_last ?_
      go_wp2
      clear hup HUp
      have HR4 : Hid (Row w4 Z 30 #[.int .i64 0, .int .i64 p, .slice A2 dl c2]) := HT4.out.row HRz.out (fun hm => HZ.out (by rw [List.mem_singleton.1 hm]; simp))
      have m1 : ∀ t : Kept w4 [], t.u.cell? ⟨C, 3, none⟩ = some (.map (some L)) := fun t => (t.h.row HC4.out.row (by simp)).cell 3
      have m2 : ∀ t : Kept w4 [], t.u.cell? ⟨Z, 1, none⟩ = some (.int .i64 p) := fun t => (t.h.row HR4.out (by simp)).cell 1
      obtain ⟨w5, hdl, hc5, ht5⟩ := (HC4.out.drewN 1).dropL 0 (p := p) HX.out.1
      have HDl : Hid ((Builtin.delete_ #[65, 77] 0 #[.map (some L), .agg #[.int .i64 p]]).run Try.prog w4.drew = .ok (.tuple #[]) w5) := hdl
      have HC5 : Hid (CrIs w5 B C H L v4 v5 (S.durable (l.take (k + 1)))) := by rw [HSt.out]; exact hc5
      have HT5 : Hid (Turns w1 w5 [H, L]) := (HTz.out.trans HT4.out (fun k hk => .inl (by rw [List.mem_singleton.1 hk]; simp))).trans ((((Turns.refl w4 []).drew).mono (by simp)).trans (show Turns w4.drew w5 [L] from ht5) (fun k hk => .inl hk)) (fun k hk => .inl (by rw [List.mem_singleton.1 hk]; simp))
      clear hdl hc5 ht5
      (refine region_kept ([]) [0, 1, 2, 3, 4, 5, 6] [7] (by kernel_rfl) (by kernel_rfl) (fun _ _ _ _ _ h => h) ?_; simp only [List.filterMap_cons, List.getElem?_cons_zero, List.getElem?_cons_succ, List.filterMap_nil]; (repeat ((show wpQuiet _ _ _ _ (_ :: _) _); go_big_quiet_step (fail))); refine wpQuiet_nil ?_)
      clear m1 m2
      have hdl := HDl.out
      refine wpSeqS_last ?_
      go_wp2
      clear hdl HDl
      go_roundw
      case rel => exact ⟨k + 1, by go_num, by omega, HC5.out, HT5.out⟩
      case measure => simp [intOf]; omega
    · obtain rfl : k = n1 := by omega
      have hall : l.take k = l := by rw [HN.out]; exact List.take_length
      rw [hall] at hc
      have HCr := Lib.hid hc
      have HTr : Hid (Turns w wr [H, L]) := (Turns.of_below HB1.out _).trans ht (fun k hk => .inl hk)
      clear hc ht hall
      go_wp2
      go_end0
      exact ⟨⟨_, rfl⟩, HCr.out, HTr.out⟩
end
end Go.Proofs.Ytomigaldomiefaa
