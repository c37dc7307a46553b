/- What follows is laid together from several texts of mine, in their order. -/
import Derived.Shelf.SlIter.Nil
import Derived.Shelf.SlIterI.Nil
import Derived.Shelf.SortM.Plain
import Derived.Shelf.SortM.SortNone
import Derived.Shelf.Slices.SearchI
import Derived.Shelf.Slices.Empties
import Derived.Test.YtomigaldomiefaaQ11

namespace Go.Proofs.Ytomigaldomiefaa
open Go.Shelf
def Try.keysS_ren : Go.Shelf.Ren := ⟨fun | 7 => 45 | 10 => 62 | n => n, fun | 23 => 78 | 26 => 9 | 3 => 4 | 28 => 44 | 0 => 0 | 27 => 43 | 33 => 97 | 4 => 4 | n => n, fun | n => n⟩
theorem Try.keysS : Go.Proofs.SlLaysZ.n7 Try.prog Try.keysS_ren := {
  mixed := by kernel_rfl
  f7 := ⟨Try.f45.name, by decide, Try.func45.trans (congrArg some (by kernel_rfl))⟩
  f10 := ⟨Try.f62.name, by decide, Try.func62.trans (congrArg some (by kernel_rfl))⟩
  t0 := Try.underlying0
  a0 := Try.isAgg0
  z0 := Try.sizeOf0
  v0 := Try.zeroValue0
  t4 := Try.underlying4
  a4 := Try.isAgg4
  z4 := Try.sizeOf4
  v4 := Try.zeroValue4
  t23 := Try.underlying78
  a23 := Try.isAgg78
  z23 := Try.sizeOf78
  v23 := Try.zeroValue78
  t26 := Try.underlying9
  a26 := Try.isAgg9
  z26 := Try.sizeOf9
  v26 := Try.zeroValue9
  t27 := Try.underlying43
  a27 := Try.isAgg43
  z27 := Try.sizeOf43
  v27 := Try.zeroValue43
  t28 := Try.underlying44
  a28 := Try.isAgg44
  z28 := Try.sizeOf44
  v28 := Try.zeroValue44
  t33 := Try.underlying97
  a33 := Try.isAgg97
  z33 := Try.sizeOf97
  v33 := Try.zeroValue97 }
def Try.sortedS_ren : Go.Shelf.Ren := ⟨fun | 6 => 44 | 8 => 60 | 9 => 61 | 11 => 71 | 13 => 73 | 12 => 72 | 23 => 86 | 24 => 87 | 14 => 77 | 15 => 78 | 16 => 79 | 17 => 80 | 18 => 81 | 19 => 82 | 20 => 83 | 21 => 84 | 22 => 85 | 25 => 96 | 26 => 97 | 27 => 98 | 28 => 99 | 29 => 100 | 30 => 101 | 31 => 105 | n => n, fun | 26 => 9 | 28 => 44 | 24 => 81 | 0 => 0 | 3 => 3 | 37 => 94 | 48 => 121 | 50 => 123 | 4 => 4 | 40 => 114 | 39 => 113 | 45 => 71 | 5 => 5 | 9 => 9 | 51 => 129 | 55 => 133 | 57 => 137 | 58 => 138 | 33 => 97 | n => n, fun | n => n⟩
theorem Try.sortedS : Go.Proofs.SlLaysZ.n6 Try.prog Try.sortedS_ren := {
  mixed := by kernel_rfl
  f6 := ⟨Try.f44.name, by decide, Try.func44.trans (congrArg some (by kernel_rfl))⟩
  f8 := ⟨Try.f60.name, by decide, Try.func60.trans (congrArg some (by kernel_rfl))⟩
  f11 := ⟨Try.f71.name, by decide, Try.func71.trans (congrArg some (by kernel_rfl))⟩
  t0 := Try.underlying0
  a0 := Try.isAgg0
  z0 := Try.sizeOf0
  v0 := Try.zeroValue0
  t24 := Try.underlying81
  a24 := Try.isAgg81
  z24 := Try.sizeOf81
  v24 := Try.zeroValue81
  t26 := Try.underlying9
  a26 := Try.isAgg9
  z26 := Try.sizeOf9
  v26 := Try.zeroValue9
  t28 := Try.underlying44
  a28 := Try.isAgg44
  z28 := Try.sizeOf44
  v28 := Try.zeroValue44
  i26 := by kernel_rfl }
def Try.sortS_ren : Go.Shelf.Ren := ⟨fun | 6 => 61 | 8 => 73 | 9 => 72 | 19 => 86 | 20 => 87 | 21 => 77 | 22 => 78 | 23 => 79 | 24 => 80 | 25 => 81 | 26 => 82 | 27 => 83 | 28 => 84 | 29 => 85 | 36 => 96 | 31 => 97 | 32 => 98 | 37 => 99 | 38 => 100 | 39 => 101 | 41 => 105 | n => n, fun | 27 => 81 | 29 => 9 | 3 => 3 | 32 => 94 | 26 => 81 | 0 => 0 | 44 => 121 | 46 => 123 | 4 => 4 | 36 => 114 | 35 => 113 | 41 => 71 | 5 => 5 | 9 => 9 | 53 => 129 | 57 => 133 | 63 => 137 | 64 => 138 | n => n, fun | n => n⟩
theorem Try.sortS : Go.Proofs.SlLaysM.n6 Try.prog Try.sortS_ren := {
  mixed := by kernel_rfl
  f6 := ⟨Try.f61.name, by decide, Try.func61.trans (congrArg some (by kernel_rfl))⟩
  f8 := Try.func73.trans (congrArg some (by kernel_rfl))
  f9 := ⟨Try.f72.name, by decide, Try.func72.trans (congrArg some (by kernel_rfl))⟩
  f19 := Try.func86.trans (congrArg some (by kernel_rfl))
  f20 := Try.func87.trans (congrArg some (by kernel_rfl))
  f21 := ⟨Try.f77.name, by decide, Try.func77.trans (congrArg some (by kernel_rfl))⟩
  f22 := ⟨Try.f78.name, by decide, Try.func78.trans (congrArg some (by kernel_rfl))⟩
  f23 := ⟨Try.f79.name, by decide, Try.func79.trans (congrArg some (by kernel_rfl))⟩
  f24 := ⟨Try.f80.name, by decide, Try.func80.trans (congrArg some (by kernel_rfl))⟩
  f25 := ⟨Try.f81.name, by decide, Try.func81.trans (congrArg some (by kernel_rfl))⟩
  f26 := ⟨Try.f82.name, by decide, Try.func82.trans (congrArg some (by kernel_rfl))⟩
  f27 := ⟨Try.f83.name, by decide, Try.func83.trans (congrArg some (by kernel_rfl))⟩
  f28 := ⟨Try.f84.name, by decide, Try.func84.trans (congrArg some (by kernel_rfl))⟩
  f29 := ⟨Try.f85.name, by decide, Try.func85.trans (congrArg some (by kernel_rfl))⟩
  f31 := Try.func97.trans (congrArg some (by kernel_rfl))
  f32 := Try.func98.trans (congrArg some (by kernel_rfl))
  f36 := ⟨Try.f96.name, by decide, Try.func96.trans (congrArg some (by kernel_rfl))⟩
  f37 := ⟨Try.f99.name, by decide, Try.func99.trans (congrArg some (by kernel_rfl))⟩
  f38 := ⟨Try.f100.name, by decide, Try.func100.trans (congrArg some (by kernel_rfl))⟩
  f39 := ⟨Try.f101.name, by decide, Try.func101.trans (congrArg some (by kernel_rfl))⟩
  f41 := ⟨Try.f105.name, by decide, Try.func105.trans (congrArg some (by kernel_rfl))⟩
  t0 := Try.underlying0
  a0 := Try.isAgg0
  z0 := Try.sizeOf0
  v0 := Try.zeroValue0
  t3 := Try.underlying3
  a3 := Try.isAgg3
  z3 := Try.sizeOf3
  v3 := Try.zeroValue3
  t4 := Try.underlying4
  a4 := Try.isAgg4
  z4 := Try.sizeOf4
  v4 := Try.zeroValue4
  t5 := Try.underlying5
  a5 := Try.isAgg5
  z5 := Try.sizeOf5
  v5 := Try.zeroValue5
  t9 := Try.underlying9
  a9 := Try.isAgg9
  z9 := Try.sizeOf9
  v9 := Try.zeroValue9
  t26 := Try.underlying81
  a26 := Try.isAgg81
  z26 := Try.sizeOf81
  v26 := Try.zeroValue81
  t27 := Try.underlying81
  a27 := Try.isAgg81
  z27 := Try.sizeOf81
  v27 := Try.zeroValue81
  t29 := Try.underlying9
  a29 := Try.isAgg9
  z29 := Try.sizeOf9
  v29 := Try.zeroValue9
  t32 := Try.underlying94
  a32 := Try.isAgg94
  z32 := Try.sizeOf94
  v32 := Try.zeroValue94
  t35 := Try.underlying113
  a35 := Try.isAgg113
  z35 := Try.sizeOf113
  v35 := Try.zeroValue113
  t36 := Try.underlying114
  a36 := Try.isAgg114
  z36 := Try.sizeOf114
  v36 := Try.zeroValue114
  t41 := Try.underlying71
  a41 := Try.isAgg71
  z41 := Try.sizeOf71
  v41 := Try.zeroValue71
  t44 := Try.underlying121
  a44 := Try.isAgg121
  z44 := Try.sizeOf121
  v44 := Try.zeroValue121
  t46 := Try.underlying123
  a46 := Try.isAgg123
  z46 := Try.sizeOf123
  v46 := Try.zeroValue123
  t53 := Try.underlying129
  a53 := Try.isAgg129
  z53 := Try.sizeOf129
  v53 := Try.zeroValue129
  t57 := Try.underlying133
  a57 := Try.isAgg133
  z57 := Try.sizeOf133
  v57 := Try.zeroValue133
  t63 := Try.underlying137
  a63 := Try.isAgg137
  z63 := Try.sizeOf137
  v63 := Try.zeroValue137
  t64 := Try.underlying138
  a64 := Try.isAgg138
  z64 := Try.sizeOf138
  v64 := Try.zeroValue138 }
def Try.keysA_ren : Go.Shelf.Ren := ⟨fun | 7 => 52 | 10 => 68 | n => n, fun | 23 => 88 | 26 => 3 | 3 => 4 | 28 => 92 | 0 => 0 | 27 => 91 | 33 => 75 | 4 => 4 | n => n, fun | n => n⟩
theorem Try.keysA : Go.Proofs.SlLaysZI.n7 Try.prog Try.keysA_ren := {
  mixed := by kernel_rfl
  f7 := ⟨Try.f52.name, by decide, Try.func52.trans (congrArg some (by kernel_rfl))⟩
  f10 := ⟨Try.f68.name, by decide, Try.func68.trans (congrArg some (by kernel_rfl))⟩
  t0 := Try.underlying0
  a0 := Try.isAgg0
  z0 := Try.sizeOf0
  v0 := Try.zeroValue0
  t4 := Try.underlying4
  a4 := Try.isAgg4
  z4 := Try.sizeOf4
  v4 := Try.zeroValue4
  t23 := Try.underlying88
  a23 := Try.isAgg88
  z23 := Try.sizeOf88
  v23 := Try.zeroValue88
  t26 := Try.underlying3
  a26 := Try.isAgg3
  z26 := Try.sizeOf3
  v26 := Try.zeroValue3
  t27 := Try.underlying91
  a27 := Try.isAgg91
  z27 := Try.sizeOf91
  v27 := Try.zeroValue91
  t28 := Try.underlying92
  a28 := Try.isAgg92
  z28 := Try.sizeOf92
  v28 := Try.zeroValue92
  t33 := Try.underlying75
  a33 := Try.isAgg75
  z33 := Try.sizeOf75
  v33 := Try.zeroValue75 }
def Try.sortedA_ren : Go.Shelf.Ren := ⟨fun | 6 => 51 | 8 => 66 | 9 => 67 | 11 => 75 | 13 => 73 | 12 => 76 | 23 => 86 | 24 => 87 | 14 => 88 | 15 => 89 | 16 => 90 | 17 => 91 | 18 => 92 | 19 => 93 | 20 => 53 | 21 => 94 | 22 => 95 | 25 => 102 | 26 => 97 | 27 => 98 | 28 => 103 | 29 => 104 | 30 => 69 | 31 => 106 | n => n, fun | 26 => 3 | 28 => 92 | 24 => 69 | 0 => 0 | 3 => 3 | 37 => 94 | 48 => 121 | 50 => 123 | 4 => 4 | 40 => 114 | 39 => 113 | 45 => 71 | 5 => 5 | 9 => 9 | 51 => 129 | 55 => 133 | 57 => 137 | 58 => 138 | 33 => 75 | n => n, fun | n => n⟩
theorem Try.sortedA : Go.Proofs.SlLaysZI.n6 Try.prog Try.sortedA_ren := {
  mixed := by kernel_rfl
  f6 := ⟨Try.f51.name, by decide, Try.func51.trans (congrArg some (by kernel_rfl))⟩
  f8 := ⟨Try.f66.name, by decide, Try.func66.trans (congrArg some (by kernel_rfl))⟩
  f11 := ⟨Try.f75.name, by decide, Try.func75.trans (congrArg some (by kernel_rfl))⟩
  t0 := Try.underlying0
  a0 := Try.isAgg0
  z0 := Try.sizeOf0
  v0 := Try.zeroValue0
  t24 := Try.underlying69
  a24 := Try.isAgg69
  z24 := Try.sizeOf69
  v24 := Try.zeroValue69
  t26 := Try.underlying3
  a26 := Try.isAgg3
  z26 := Try.sizeOf3
  v26 := Try.zeroValue3
  t28 := Try.underlying92
  a28 := Try.isAgg92
  z28 := Try.sizeOf92
  v28 := Try.zeroValue92
  i26 := by kernel_rfl }
def Try.sortA_ren : Go.Shelf.Ren := ⟨fun | 5 => 67 | 8 => 73 | 7 => 76 | 19 => 86 | 20 => 87 | 10 => 88 | 11 => 89 | 12 => 90 | 13 => 91 | 14 => 92 | 15 => 93 | 16 => 53 | 17 => 94 | 18 => 95 | 30 => 102 | 31 => 97 | 32 => 98 | 33 => 103 | 34 => 104 | 35 => 69 | 40 => 106 | n => n, fun | 23 => 69 | 25 => 3 | 3 => 3 | 32 => 94 | 22 => 69 | 0 => 0 | 44 => 121 | 46 => 123 | 4 => 4 | 36 => 114 | 35 => 113 | 41 => 71 | 5 => 5 | 9 => 9 | 53 => 129 | 57 => 133 | 63 => 137 | 64 => 138 | n => n, fun | n => n⟩
theorem Try.sortA : Go.Proofs.SlLaysM.n5 Try.prog Try.sortA_ren := {
  mixed := by kernel_rfl
  f5 := ⟨Try.f67.name, by decide, Try.func67.trans (congrArg some (by kernel_rfl))⟩
  f7 := ⟨Try.f76.name, by decide, Try.func76.trans (congrArg some (by kernel_rfl))⟩
  f8 := Try.func73.trans (congrArg some (by kernel_rfl))
  f10 := ⟨Try.f88.name, by decide, Try.func88.trans (congrArg some (by kernel_rfl))⟩
  f11 := ⟨Try.f89.name, by decide, Try.func89.trans (congrArg some (by kernel_rfl))⟩
  f12 := ⟨Try.f90.name, by decide, Try.func90.trans (congrArg some (by kernel_rfl))⟩
  f13 := ⟨Try.f91.name, by decide, Try.func91.trans (congrArg some (by kernel_rfl))⟩
  f14 := ⟨Try.f92.name, by decide, Try.func92.trans (congrArg some (by kernel_rfl))⟩
  f15 := ⟨Try.f93.name, by decide, Try.func93.trans (congrArg some (by kernel_rfl))⟩
  f16 := ⟨Try.f53.name, by decide, Try.func53.trans (congrArg some (by kernel_rfl))⟩
  f17 := ⟨Try.f94.name, by decide, Try.func94.trans (congrArg some (by kernel_rfl))⟩
  f18 := ⟨Try.f95.name, by decide, Try.func95.trans (congrArg some (by kernel_rfl))⟩
  f19 := Try.func86.trans (congrArg some (by kernel_rfl))
  f20 := Try.func87.trans (congrArg some (by kernel_rfl))
  f30 := ⟨Try.f102.name, by decide, Try.func102.trans (congrArg some (by kernel_rfl))⟩
  f31 := Try.func97.trans (congrArg some (by kernel_rfl))
  f32 := Try.func98.trans (congrArg some (by kernel_rfl))
  f33 := ⟨Try.f103.name, by decide, Try.func103.trans (congrArg some (by kernel_rfl))⟩
  f34 := ⟨Try.f104.name, by decide, Try.func104.trans (congrArg some (by kernel_rfl))⟩
  f35 := ⟨Try.f69.name, by decide, Try.func69.trans (congrArg some (by kernel_rfl))⟩
  f40 := ⟨Try.f106.name, by decide, Try.func106.trans (congrArg some (by kernel_rfl))⟩
  t0 := Try.underlying0
  a0 := Try.isAgg0
  z0 := Try.sizeOf0
  v0 := Try.zeroValue0
  t3 := Try.underlying3
  a3 := Try.isAgg3
  z3 := Try.sizeOf3
  v3 := Try.zeroValue3
  t4 := Try.underlying4
  a4 := Try.isAgg4
  z4 := Try.sizeOf4
  v4 := Try.zeroValue4
  t5 := Try.underlying5
  a5 := Try.isAgg5
  z5 := Try.sizeOf5
  v5 := Try.zeroValue5
  t9 := Try.underlying9
  a9 := Try.isAgg9
  z9 := Try.sizeOf9
  v9 := Try.zeroValue9
  t22 := Try.underlying69
  a22 := Try.isAgg69
  z22 := Try.sizeOf69
  v22 := Try.zeroValue69
  t23 := Try.underlying69
  a23 := Try.isAgg69
  z23 := Try.sizeOf69
  v23 := Try.zeroValue69
  t25 := Try.underlying3
  a25 := Try.isAgg3
  z25 := Try.sizeOf3
  v25 := Try.zeroValue3
  t32 := Try.underlying94
  a32 := Try.isAgg94
  z32 := Try.sizeOf94
  v32 := Try.zeroValue94
  t35 := Try.underlying113
  a35 := Try.isAgg113
  z35 := Try.sizeOf113
  v35 := Try.zeroValue113
  t36 := Try.underlying114
  a36 := Try.isAgg114
  z36 := Try.sizeOf114
  v36 := Try.zeroValue114
  t41 := Try.underlying71
  a41 := Try.isAgg71
  z41 := Try.sizeOf71
  v41 := Try.zeroValue71
  t44 := Try.underlying121
  a44 := Try.isAgg121
  z44 := Try.sizeOf121
  v44 := Try.zeroValue121
  t46 := Try.underlying123
  a46 := Try.isAgg123
  z46 := Try.sizeOf123
  v46 := Try.zeroValue123
  t53 := Try.underlying129
  a53 := Try.isAgg129
  z53 := Try.sizeOf129
  v53 := Try.zeroValue129
  t57 := Try.underlying133
  a57 := Try.isAgg133
  z57 := Try.sizeOf133
  v57 := Try.zeroValue133
  t63 := Try.underlying137
  a63 := Try.isAgg137
  z63 := Try.sizeOf137
  v63 := Try.zeroValue137
  t64 := Try.underlying138
  a64 := Try.isAgg138
  z64 := Try.sizeOf138
  v64 := Try.zeroValue138 }
def Try.binSearch_ren : Go.Shelf.Ren := ⟨fun | 25 => 36 | 31 => 53 | 32 => 54 | 37 => 69 | n => n, fun | 22 => 69 | 3 => 3 | 4 => 4 | 40 => 94 | 0 => 0 | n => n, fun | n => n⟩
theorem Try.binSearch : Go.Proofs.Lays2.n25 Try.prog Try.binSearch_ren := {
  mixed := by kernel_rfl
  f25 := Try.func36.trans (congrArg some (by kernel_rfl))
  f31 := Try.func53.trans (congrArg some (by kernel_rfl))
  f32 := Try.func54.trans (congrArg some (by kernel_rfl))
  f37 := Try.func69.trans (congrArg some (by kernel_rfl))
  t0 := Try.underlying0
  a0 := Try.isAgg0
  z0 := Try.sizeOf0
  v0 := Try.zeroValue0
  t3 := Try.underlying3
  a3 := Try.isAgg3
  z3 := Try.sizeOf3
  v3 := Try.zeroValue3
  t4 := Try.underlying4
  a4 := Try.isAgg4
  z4 := Try.sizeOf4
  v4 := Try.zeroValue4
  t22 := Try.underlying69
  a22 := Try.isAgg69
  z22 := Try.sizeOf69
  v22 := Try.zeroValue69
  t40 := Try.underlying94
  a40 := Try.isAgg94
  z40 := Try.sizeOf94
  v40 := Try.zeroValue94 }
end Go.Proofs.Ytomigaldomiefaa

namespace Go.Proofs.Ytomigaldomiefaa
open Go.RowKit Go.MapKept Go.ChangeMaps Go.Sort Go.Shelf
open Go.Maps (Keyed)
set_option linter.unusedVariables false
set_option linter.unusedSimpArgs false

theorem intKeyed : Keyed Try.prog 3 := Go.Maps.int_keyed Try.underlying3
theorem seen_under : Try.prog.underlying 88 = some (.map 3 4) := Try.underlying88
theorem int_key {k : Nat} (h : k < 4294967296) : keyOf Try.prog 3 (.int .i64 (k : Nat)) = some (.int .i64 (k : Nat)) := Go.Maps.keyOf_int_mk Try.underlying3 (WalkArith.wf_i64 (by omega))
/-- Ints that were seen, as a map. -/
def SeenIs (w : World) (Q nb : Nat) (bad : Nat → Bool) : Prop :=
  ∃ n f, MapIs Try.prog 3 w Q n f ∧ ∀ key v, f key = some v ↔ ∃ k : Nat, k < nb ∧ bad k = true ∧ key = .int .i64 k ∧ v = .bool true
def setSeen (bad : Nat → Bool) (k : Nat) : Nat → Bool := fun i => i == k || bad i
section
variable {w w' : World} {Q nb : Nat} {bad : Nat → Bool}
theorem SeenIs.lt (h : SeenIs w Q nb bad) : Q < w.heap.size := by obtain ⟨n, f, h, _⟩ := h; exact h.lt
theorem SeenIs.turns {T : List Nat} (h : SeenIs w Q nb bad) (ht : Turns w w' T) (hb : Q ∉ T) : SeenIs w' Q nb bad := by obtain ⟨n, f, h, h2⟩ := h; exact ⟨n, f, h.turns ht hb, h2⟩
theorem SeenIs.not_row (h : SeenIs w Q nb bad) (t : TypeId) (cs : Array Value) : ¬ Row w Q t cs := by
  obtain ⟨n, f, ⟨es, clock, hb, _⟩, _⟩ := h
  intro hr
  unfold Row at hr
  rw [hr] at hb; cases hb
theorem SeenIs.fresh (w : World) (nb : Nat) : SeenIs (w.alloc (.map #[] 0)) w.heap.size nb (fun _ => false) := ⟨_, _, MapIs.fresh _ _ w, by simp⟩
theorem SeenIs.look (h : SeenIs w Q nb bad) (hn : nb < 4294967296) {k : Nat} (hk : k < nb) : (Instr.lookup 88 (.map (some Q)) (.int .i64 k) false).run Try.prog w = .ok (.bool (bad k)) w := by
  obtain ⟨n, f, h, h2⟩ := h
  rw [(h.look intKeyed seen_under (zero_bool w) (int_key (by omega))).1]
  cases hb : bad k with
  | true => rw [(h2 (.int .i64 k) (.bool true)).2 ⟨k, hk, hb, rfl, rfl⟩]; rfl
  | false =>
    cases hf : f (.int .i64 k) with
    | none => rfl
    | some v =>
      obtain ⟨k', _, h3, h4, _⟩ := (h2 _ _).1 hf
      injection h4 with _ h4
      obtain rfl : k = k' := by omega
      rw [hb] at h3; cases h3
theorem SeenIs.set (h : SeenIs w Q nb bad) (hn : nb < 4294967296) {k : Nat} (hk : k < nb) :
    ∃ w', (Instr.mapUpdate 88 (.map (some Q)) (.int .i64 k) (.bool true)).run Try.prog w = .ok () w' ∧ SeenIs w' Q nb (setSeen bad k) ∧ Turns w w' [Q] := by
  obtain ⟨n, f, h, h2⟩ := h
  obtain ⟨w', hr, hm, hg⟩ := h.update (val := .bool true) intKeyed seen_under (int_key (k := k) (by omega))
  refine ⟨w', hr, ⟨_, _, hm, fun key v => ?_⟩, Turns.of_grown hg⟩
  by_cases he : key = .int .i64 k
  · subst he
    rw [updK_same]
    constructor
    · rintro h; injection h with h; exact ⟨k, hk, by simp [setSeen], rfl, h.symm⟩
    · rintro ⟨k', _, _, _, rfl⟩; rfl
  · rw [updK_ne _ _ _ he, h2]
    constructor
    · rintro ⟨k', h1, h3, h4, h5⟩
      exact ⟨k', h1, by simp [setSeen, h3], h4, h5⟩
    · rintro ⟨k', h1, h3, rfl, h5⟩
      have : k' ≠ k := fun e => he (by rw [e])
      exact ⟨k', h1, by simpa [setSeen, this] using h3, rfl, h5⟩
end
/-- They, in order. -/
def seenL (nb : Nat) (bad : Nat → Bool) : List Int := ((List.range nb).filter bad).map fun (k : Nat) => (k : Int)
set_option maxRecDepth 100000 in
theorem SeenIs.owned {w : World} {Q nb : Nat} {bad : Nat → Bool} (h : SeenIs w Q nb bad) (hn : nb < 4294967296) :
    ∃ (nn : Nat) (D0 : DataW Unit), w.ownsMap Try.prog 3 (fun _ => some (.nil, [])) Q nn D0 ∧ Maps.size D0 ≤ nb ∧ (intKeys D0).Perm (seenL nb bad) := by
  obtain ⟨n, f, ⟨es, clock, hb, hs, hsz, hk, hf⟩, h2⟩ := h
  have hkey : ∀ x ∈ es.toList, ∃ k : Nat, k < nb ∧ bad k = true ∧ x.key = .int .i64 k := fun x hx => by
    obtain ⟨k, h3, h4, h5, _⟩ := (h2 x.key x.val).1 ((hf _ _).2 ⟨x, hx, rfl, rfl⟩)
    exact ⟨k, h3, h4, h5⟩
  have hnd : (es.toList.map (·.key)).Pairwise (· ≠ ·) := List.pairwise_map.2 ((stamped_iff es clock).1 hs).2.2
  have hle : es.size ≤ nb := by
    have := nodup_le (l := es.toList.map (·.key)) (m := (List.range nb).map fun (k : Nat) => Value.int .i64 (k : Int)) hnd (fun y hy => by
      obtain ⟨x, hx, rfl⟩ := List.mem_map.1 hy
      obtain ⟨k, h3, _, h5⟩ := hkey x hx
      exact List.mem_map.2 ⟨k, List.mem_range.2 h3, h5.symm⟩)
    simpa using this
  have hF : WideElems.Fit (H := Unit) Try.prog 3 (fun _ => some (.nil, [])) es clock := ⟨by unfold maxLen; omega, hs, fun x hx => by
    obtain ⟨l, hl⟩ := hk x hx
    exact ⟨(l, .nil), by unfold WideElems.rd; rw [hl]; rfl⟩⟩
  refine ⟨es.size, _, ⟨es, clock, hb, hF, Nat.le_refl _, rfl⟩, ?_, ?_⟩
  · exact Nat.le_trans (World.ownsMap.size_le ⟨es, clock, hb, hF, Nat.le_refl _, rfl⟩) hle
  · have hrg : ∀ x ∈ es.toList, ∀ k : Nat, k < nb → x.key = .int .i64 k → Go.intOf (WideElems.rg (H := Unit) Try.prog 3 (fun _ => some (.nil, [])) x).1 = k := fun x hx k hk hkk => by
      have e : WideElems.rd (H := Unit) Try.prog 3 (fun _ => some (.nil, [])) x = some (.int .i64 k, .nil) := by
        unfold WideElems.rd; rw [hkk, int_key (by omega)]; rfl
      rw [WideElems.rg_of e]; rfl
    have hp1 := (Go.WideShapes.sorted_perm (es.toList.map (WideElems.rg (H := Unit) Try.prog 3 (fun _ => some (.nil, []))))).map fun p => Go.intOf p.1
    refine hp1.trans ?_
    rw [List.map_map]
    refine (List.perm_ext_iff_of_nodup ?_ ?_).2 fun y => ?_
    · refine List.pairwise_map.2 (((stamped_iff es clock).1 hs).2.2.imp_of_mem fun {x z} hx hz hne e => hne ?_)
      obtain ⟨k1, h1, _, e1⟩ := hkey x hx
      obtain ⟨k3, h3, _, e3⟩ := hkey z hz
      have a1 := hrg x hx k1 h1 e1
      have a3 := hrg z hz k3 h3 e3
      simp only [Function.comp_apply] at e
      rw [a1, a3] at e
      rw [e1, e3, e]
    · refine List.pairwise_map.2 ((List.nodup_range.filter bad).imp fun {x z} hne e => hne ?_)
      omega
    · rw [List.mem_map]
      unfold seenL
      rw [List.mem_map]
      constructor
      · rintro ⟨x, hx, rfl⟩
        obtain ⟨k1, h1, hb1, e1⟩ := hkey x hx
        refine ⟨k1, List.mem_filter.2 ⟨List.mem_range.2 h1, hb1⟩, ?_⟩
        rw [Function.comp_apply]
        exact (hrg x hx k1 h1 e1).symm
      · rintro ⟨k1, hk1, rfl⟩
        obtain ⟨h1, hb1⟩ := List.mem_filter.1 hk1
        rw [List.mem_range] at h1
        obtain ⟨x, hx, e1, _⟩ := (hf _ _).1 ((h2 (.int .i64 k1) (.bool true)).2 ⟨k1, h1, hb1, rfl, rfl⟩)
        refine ⟨x, hx, ?_⟩
        rw [Function.comp_apply]
        exact hrg x hx k1 h1 e1
theorem seenL_sorted (nb : Nat) (bad : Nat → Bool) : (seenL nb bad).mergeSort (fun x y => decide (x ≤ y)) = seenL nb bad := by
  have tr : ∀ a b c : Int, decide (a ≤ b) = true → decide (b ≤ c) = true → decide (a ≤ c) = true := fun a b c h1 h2 => by simp only [decide_eq_true_eq] at *; exact Int.le_trans h1 h2
  have tt : ∀ a b : Int, (decide (a ≤ b) || decide (b ≤ a)) = true := fun a b => by simp only [Bool.or_eq_true, decide_eq_true_eq]; exact Int.le_total a b
  have hL : (seenL nb bad).Pairwise fun a b => decide (a ≤ b) = true := List.pairwise_map.2 ((List.pairwise_lt_range.filter bad).imp fun {x z} h => decide_eq_true (by omega))
  refine List.Perm.eq_of_pairwise (le := fun a b => decide (a ≤ b) = true) (fun a b _ _ h1 h2 => ?_) (List.pairwise_mergeSort tr tt _) hL (List.mergeSort_perm _ _)
  simp only [decide_eq_true_eq] at h1 h2
  exact Int.le_antisymm h1 h2

theorem sortsA (m : Nat) : AnyZI.SortsIn Try.prog Try.sortedA_ren Fence.wide m :=
  ⟨fun blk off cap ss W hH hblk hsz => callsIn_wide.2 (AnyM.slices_Sort_int Try.sortA blk off cap ss W hH hblk hsz),
   fun p cap W => callsIn_wide.2 (AnyM.slices_Sort_int_none Try.sortA p cap W)⟩
theorem keysA_any (mb : Option Nat) (W : World) : Calls Try.prog 52 #[.map mb] W fun e w' => e = .returned (.func (.func 68) #[] #[.pointer (some ⟨W.heap.size, 0, none⟩)]) ∧ w' = W.alloc (.cells #[.map mb] 88) :=
  (callsIn_wide (n := 5)).1 (AnyZI.keys_in Try.keysA Fence.wide 5 trivial rfl mb W)
set_option maxHeartbeats 1000000 in
theorem sortedA_any {Q nb : Nat} {bad : Nat → Bool} (w : World) (h : SeenIs w Q nb bad) (hn : nb < 4294967296) :
    Calls Try.prog 51 #[.func (.func 68) #[] #[.pointer (some ⟨w.heap.size, 0, none⟩)]] (w.alloc (.cells #[.map (some Q)] 88)) fun e w' => ∃ v, e = .returned v ∧
      w'.ownsRow (w.heap.size + 1) 3 1 v (seenL nb bad).length ((seenL nb bad).map encZ) ∧ Below (w.heap.size + 1) (w.alloc (.cells #[.map (some Q)] 88)) w' := by
  obtain ⟨nn, D0, hown, hsz, hp⟩ := h.owned hn
  have hbl := h.lt
  have hseq : SeqGives Fence.wide 2 Try.prog 68 #[.pointer (some ⟨w.heap.size, 0, none⟩)] encZ (fun ss => ss.Perm (intKeys D0)) (Maps.size D0) (w.alloc (.cells #[.map (some Q)] 88)) :=
    AnyZI.keys_gives (ρ := Try.keysA_ren) { Try.keysA with } Fence.wide _ trivial rfl (by omega) w.heap.size Q nn D0 _ (by simp) (by simp) (by
      obtain ⟨es, clock, hb, Ft, hs, hD⟩ := hown
      exact ⟨es, clock, (Below.heap_alloc _ _ Q hbl).trans hb, Ft, hs, hD⟩)
  have cS := AnyZI.sorted_in Try.sortedA Fence.wide 5 trivial trivial trivial trivial rfl (by omega) (sortsA _) (enters_of Try.func67 (by kernel_rfl) rfl) 68 #[.pointer (some ⟨w.heap.size, 0, none⟩)] trivial (enters_of Try.func68 (by kernel_rfl) rfl) _ _ (by unfold maxLen; omega) (by omega) _ hseq
  change CallsIn _ _ Try.prog 51 _ _ _ at cS
  refine ((callsIn_wide (n := 5)).1 cS).mono ?_
  rintro e w' ⟨v, ss, rfl, hS, hrow, _, hb⟩
  rw [World.size_alloc] at hrow hb
  have hp2 := hS.trans hp
  have e1 : ss.mergeSort (fun x y => decide (x ≤ y)) = seenL nb bad := (mergeSort_of_perm_i hp2).trans (seenL_sorted _ _)
  rw [e1, hp2.length_eq] at hrow
  exact ⟨v, rfl, hrow, hb⟩
end Go.Proofs.Ytomigaldomiefaa

namespace Go.Proofs.Ytomigaldomiefaa
open Go.RowKit Go.MapKept Go.ChangeMaps
open Go.Maps (Keyed)
set_option linter.unusedVariables false
set_option linter.unusedSimpArgs false

/-- Block r of w goes over the map at b, which f tells; what it has told and what is still there is of K; cnt entries are still to come. -/
def SweepIs (P : Program) (k : TypeId) (w : World) (b r : Nat) (f : Value → Option Value) (K : Value → Prop) (cnt : Nat) : Prop :=
  ∃ es clock since seen c0, w.heap[b]? = some (.map es clock) ∧ Stamped es clock ∧ (∀ x ∈ es.toList, ∃ l, keyOf P k x.key = some l) ∧ (∀ key v, f key = some v ↔ ∃ x ∈ es.toList, x.key = key ∧ x.val = v) ∧
    w.heap[r]? = some (.mapIter (some b) since seen c0) ∧ (∀ x ∈ es.toList, x.born < since) ∧ (leftOf es seen).size = cnt ∧ since ≤ c0 ∧ since ≤ clock ∧ ∀ x ∈ es.toList, seen.contains x.born = true → K x.key
section
variable {P : Program} {k : TypeId} {w : World} {b r cnt : Nat} {f : Value → Option Value} {K : Value → Prop}
theorem SweepIs.isMap (h : SweepIs P k w b r f K cnt) : ∃ n, MapIs P k w b n f := by
  obtain ⟨es, clock, since, seen, c0, hb, hs, hk, hf, _⟩ := h
  exact ⟨_, es, clock, hb, hs, rfl, hk, hf⟩
theorem SweepIs.lt (h : SweepIs P k w b r f K cnt) : r < w.heap.size ∧ b < w.heap.size := by
  obtain ⟨es, clock, since, seen, c0, hb, hs, hk, hf, hr, _⟩ := h
  exact ⟨(Array.getElem?_eq_some_iff.1 hr).1, (Array.getElem?_eq_some_iff.1 hb).1⟩
theorem SweepIs.keep {w' : World} (h : SweepIs P k w b r f K cnt) (hb : w'.heap[b]? = w.heap[b]?) (hr : w'.heap[r]? = w.heap[r]?) : SweepIs P k w' b r f K cnt := by
  obtain ⟨es, clock, since, seen, c0, h1, hs, hk, hf, h2, rest⟩ := h
  exact ⟨es, clock, since, seen, c0, hb.trans h1, hs, hk, hf, hr.trans h2, rest⟩
theorem SweepIs.below {w' : World} (h : SweepIs P k w b r f K cnt) (hb : Below w.heap.size w w') : SweepIs P k w' b r f K cnt :=
  h.keep (hb.block b h.lt.2) (hb.block r h.lt.1)
theorem SweepIs.mono {K' : Value → Prop} (h : SweepIs P k w b r f K cnt) (hK : ∀ y v, f y = some v → K y → K' y) : SweepIs P k w b r f K' cnt := by
  obtain ⟨es, clock, since, seen, c0, h1, hs, hk, hf, h2, h3, h4, h5, h6, h7⟩ := h
  exact ⟨es, clock, since, seen, c0, h1, hs, hk, hf, h2, h3, h4, h5, h6, fun x hx hsn => hK _ _ ((hf x.key x.val).2 ⟨x, hx, rfl, rfl⟩) (h7 x hx hsn)⟩
theorem MapIs.sweep {n : Nat} {t e : TypeId} (h : MapIs P k w b n f) (ht : P.underlying t = some (.map k e)) :
    ∃ w', (Instr.range t (.map (some b))).run P w = .ok (.pointer (some ⟨w.heap.size, 0, none⟩)) w' ∧ SweepIs P k w' b w.heap.size f (fun _ => False) n ∧ Below w.heap.size w w' := by
  obtain ⟨es, clock, hb, hs, hn, hk, hf⟩ := h
  refine ⟨w.alloc (.mapIter (some b) clock #[] clock), ?_, ⟨es, clock, clock, #[], clock, ?_, hs, hk, hf, heap_alloc_new w _, ?_, ?_, Nat.le_refl _, Nat.le_refl _, ?_⟩, (Below.refl _ _).alloc (Nat.le_refl _) _⟩
  · simp [Instr.range, run_underlying ht, MapKept.run_getObj_map hb, Result.andThen]
  · exact (Below.heap_alloc w _ b (Array.getElem?_eq_some_iff.1 hb).1).trans hb
  · exact fun x hx => ((stamped_iff es clock).1 hs).1 x hx
  · rw [← hn]; simp [leftOf]
  · intro x _ h; simp at h
theorem left_none {es : Array MapEntry} {seen : Array Nat} (h : (leftOf es seen).size = 0) : ∀ x ∈ es.toList, seen.contains x.born = true := by
  intro x hx
  cases hc : seen.contains x.born with
  | true => rfl
  | false =>
    have : x ∈ (leftOf es seen).toList := by
      unfold leftOf
      have hx' : x ∈ es := by simpa using hx
      simp at hc
      simp [hx', hc]
    have h0 : (leftOf es seen).toList.length = 0 := by simpa using h
    rw [List.length_eq_zero_iff.1 h0] at this
    simp at this
theorem SweepIs.next (h : SweepIs P k w b r f K cnt) (ty : TypeId) :
    (cnt = 0 ∧ (Instr.next (.pointer (some ⟨r, 0, none⟩)) false ty).run P w = .ok (.tuple #[.bool false]) w ∧ ∀ key v, f key = some v → K key) ∨
    ∃ key v w' cnt', f key = some v ∧ (Instr.next (.pointer (some ⟨r, 0, none⟩)) false ty).run P w = .ok (.tuple #[.bool true, key, v]) w' ∧ SweepIs P k w' b r f (fun y => y = key ∨ K y) cnt' ∧ cnt' < cnt ∧ w.grownBy w' (some r) ∧
      (Instr.entry (.pointer (some ⟨r, 0, none⟩))).run P w' = .ok (.tuple #[key, v]) w' := by
  obtain ⟨es, clock, since, seen, c0, hb, hs, hk, hf, hr, hold, hcnt, hsc, hsk, hK⟩ := h
  have hne : r ≠ b := fun e => by rw [e, hb] at hr; cases hr
  rcases run_next_at (P := P) w ty r b since c0 seen es clock hr hb hold hsc with ⟨h0, hrun⟩ | ⟨e, he, w1, hal, hrun⟩
  · refine .inl ⟨by rw [← hcnt]; exact h0, hrun, fun key v hkv => ?_⟩
    obtain ⟨x, hx, rfl, _⟩ := (hf _ _).1 hkv
    exact hK x hx (left_none h0 x hx)
  · obtain ⟨hem, hes⟩ := mem_left he
    have hr1 : w1.heap[r]? = some (.mapIter (some b) since seen c0) := by rcases hal with rfl | rfl <;> exact hr
    have hb1 : w1.heap[b]? = some (.map es clock) := by rcases hal with rfl | rfl <;> exact hb
    have hset := heap_set (o' := .mapIter (some b) since (seen.push e.born) clock) hr1
    have hb' : (setBlock w1 r (.mapIter (some b) since (seen.push e.born) clock)).heap[b]? = some (.map es clock) := (hset.2 b (fun e1 => hne e1.symm)).trans hb1
    refine .inr ⟨e.key, e.val, _, _, (hf e.key e.val).2 ⟨e, hem, rfl, rfl⟩, hrun, ⟨es, clock, since, seen.push e.born, clock, hb', hs, hk, hf, hset.1, hold, rfl, hsk, hsk, fun x hx hsn => ?_⟩, by rw [← hcnt]; exact left_shrinks es seen e he, ?_,
      run_entry_at _ r b since seen es clock e hset.1 hb' hem ((stamped_iff es clock).1 hs).2.1⟩
    · by_cases hb2 : x.born = e.born
      · refine .inl ?_
        have hnd := ((stamped_iff es clock).1 hs).2.1
        obtain ⟨i, hi, ei⟩ := List.getElem_of_mem hx
        obtain ⟨j, hj, ej⟩ := List.getElem_of_mem hem
        have : i = j := by
          rcases Nat.lt_trichotomy i j with h | h | h
          · have := List.pairwise_iff_getElem.1 hnd i j (by simpa using hi) (by simpa using hj) h
            simp only [List.getElem_map] at this
            rw [ei, ej] at this; exact absurd hb2 this
          · exact h
          · have := List.pairwise_iff_getElem.1 hnd j i (by simpa using hj) (by simpa using hi) h
            simp only [List.getElem_map] at this
            rw [ei, ej] at this; exact absurd hb2.symm this
        subst this
        rw [← ei, ej]
      · refine .inr (hK x hx ?_)
        simp only [Array.contains_push, Bool.or_eq_true] at hsn
        rcases hsn with h | h
        · exact h
        · exact absurd (by simpa using h) hb2
    · rcases hal with rfl | rfl <;> exact ⟨rfl, rfl, rfl, by simp [setBlock], fun i _ hi => hset.2 i (fun e1 => hi (by rw [e1]))⟩
/-- A key that was told is deleted. -/
theorem SweepIs.delete (h : SweepIs P k w b r f K cnt) {t e ty : TypeId} (KK : Keyed P k) (ht : P.underlying t = some (.map k e)) {key : Value} {kl : Lit} (hkey : keyOf P k key = some kl) :
    ∃ w' cnt', (Builtin.delete_ #[t, k] ty #[.map (some b), key]).run P w = .ok (.tuple #[]) w' ∧ SweepIs P k w' b r (updK f key none) (fun y => K y ∧ y ≠ key) cnt' ∧ cnt' ≤ cnt ∧ w.grownBy w' (some b) := by
  obtain ⟨es, clock, since, seen, c0, hb, hs, hk, hf, hr, hold, hcnt, hsc, hsk, hK⟩ := h
  have hne : r ≠ b := fun e => by rw [e, hb] at hr; cases hr
  rcases MapIs.find KK hk hf hkey w with ⟨h0, h1, h2⟩ | ⟨j, e0, h0, h1, h2, h3⟩
  · refine ⟨setBlock w b (.map es clock), cnt, ?_, ⟨es, clock, since, seen, c0, heap_setBlock_same hb _, hs, hk, fun key' v => ?_, (heap_setBlock_other hb _ hne).trans hr, hold, hcnt, hsc, hsk, fun x hx hsn => ⟨hK x hx hsn, h2 x hx⟩⟩, Nat.le_refl _, grown_setBlock hb _⟩
    · simp [Builtin.delete_, run_underlying ht, MapKept.run_getObj_map hb, KK.check w _ hkey, h1, MapKept.run_setObj_map _ hb, Result.andThen, setBlock]
    · by_cases he : key' = key
      · subst he
        rw [updK_same]
        constructor
        · intro h; cases h
        · rintro ⟨x, hx, e1, _⟩; exact absurd e1 (h2 x hx)
      · rw [updK_ne _ _ _ he]; exact hf key' v
  · have hjl : j < es.toList.length := (List.getElem?_eq_some_iff.1 h2).1
    have hjs : j < es.size := by simpa using hjl
    have hsub : (es.eraseIdxIfInBounds j).toList = es.toList.eraseIdx j := by
      unfold Array.eraseIdxIfInBounds
      rw [dif_pos hjs]
      simp
    have hmem : ∀ x, x ∈ es.toList.eraseIdx j ↔ x ∈ es.toList ∧ x.key ≠ key := by
      intro x
      have hn' : es.toList.Pairwise (fun x y => x.key ≠ y.key) := ((stamped_iff es clock).1 hs).2.2
      obtain ⟨_, ej⟩ := List.getElem?_eq_some_iff.1 h2
      constructor
      · intro hx
        obtain ⟨i, hne, hi⟩ := List.mem_eraseIdx_iff_getElem?.1 hx
        obtain ⟨hi', ei⟩ := List.getElem?_eq_some_iff.1 hi
        refine ⟨List.mem_of_getElem? hi, ?_⟩
        rw [← h3, ← ei, ← ej]
        rcases Nat.lt_or_gt_of_ne hne with h | h
        · exact List.pairwise_iff_getElem.1 hn' i j hi' hjl h
        · exact (List.pairwise_iff_getElem.1 hn' j i hjl hi' h).symm
      · rintro ⟨hx, hne⟩
        obtain ⟨i, hi⟩ := List.mem_iff_getElem?.1 hx
        refine List.mem_eraseIdx_iff_getElem?.2 ⟨i, ?_, hi⟩
        rintro rfl
        rw [h2] at hi; injection hi with hi
        exact hne (by rw [← hi]; exact h3)
    refine ⟨setBlock w b (.map (es.eraseIdxIfInBounds j) clock), _, ?_, ⟨_, clock, since, seen, c0, heap_setBlock_same hb _, stamped_erase hs j, ?_, fun key' v => ?_, (heap_setBlock_other hb _ hne).trans hr, ?_, rfl, hsc, hsk, ?_⟩, ?_, grown_setBlock hb _⟩
    · simp [Builtin.delete_, run_underlying ht, MapKept.run_getObj_map hb, KK.check w _ hkey, h1, MapKept.run_setObj_map _ hb, Result.andThen, setBlock]
    · intro x hx
      rw [hsub, hmem] at hx
      exact hk x hx.1
    · rw [hsub]
      by_cases he : key' = key
      · subst he
        rw [updK_same]
        constructor
        · intro h; cases h
        · rintro ⟨x, hx, e1, _⟩
          exact absurd e1 ((hmem x).1 hx).2
      · rw [updK_ne _ _ _ he, hf]
        constructor
        · rintro ⟨x, hx, e1, e2⟩
          exact ⟨x, (hmem x).2 ⟨hx, by rw [e1]; exact he⟩, e1, e2⟩
        · rintro ⟨x, hx, e1, e2⟩
          exact ⟨x, ((hmem x).1 hx).1, e1, e2⟩
    · intro x hx
      rw [hsub, hmem] at hx
      exact hold x hx.1
    · intro x hx hsn
      rw [hsub, hmem] at hx
      exact ⟨hK x hx.1 hsn, hx.2⟩
    · rw [← hcnt]
      have e1 : ∀ a : Array MapEntry, (leftOf a seen).size = (a.toList.filter fun e => !seen.contains e.born).length := fun a => by
        unfold leftOf
        rw [← Array.length_toList, Array.toList_filter]
      rw [e1, e1, hsub]
      exact (List.Sublist.filter _ (List.eraseIdx_sublist _ _)).length_le
theorem SweepIs.left_eq (h : SweepIs P k w b r f K cnt) : w.rangeLeft b r = cnt := by
  obtain ⟨es, clock, since, seen, c0, h1, hs, hk, hf, h2, hold, hcnt, _⟩ := h
  unfold World.rangeLeft
  rw [h1, h2]; exact hcnt
variable {ops : Array Oper} {rest : List Oper} {o : Oper} {a : Act} {Q : Exit → Act → World → Prop}
/-- 'range m'. -/
theorem wpList_range_sweep (hg : o.guard = none) (m : Operand) (t : TypeId) (hop : o.op = Op.range t m) (k e : TypeId) (ht : P.underlying t = some (.map k e)) (b n : Nat) (f : Value → Option Value)
    (hm : a.eval m = .map (some b)) (h : MapIs P k w b n f)
    (hK : ∀ w', SweepIs P k w' b w.heap.size f (fun _ => False) n → Below w.heap.size w w' → wpList P ops Q rest (a.put o.dst (.pointer (some ⟨w.heap.size, 0, none⟩))) w') :
    wpList P ops Q (o :: rest) a w := by
  refine wpList_plain hg fun K' hK' => ?_
  obtain ⟨w', hrun, r1, r2⟩ := h.sweep ht
  unfold Oper.wp
  simp [execOp, hop, hm, hrun, Result.andThen]
  exact hK' _ _ (hK w' r1 r2)
/-- The step. -/
theorem wpList_next_sweep (hg : o.guard = none) (it : Operand) (hop : o.op = Op.next it false) (k : TypeId) (b r : Nat) (f : Value → Option Value) (K : Value → Prop) (cnt : Nat) (hit : a.eval it = .pointer (some ⟨r, 0, none⟩)) (h : SweepIs P k w b r f K cnt)
    (hDone : cnt = 0 → (∀ key v, f key = some v → K key) → wpList P ops Q rest (a.put o.dst (.tuple #[.bool false])) w)
    (hMore : ∀ (key v : Value) (w' : World) (cnt' : Nat), f key = some v → SweepIs P k w' b r f (fun y => y = key ∨ K y) cnt' → cnt' < cnt → w.grownBy w' (some r) →
      (Instr.entry (.pointer (some ⟨r, 0, none⟩))).run P w' = .ok (.tuple #[key, v]) w' → wpList P ops Q rest (a.put o.dst (.tuple #[.bool true, key, v])) w') :
    wpList P ops Q (o :: rest) a w := by
  refine wpList_plain hg fun K' hK' => ?_
  unfold Oper.wp
  rcases h.next o.type with ⟨h0, hrun, hall⟩ | ⟨key, v, w', cnt', hfk, hrun, hit', hlt, hgr, hen⟩
  · simp [execOp, hop, hit, hrun, Result.andThen]
    exact hK' _ _ (hDone h0 hall)
  · simp [execOp, hop, hit, hrun, Result.andThen]
    exact hK' _ _ (hMore key v w' cnt' hfk hit' hlt hgr hen)
end
end Go.Proofs.Ytomigaldomiefaa
