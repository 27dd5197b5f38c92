/- slices.Sort at []int64 off the shelf, in plain words (lay-plain.mjs). -/
import Derived.Shelf.SortG.Plain
import Derived.Shelf.SortG.SortNone
import Derived.Test.YtgjpnamckkedfaaProg
namespace Go.Proofs
open Go.Shelf
def Try.sortI_ren : Go.Shelf.Ren := ⟨fun | 53 => 32 | 64 => 40 | 63 => 39 | 78 => 51 | 79 => 52 | 70 => 42 | 71 => 43 | 72 => 44 | 73 => 45 | 74 => 46 | 75 => 47 | 59 => 48 | 76 => 49 | 77 => 50 | 88 => 53 | 89 => 54 | 90 => 55 | 91 => 56 | 92 => 57 | 68 => 58 | 96 => 59 | n => n, fun | 22 => 25 | 23 => 2 | 3 => 3 | 51 => 60 | 0 => 0 | 67 => 75 | 69 => 43 | 4 => 4 | 61 => 67 | 60 => 66 | 44 => 72 | 5 => 5 | 9 => 9 | 75 => 77 | 79 => 81 | 83 => 83 | 84 => 84 | n => n, fun | n => n⟩
theorem Try.sortI : Go.Proofs.SlLaysN.n53 Try.prog Try.sortI_ren := {
  mixed := by kernel_rfl
  f53 := ⟨Try.f32.name, by decide, Try.func32.trans (congrArg some (by kernel_rfl))⟩
  f59 := ⟨Try.f48.name, by decide, Try.func48.trans (congrArg some (by kernel_rfl))⟩
  f63 := ⟨Try.f39.name, by decide, Try.func39.trans (congrArg some (by kernel_rfl))⟩
  f64 := Try.func40.trans (congrArg some (by kernel_rfl))
  f68 := ⟨Try.f58.name, by decide, Try.func58.trans (congrArg some (by kernel_rfl))⟩
  f70 := ⟨Try.f42.name, by decide, Try.func42.trans (congrArg some (by kernel_rfl))⟩
  f71 := ⟨Try.f43.name, by decide, Try.func43.trans (congrArg some (by kernel_rfl))⟩
  f72 := ⟨Try.f44.name, by decide, Try.func44.trans (congrArg some (by kernel_rfl))⟩
  f73 := ⟨Try.f45.name, by decide, Try.func45.trans (congrArg some (by kernel_rfl))⟩
  f74 := ⟨Try.f46.name, by decide, Try.func46.trans (congrArg some (by kernel_rfl))⟩
  f75 := ⟨Try.f47.name, by decide, Try.func47.trans (congrArg some (by kernel_rfl))⟩
  f76 := ⟨Try.f49.name, by decide, Try.func49.trans (congrArg some (by kernel_rfl))⟩
  f77 := ⟨Try.f50.name, by decide, Try.func50.trans (congrArg some (by kernel_rfl))⟩
  f78 := Try.func51.trans (congrArg some (by kernel_rfl))
  f79 := Try.func52.trans (congrArg some (by kernel_rfl))
  f88 := ⟨Try.f53.name, by decide, Try.func53.trans (congrArg some (by kernel_rfl))⟩
  f89 := Try.func54.trans (congrArg some (by kernel_rfl))
  f90 := Try.func55.trans (congrArg some (by kernel_rfl))
  f91 := ⟨Try.f56.name, by decide, Try.func56.trans (congrArg some (by kernel_rfl))⟩
  f92 := ⟨Try.f57.name, by decide, Try.func57.trans (congrArg some (by kernel_rfl))⟩
  f96 := ⟨Try.f59.name, by decide, Try.func59.trans (congrArg some (by kernel_rfl))⟩
  t0 := Try.underlying0
  a0 := Try.isAgg0
  z0 := Try.sizeOf0
  v0 := Try.zeroValue0
  t3 := Try.underlying3
  a3 := Try.isAgg3
  z3 := Try.sizeOf3
  v3 := Try.zeroValue3
  t4 := Try.underlying4
  a4 := Try.isAgg4
  z4 := Try.sizeOf4
  v4 := Try.zeroValue4
  t5 := Try.underlying5
  a5 := Try.isAgg5
  z5 := Try.sizeOf5
  v5 := Try.zeroValue5
  t9 := Try.underlying9
  a9 := Try.isAgg9
  z9 := Try.sizeOf9
  v9 := Try.zeroValue9
  t22 := Try.underlying25
  a22 := Try.isAgg25
  z22 := Try.sizeOf25
  v22 := Try.zeroValue25
  t23 := Try.underlying2
  a23 := Try.isAgg2
  z23 := Try.sizeOf2
  v23 := Try.zeroValue2
  t44 := Try.underlying72
  a44 := Try.isAgg72
  z44 := Try.sizeOf72
  v44 := Try.zeroValue72
  t51 := Try.underlying60
  a51 := Try.isAgg60
  z51 := Try.sizeOf60
  v51 := Try.zeroValue60
  t60 := Try.underlying66
  a60 := Try.isAgg66
  z60 := Try.sizeOf66
  v60 := Try.zeroValue66
  t61 := Try.underlying67
  a61 := Try.isAgg67
  z61 := Try.sizeOf67
  v61 := Try.zeroValue67
  t67 := Try.underlying75
  a67 := Try.isAgg75
  z67 := Try.sizeOf75
  v67 := Try.zeroValue75
  t69 := Try.underlying43
  a69 := Try.isAgg43
  z69 := Try.sizeOf43
  v69 := Try.zeroValue43
  t75 := Try.underlying77
  a75 := Try.isAgg77
  z75 := Try.sizeOf77
  v75 := Try.zeroValue77
  t79 := Try.underlying81
  a79 := Try.isAgg81
  z79 := Try.sizeOf81
  v79 := Try.zeroValue81
  t83 := Try.underlying83
  a83 := Try.isAgg83
  z83 := Try.sizeOf83
  v83 := Try.zeroValue83
  t84 := Try.underlying84
  a84 := Try.isAgg84
  z84 := Try.sizeOf84
  v84 := Try.zeroValue84 }
/-- slices.Sort. -/
theorem Try.slices_Sort_int (blk off cap : Nat) (zs : List Int) (w : World) (hH : Go.Sort.Holds (Value.int .i64) w blk off zs.toArray) (hblk : blk < w.heap.size) (hsz : zs.length < 4611686018427387904) :
    Calls Try.prog 32 #[.slice (some ⟨blk, off, none⟩) zs.length cap] w fun e w' =>
      e = .returned (.tuple #[]) ∧ ∃ n os, w' = Go.Sort.grow (Go.Sort.putRow (Value.int .i64) (Go.Sort.ahead w n) blk off (zs.mergeSort fun x y => decide (x ≤ y)).toArray) os := AnyG.slices_Sort_int Try.sortI blk off cap zs w hH hblk hsz
/-- slices.Sort of none. -/
theorem Try.slices_Sort_int_none (p : Option Addr) (cap : Nat) (w : World) :
    Calls Try.prog 32 #[.slice p 0 cap] w fun e w' => e = .returned (.tuple #[]) ∧ w' = w := AnyG.slices_Sort_int_none Try.sortI p cap w
end Go.Proofs
