/- slices.Sort at []int64 off the shelf, in plain words (lay-plain.mjs). -/
import Derived.Shelf.SortG.Plain
import Derived.Shelf.SortG.SortNone
import Derived.Test.YtpblkgnmddmheaaProg
namespace Go.Proofs
open Go.Shelf
def Try.sortI_ren : Go.Shelf.Ren := ⟨fun | 53 => 30 | 64 => 38 | 63 => 37 | 78 => 49 | 79 => 50 | 70 => 40 | 71 => 41 | 72 => 42 | 73 => 43 | 74 => 44 | 75 => 45 | 59 => 46 | 76 => 47 | 77 => 48 | 88 => 51 | 89 => 52 | 90 => 53 | 91 => 54 | 92 => 55 | 68 => 56 | 96 => 57 | n => n, fun | 22 => 22 | 23 => 2 | 3 => 3 | 51 => 53 | 0 => 0 | 67 => 65 | 69 => 67 | 4 => 4 | 61 => 57 | 60 => 56 | 44 => 62 | 5 => 5 | 9 => 9 | 75 => 68 | 79 => 72 | 83 => 74 | 84 => 75 | n => n, fun | n => n⟩
theorem Try.sortI : Go.Proofs.SlLaysN.n53 Try.prog Try.sortI_ren := {
  mixed := by kernel_rfl
  f53 := ⟨Try.f30.name, by decide, Try.func30.trans (congrArg some (by kernel_rfl))⟩
  f59 := ⟨Try.f46.name, by decide, Try.func46.trans (congrArg some (by kernel_rfl))⟩
  f63 := ⟨Try.f37.name, by decide, Try.func37.trans (congrArg some (by kernel_rfl))⟩
  f64 := Try.func38.trans (congrArg some (by kernel_rfl))
  f68 := ⟨Try.f56.name, by decide, Try.func56.trans (congrArg some (by kernel_rfl))⟩
  f70 := ⟨Try.f40.name, by decide, Try.func40.trans (congrArg some (by kernel_rfl))⟩
  f71 := ⟨Try.f41.name, by decide, Try.func41.trans (congrArg some (by kernel_rfl))⟩
  f72 := ⟨Try.f42.name, by decide, Try.func42.trans (congrArg some (by kernel_rfl))⟩
  f73 := ⟨Try.f43.name, by decide, Try.func43.trans (congrArg some (by kernel_rfl))⟩
  f74 := ⟨Try.f44.name, by decide, Try.func44.trans (congrArg some (by kernel_rfl))⟩
  f75 := ⟨Try.f45.name, by decide, Try.func45.trans (congrArg some (by kernel_rfl))⟩
  f76 := ⟨Try.f47.name, by decide, Try.func47.trans (congrArg some (by kernel_rfl))⟩
  f77 := ⟨Try.f48.name, by decide, Try.func48.trans (congrArg some (by kernel_rfl))⟩
  f78 := Try.func49.trans (congrArg some (by kernel_rfl))
  f79 := Try.func50.trans (congrArg some (by kernel_rfl))
  f88 := ⟨Try.f51.name, by decide, Try.func51.trans (congrArg some (by kernel_rfl))⟩
  f89 := Try.func52.trans (congrArg some (by kernel_rfl))
  f90 := Try.func53.trans (congrArg some (by kernel_rfl))
  f91 := ⟨Try.f54.name, by decide, Try.func54.trans (congrArg some (by kernel_rfl))⟩
  f92 := ⟨Try.f55.name, by decide, Try.func55.trans (congrArg some (by kernel_rfl))⟩
  f96 := ⟨Try.f57.name, by decide, Try.func57.trans (congrArg some (by kernel_rfl))⟩
  t0 := Try.underlying0
  a0 := Try.isAgg0
  z0 := Try.sizeOf0
  v0 := Try.zeroValue0
  t3 := Try.underlying3
  a3 := Try.isAgg3
  z3 := Try.sizeOf3
  v3 := Try.zeroValue3
  t4 := Try.underlying4
  a4 := Try.isAgg4
  z4 := Try.sizeOf4
  v4 := Try.zeroValue4
  t5 := Try.underlying5
  a5 := Try.isAgg5
  z5 := Try.sizeOf5
  v5 := Try.zeroValue5
  t9 := Try.underlying9
  a9 := Try.isAgg9
  z9 := Try.sizeOf9
  v9 := Try.zeroValue9
  t22 := Try.underlying22
  a22 := Try.isAgg22
  z22 := Try.sizeOf22
  v22 := Try.zeroValue22
  t23 := Try.underlying2
  a23 := Try.isAgg2
  z23 := Try.sizeOf2
  v23 := Try.zeroValue2
  t44 := Try.underlying62
  a44 := Try.isAgg62
  z44 := Try.sizeOf62
  v44 := Try.zeroValue62
  t51 := Try.underlying53
  a51 := Try.isAgg53
  z51 := Try.sizeOf53
  v51 := Try.zeroValue53
  t60 := Try.underlying56
  a60 := Try.isAgg56
  z60 := Try.sizeOf56
  v60 := Try.zeroValue56
  t61 := Try.underlying57
  a61 := Try.isAgg57
  z61 := Try.sizeOf57
  v61 := Try.zeroValue57
  t67 := Try.underlying65
  a67 := Try.isAgg65
  z67 := Try.sizeOf65
  v67 := Try.zeroValue65
  t69 := Try.underlying67
  a69 := Try.isAgg67
  z69 := Try.sizeOf67
  v69 := Try.zeroValue67
  t75 := Try.underlying68
  a75 := Try.isAgg68
  z75 := Try.sizeOf68
  v75 := Try.zeroValue68
  t79 := Try.underlying72
  a79 := Try.isAgg72
  z79 := Try.sizeOf72
  v79 := Try.zeroValue72
  t83 := Try.underlying74
  a83 := Try.isAgg74
  z83 := Try.sizeOf74
  v83 := Try.zeroValue74
  t84 := Try.underlying75
  a84 := Try.isAgg75
  z84 := Try.sizeOf75
  v84 := Try.zeroValue75 }
/-- slices.Sort. -/
theorem Try.slices_Sort_int (blk off cap : Nat) (zs : List Int) (w : World) (hH : Go.Sort.Holds (Value.int .i64) w blk off zs.toArray) (hblk : blk < w.heap.size) (hsz : zs.length < 4611686018427387904) :
    Calls Try.prog 30 #[.slice (some ⟨blk, off, none⟩) zs.length cap] w fun e w' =>
      e = .returned (.tuple #[]) ∧ ∃ n os, w' = Go.Sort.grow (Go.Sort.putRow (Value.int .i64) (Go.Sort.ahead w n) blk off (zs.mergeSort fun x y => decide (x ≤ y)).toArray) os := AnyG.slices_Sort_int Try.sortI blk off cap zs w hH hblk hsz
/-- slices.Sort of none. -/
theorem Try.slices_Sort_int_none (p : Option Addr) (cap : Nat) (w : World) :
    Calls Try.prog 30 #[.slice p 0 cap] w fun e w' => e = .returned (.tuple #[]) ∧ w' = w := AnyG.slices_Sort_int_none Try.sortI p cap w
end Go.Proofs
