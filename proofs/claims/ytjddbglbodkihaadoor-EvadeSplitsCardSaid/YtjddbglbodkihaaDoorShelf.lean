/- The contract of slices.Sort at []int, as the shelf's command prints it. Condition: the slice reads as numbers. -/
import Derived.Shelf.Sort.Plain
import Derived.Test.YtjddbglbodkihaaDoorProg
namespace Go.Proofs.YtjddbglbodkihaaDoor
open Go.Shelf
def lays189_ren : Go.Shelf.Ren := ⟨fun | 189 => 56 | 125 => 92 | 257 => 91 | 128 => 112 | 129 => 113 | 294 => 103 | 295 => 104 | 296 => 105 | 297 => 106 | 298 => 107 | 299 => 108 | 216 => 109 | 300 => 110 | 301 => 111 | 328 => 118 | 329 => 119 | 330 => 120 | 331 => 121 | 332 => 122 | 215 => 123 | 343 => 124 | n => n, fun | 28 => 22 | 3 => 3 | 46 => 58 | 0 => 0 | 51 => 127 | 53 => 70 | 4 => 4 | 183 => 121 | 182 => 120 | 131 => 51 | 5 => 5 | 9 => 9 | 218 => 130 | 222 => 134 | 228 => 136 | 229 => 137 | n => n, fun | n => n⟩
theorem lays189 : Go.Proofs.Lays.n189 Tryd.prog lays189_ren := {
  mixed := by kernel_rfl
  f125 := Tryd.func92.trans (congrArg some (by kernel_rfl))
  f128 := Tryd.func112.trans (congrArg some (by kernel_rfl))
  f129 := Tryd.func113.trans (congrArg some (by kernel_rfl))
  f189 := Tryd.func56.trans (congrArg some (by kernel_rfl))
  f215 := Tryd.func123.trans (congrArg some (by kernel_rfl))
  f216 := Tryd.func109.trans (congrArg some (by kernel_rfl))
  f257 := Tryd.func91.trans (congrArg some (by kernel_rfl))
  f294 := Tryd.func103.trans (congrArg some (by kernel_rfl))
  f295 := Tryd.func104.trans (congrArg some (by kernel_rfl))
  f296 := Tryd.func105.trans (congrArg some (by kernel_rfl))
  f297 := Tryd.func106.trans (congrArg some (by kernel_rfl))
  f298 := Tryd.func107.trans (congrArg some (by kernel_rfl))
  f299 := Tryd.func108.trans (congrArg some (by kernel_rfl))
  f300 := Tryd.func110.trans (congrArg some (by kernel_rfl))
  f301 := Tryd.func111.trans (congrArg some (by kernel_rfl))
  f328 := Tryd.func118.trans (congrArg some (by kernel_rfl))
  f329 := Tryd.func119.trans (congrArg some (by kernel_rfl))
  f330 := Tryd.func120.trans (congrArg some (by kernel_rfl))
  f331 := Tryd.func121.trans (congrArg some (by kernel_rfl))
  f332 := Tryd.func122.trans (congrArg some (by kernel_rfl))
  f343 := Tryd.func124.trans (congrArg some (by kernel_rfl))
  t0 := Tryd.underlying0
  a0 := Tryd.isAgg0
  z0 := Tryd.sizeOf0
  v0 := Tryd.zeroValue0
  t3 := Tryd.underlying3
  a3 := Tryd.isAgg3
  z3 := Tryd.sizeOf3
  v3 := Tryd.zeroValue3
  t4 := Tryd.underlying4
  a4 := Tryd.isAgg4
  z4 := Tryd.sizeOf4
  v4 := Tryd.zeroValue4
  t5 := Tryd.underlying5
  a5 := Tryd.isAgg5
  z5 := Tryd.sizeOf5
  v5 := Tryd.zeroValue5
  t9 := Tryd.underlying9
  a9 := Tryd.isAgg9
  z9 := Tryd.sizeOf9
  v9 := Tryd.zeroValue9
  t28 := Tryd.underlying22
  a28 := Tryd.isAgg22
  z28 := Tryd.sizeOf22
  v28 := Tryd.zeroValue22
  t46 := Tryd.underlying58
  a46 := Tryd.isAgg58
  z46 := Tryd.sizeOf58
  v46 := Tryd.zeroValue58
  t51 := Tryd.underlying127
  a51 := Tryd.isAgg127
  z51 := Tryd.sizeOf127
  v51 := Tryd.zeroValue127
  t53 := Tryd.underlying70
  a53 := Tryd.isAgg70
  z53 := Tryd.sizeOf70
  v53 := Tryd.zeroValue70
  t131 := Tryd.underlying51
  a131 := Tryd.isAgg51
  z131 := Tryd.sizeOf51
  v131 := Tryd.zeroValue51
  t182 := Tryd.underlying120
  a182 := Tryd.isAgg120
  z182 := Tryd.sizeOf120
  v182 := Tryd.zeroValue120
  t183 := Tryd.underlying121
  a183 := Tryd.isAgg121
  z183 := Tryd.sizeOf121
  v183 := Tryd.zeroValue121
  t218 := Tryd.underlying130
  a218 := Tryd.isAgg130
  z218 := Tryd.sizeOf130
  v218 := Tryd.zeroValue130
  t222 := Tryd.underlying134
  a222 := Tryd.isAgg134
  z222 := Tryd.sizeOf134
  v222 := Tryd.zeroValue134
  t228 := Tryd.underlying136
  a228 := Tryd.isAgg136
  z228 := Tryd.sizeOf136
  v228 := Tryd.zeroValue136
  t229 := Tryd.underlying137
  a229 := Tryd.isAgg137
  z229 := Tryd.sizeOf137
  v229 := Tryd.zeroValue137 }
open Go.Sort Go.RowKit in
theorem slicesSort (blk off cap : Nat) (zs : List Int) (w : World) (hH : Holds (Value.int .i64) w blk off zs.toArray) (hblk : blk < w.heap.size) (hsz : zs.length < 4611686018427387904) :
    Calls Tryd.prog 56 #[.slice (some ⟨blk, off, none⟩) zs.length cap] w fun e w' =>
      e = .returned (.tuple #[]) ∧ ∃ n os, w' = grow (putRow (Value.int .i64) (Sort.ahead w n) blk off (zs.mergeSort fun x y => decide (x ≤ y)).toArray) os := Any.slices_Sort_int lays189 blk off cap zs w hH hblk hsz
end Go.Proofs.YtjddbglbodkihaaDoor
