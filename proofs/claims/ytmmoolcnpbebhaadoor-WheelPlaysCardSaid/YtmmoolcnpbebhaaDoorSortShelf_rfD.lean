/- The contract of slices.Sort at []int, laid by the shelf's tools (lay-shelf.mjs, lay-plain.mjs) over this seat's program. -/
import Derived.Shelf.Sort.Plain
import Derived.Shelf.Slices.In.SortNone
import Derived.Test.YtmmoolcnpbebhaaDoorChecked
namespace Go.Proofs
open Go.Shelf
def Tryd.lays189_ren : Go.Shelf.Ren := ⟨fun | 189 => 18 | 125 => 23 | 257 => 22 | 128 => 35 | 129 => 36 | 294 => 26 | 295 => 27 | 296 => 28 | 297 => 29 | 298 => 30 | 299 => 31 | 216 => 32 | 300 => 33 | 301 => 34 | 328 => 41 | 329 => 42 | 330 => 43 | 331 => 44 | 332 => 45 | 215 => 46 | 343 => 50 | n => n, fun | 28 => 29 | 3 => 3 | 46 => 52 | 0 => 0 | 51 => 65 | 53 => 67 | 4 => 4 | 183 => 58 | 182 => 57 | 131 => 44 | 5 => 5 | 9 => 9 | 218 => 80 | 222 => 84 | 228 => 100 | 229 => 101 | n => n, fun | n => n⟩
theorem Tryd.lays189 : Go.Proofs.Lays.n189 Tryd.prog Tryd.lays189_ren := {
  mixed := by kernel_rfl
  f125 := Tryd.func23.trans (congrArg some (by kernel_rfl))
  f128 := Tryd.func35.trans (congrArg some (by kernel_rfl))
  f129 := Tryd.func36.trans (congrArg some (by kernel_rfl))
  f189 := Tryd.func18.trans (congrArg some (by kernel_rfl))
  f215 := Tryd.func46.trans (congrArg some (by kernel_rfl))
  f216 := Tryd.func32.trans (congrArg some (by kernel_rfl))
  f257 := Tryd.func22.trans (congrArg some (by kernel_rfl))
  f294 := Tryd.func26.trans (congrArg some (by kernel_rfl))
  f295 := Tryd.func27.trans (congrArg some (by kernel_rfl))
  f296 := Tryd.func28.trans (congrArg some (by kernel_rfl))
  f297 := Tryd.func29.trans (congrArg some (by kernel_rfl))
  f298 := Tryd.func30.trans (congrArg some (by kernel_rfl))
  f299 := Tryd.func31.trans (congrArg some (by kernel_rfl))
  f300 := Tryd.func33.trans (congrArg some (by kernel_rfl))
  f301 := Tryd.func34.trans (congrArg some (by kernel_rfl))
  f328 := Tryd.func41.trans (congrArg some (by kernel_rfl))
  f329 := Tryd.func42.trans (congrArg some (by kernel_rfl))
  f330 := Tryd.func43.trans (congrArg some (by kernel_rfl))
  f331 := Tryd.func44.trans (congrArg some (by kernel_rfl))
  f332 := Tryd.func45.trans (congrArg some (by kernel_rfl))
  f343 := Tryd.func50.trans (congrArg some (by kernel_rfl))
  t0 := Tryd.underlying0
  a0 := Tryd.isAgg0
  z0 := Tryd.sizeOf0
  v0 := Tryd.zeroValue0
  t3 := Tryd.underlying3
  a3 := Tryd.isAgg3
  z3 := Tryd.sizeOf3
  v3 := Tryd.zeroValue3
  t4 := Tryd.underlying4
  a4 := Tryd.isAgg4
  z4 := Tryd.sizeOf4
  v4 := Tryd.zeroValue4
  t5 := Tryd.underlying5
  a5 := Tryd.isAgg5
  z5 := Tryd.sizeOf5
  v5 := Tryd.zeroValue5
  t9 := Tryd.underlying9
  a9 := Tryd.isAgg9
  z9 := Tryd.sizeOf9
  v9 := Tryd.zeroValue9
  t28 := Tryd.underlying29
  a28 := Tryd.isAgg29
  z28 := Tryd.sizeOf29
  v28 := Tryd.zeroValue29
  t46 := Tryd.underlying52
  a46 := Tryd.isAgg52
  z46 := Tryd.sizeOf52
  v46 := Tryd.zeroValue52
  t51 := Tryd.underlying65
  a51 := Tryd.isAgg65
  z51 := Tryd.sizeOf65
  v51 := Tryd.zeroValue65
  t53 := Tryd.underlying67
  a53 := Tryd.isAgg67
  z53 := Tryd.sizeOf67
  v53 := Tryd.zeroValue67
  t131 := Tryd.underlying44
  a131 := Tryd.isAgg44
  z131 := Tryd.sizeOf44
  v131 := Tryd.zeroValue44
  t182 := Tryd.underlying57
  a182 := Tryd.isAgg57
  z182 := Tryd.sizeOf57
  v182 := Tryd.zeroValue57
  t183 := Tryd.underlying58
  a183 := Tryd.isAgg58
  z183 := Tryd.sizeOf58
  v183 := Tryd.zeroValue58
  t218 := Tryd.underlying80
  a218 := Tryd.isAgg80
  z218 := Tryd.sizeOf80
  v218 := Tryd.zeroValue80
  t222 := Tryd.underlying84
  a222 := Tryd.isAgg84
  z222 := Tryd.sizeOf84
  v222 := Tryd.zeroValue84
  t228 := Tryd.underlying100
  a228 := Tryd.isAgg100
  z228 := Tryd.sizeOf100
  v228 := Tryd.zeroValue100
  t229 := Tryd.underlying101
  a229 := Tryd.isAgg101
  z229 := Tryd.sizeOf101
  v229 := Tryd.zeroValue101 }
open Go.Sort Go.RowKit in
theorem Tryd.slices_Sort_int (blk off cap : Nat) (zs : List Int) (w : World) (hH : Holds (Value.int .i64) w blk off zs.toArray) (hblk : blk < w.heap.size) (hsz : zs.length < 4611686018427387904) :
    Calls Tryd.prog 18 #[.slice (some ⟨blk, off, none⟩) zs.length cap] w fun e w' =>
      e = .returned (.tuple #[]) ∧ ∃ n os, w' = grow (putRow (Value.int .i64) (Sort.ahead w n) blk off (zs.mergeSort fun x y => decide (x ≤ y)).toArray) os := Any.slices_Sort_int Tryd.lays189 blk off cap zs w hH hblk hsz
open Go.RowKit Go.Sort in
/-- .. and plain. (LAID: no walk: one application.) -/
theorem Tryd.slices_Sort_int_none (p : Option Addr) (cap : Nat) (w : World) :
    Calls Tryd.prog 18 #[.slice p 0 cap] w fun e w' => e = .returned (.tuple #[]) ∧ w' = w := Any.slices_Sort_int_none Tryd.lays189 p cap w
end Go.Proofs
