/- The contract of the sort of a list of integers, laid at this program (by the tools of the kit). -/
import Derived.Shelf.Sort.Plain
import Derived.Test.YtaffbiibcfeigaaGreatProg
namespace Go.Proofs
open Go.Shelf
def Tryz.lays189_ren : Go.Shelf.Ren := ⟨fun | 189 => 140 | 125 => 203 | 257 => 202 | 128 => 250 | 129 => 251 | 294 => 241 | 295 => 242 | 296 => 243 | 297 => 244 | 298 => 245 | 299 => 246 | 216 => 247 | 300 => 248 | 301 => 249 | 328 => 262 | 329 => 263 | 330 => 264 | 331 => 265 | 332 => 266 | 215 => 267 | 343 => 270 | n => n, fun | 28 => 27 | 3 => 3 | 46 => 52 | 0 => 0 | 51 => 70 | 53 => 374 | 4 => 4 | 183 => 367 | 182 => 366 | 131 => 358 | 5 => 5 | 9 => 9 | 218 => 386 | 222 => 390 | 228 => 396 | 229 => 222 | n => n, fun | n => n⟩
theorem Tryz.lays189 : Go.Proofs.Lays.n189 Tryz.prog Tryz.lays189_ren := {
  mixed := by kernel_rfl
  f125 := Tryz.func203.trans (congrArg some (by kernel_rfl))
  f128 := Tryz.func250.trans (congrArg some (by kernel_rfl))
  f129 := Tryz.func251.trans (congrArg some (by kernel_rfl))
  f189 := Tryz.func140.trans (congrArg some (by kernel_rfl))
  f215 := Tryz.func267.trans (congrArg some (by kernel_rfl))
  f216 := Tryz.func247.trans (congrArg some (by kernel_rfl))
  f257 := Tryz.func202.trans (congrArg some (by kernel_rfl))
  f294 := Tryz.func241.trans (congrArg some (by kernel_rfl))
  f295 := Tryz.func242.trans (congrArg some (by kernel_rfl))
  f296 := Tryz.func243.trans (congrArg some (by kernel_rfl))
  f297 := Tryz.func244.trans (congrArg some (by kernel_rfl))
  f298 := Tryz.func245.trans (congrArg some (by kernel_rfl))
  f299 := Tryz.func246.trans (congrArg some (by kernel_rfl))
  f300 := Tryz.func248.trans (congrArg some (by kernel_rfl))
  f301 := Tryz.func249.trans (congrArg some (by kernel_rfl))
  f328 := Tryz.func262.trans (congrArg some (by kernel_rfl))
  f329 := Tryz.func263.trans (congrArg some (by kernel_rfl))
  f330 := Tryz.func264.trans (congrArg some (by kernel_rfl))
  f331 := Tryz.func265.trans (congrArg some (by kernel_rfl))
  f332 := Tryz.func266.trans (congrArg some (by kernel_rfl))
  f343 := Tryz.func270.trans (congrArg some (by kernel_rfl))
  t0 := Tryz.underlying0
  a0 := Tryz.isAgg0
  z0 := Tryz.sizeOf0
  v0 := Tryz.zeroValue0
  t3 := Tryz.underlying3
  a3 := Tryz.isAgg3
  z3 := Tryz.sizeOf3
  v3 := Tryz.zeroValue3
  t4 := Tryz.underlying4
  a4 := Tryz.isAgg4
  z4 := Tryz.sizeOf4
  v4 := Tryz.zeroValue4
  t5 := Tryz.underlying5
  a5 := Tryz.isAgg5
  z5 := Tryz.sizeOf5
  v5 := Tryz.zeroValue5
  t9 := Tryz.underlying9
  a9 := Tryz.isAgg9
  z9 := Tryz.sizeOf9
  v9 := Tryz.zeroValue9
  t28 := Tryz.underlying27
  a28 := Tryz.isAgg27
  z28 := Tryz.sizeOf27
  v28 := Tryz.zeroValue27
  t46 := Tryz.underlying52
  a46 := Tryz.isAgg52
  z46 := Tryz.sizeOf52
  v46 := Tryz.zeroValue52
  t51 := Tryz.underlying70
  a51 := Tryz.isAgg70
  z51 := Tryz.sizeOf70
  v51 := Tryz.zeroValue70
  t53 := Tryz.underlying374
  a53 := Tryz.isAgg374
  z53 := Tryz.sizeOf374
  v53 := Tryz.zeroValue374
  t131 := Tryz.underlying358
  a131 := Tryz.isAgg358
  z131 := Tryz.sizeOf358
  v131 := Tryz.zeroValue358
  t182 := Tryz.underlying366
  a182 := Tryz.isAgg366
  z182 := Tryz.sizeOf366
  v182 := Tryz.zeroValue366
  t183 := Tryz.underlying367
  a183 := Tryz.isAgg367
  z183 := Tryz.sizeOf367
  v183 := Tryz.zeroValue367
  t218 := Tryz.underlying386
  a218 := Tryz.isAgg386
  z218 := Tryz.sizeOf386
  v218 := Tryz.zeroValue386
  t222 := Tryz.underlying390
  a222 := Tryz.isAgg390
  z222 := Tryz.sizeOf390
  v222 := Tryz.zeroValue390
  t228 := Tryz.underlying396
  a228 := Tryz.isAgg396
  z228 := Tryz.sizeOf396
  v228 := Tryz.zeroValue396
  t229 := Tryz.underlying222
  a229 := Tryz.isAgg222
  z229 := Tryz.sizeOf222
  v229 := Tryz.zeroValue222 }
open Go.Sort Go.RowKit in
theorem Tryz.slices_Sort_int (blk off cap : Nat) (zs : List Int) (w : World) (hH : Holds (Value.int .i64) w blk off zs.toArray) (hblk : blk < w.heap.size) (hsz : zs.length < 4611686018427387904) :
    Calls Tryz.prog 140 #[.slice (some ⟨blk, off, none⟩) zs.length cap] w fun e w' =>
      e = .returned (.tuple #[]) ∧ ∃ n os, w' = grow (putRow (Value.int .i64) (Sort.ahead w n) blk off (zs.mergeSort fun x y => decide (x ≤ y)).toArray) os := Any.slices_Sort_int Tryz.lays189 blk off cap zs w hH hblk hsz
end Go.Proofs
