/- slices.Sort at sets: the shelf's contract laid at this program. -/
import Derived.Test.YtdejleegamcioaaGreatP19
import Derived.Shelf.SortM.Plain
namespace Go.Proofs.YtdejleegamcioaaGreat
open Go Go.Shelf
def sortRen : Go.Shelf.Ren := ⟨fun | 5 => 43 | 8 => 88 | 7 => 87 | 19 => 149 | 20 => 150 | 10 => 140 | 11 => 141 | 12 => 142 | 13 => 143 | 14 => 144 | 15 => 145 | 16 => 146 | 17 => 147 | 18 => 148 | 30 => 195 | 31 => 196 | 32 => 197 | 33 => 198 | 34 => 199 | 35 => 200 | 40 => 298 | n => n, fun | 23 => 31 | 25 => 23 | 3 => 3 | 32 => 173 | 22 => 31 | 0 => 0 | 44 => 233 | 46 => 235 | 4 => 4 | 36 => 226 | 35 => 225 | 41 => 116 | 5 => 5 | 9 => 9 | 53 => 295 | 57 => 299 | 63 => 372 | 64 => 373 | n => n, fun | n => n⟩
theorem sortLays : SlLaysM.n5 Tryz.prog sortRen where
 mixed := by kernel_rfl
 f5 := ⟨Tryz.f43.name, by decide, Tryz.func43.trans (congrArg some (by kernel_rfl))⟩
 f7 := ⟨Tryz.f87.name, by decide, Tryz.func87.trans (congrArg some (by kernel_rfl))⟩
 f8 := Tryz.func88.trans (congrArg some (by kernel_rfl))
 f10 := ⟨Tryz.f140.name, by decide, Tryz.func140.trans (congrArg some (by kernel_rfl))⟩
 f11 := ⟨Tryz.f141.name, by decide, Tryz.func141.trans (congrArg some (by kernel_rfl))⟩
 f12 := ⟨Tryz.f142.name, by decide, Tryz.func142.trans (congrArg some (by kernel_rfl))⟩
 f13 := ⟨Tryz.f143.name, by decide, Tryz.func143.trans (congrArg some (by kernel_rfl))⟩
 f14 := ⟨Tryz.f144.name, by decide, Tryz.func144.trans (congrArg some (by kernel_rfl))⟩
 f15 := ⟨Tryz.f145.name, by decide, Tryz.func145.trans (congrArg some (by kernel_rfl))⟩
 f16 := ⟨Tryz.f146.name, by decide, Tryz.func146.trans (congrArg some (by kernel_rfl))⟩
 f17 := ⟨Tryz.f147.name, by decide, Tryz.func147.trans (congrArg some (by kernel_rfl))⟩
 f18 := ⟨Tryz.f148.name, by decide, Tryz.func148.trans (congrArg some (by kernel_rfl))⟩
 f19 := Tryz.func149.trans (congrArg some (by kernel_rfl))
 f20 := Tryz.func150.trans (congrArg some (by kernel_rfl))
 f30 := ⟨Tryz.f195.name, by decide, Tryz.func195.trans (congrArg some (by kernel_rfl))⟩
 f31 := Tryz.func196.trans (congrArg some (by kernel_rfl))
 f32 := Tryz.func197.trans (congrArg some (by kernel_rfl))
 f33 := ⟨Tryz.f198.name, by decide, Tryz.func198.trans (congrArg some (by kernel_rfl))⟩
 f34 := ⟨Tryz.f199.name, by decide, Tryz.func199.trans (congrArg some (by kernel_rfl))⟩
 f35 := ⟨Tryz.f200.name, by decide, Tryz.func200.trans (congrArg some (by kernel_rfl))⟩
 f40 := ⟨Tryz.f298.name, by decide, Tryz.func298.trans (congrArg some (by kernel_rfl))⟩
 t0 := Tryz.underlying0
 a0 := Tryz.isAgg0
 z0 := Tryz.sizeOf0
 v0 := Tryz.zeroValue0
 t3 := Tryz.underlying3
 a3 := Tryz.isAgg3
 z3 := Tryz.sizeOf3
 v3 := Tryz.zeroValue3
 t4 := Tryz.underlying4
 a4 := Tryz.isAgg4
 z4 := Tryz.sizeOf4
 v4 := Tryz.zeroValue4
 t5 := Tryz.underlying5
 a5 := Tryz.isAgg5
 z5 := Tryz.sizeOf5
 v5 := Tryz.zeroValue5
 t9 := Tryz.underlying9
 a9 := Tryz.isAgg9
 z9 := Tryz.sizeOf9
 v9 := Tryz.zeroValue9
 t22 := Tryz.underlying31
 a22 := Tryz.isAgg31
 z22 := Tryz.sizeOf31
 v22 := Tryz.zeroValue31
 t23 := Tryz.underlying31
 a23 := Tryz.isAgg31
 z23 := Tryz.sizeOf31
 v23 := Tryz.zeroValue31
 t25 := Tryz.underlying23
 a25 := Tryz.isAgg23
 z25 := Tryz.sizeOf23
 v25 := Tryz.zeroValue23
 t32 := Tryz.underlying173
 a32 := Tryz.isAgg173
 z32 := Tryz.sizeOf173
 v32 := Tryz.zeroValue173
 t35 := Tryz.underlying225
 a35 := Tryz.isAgg225
 z35 := Tryz.sizeOf225
 v35 := Tryz.zeroValue225
 t36 := Tryz.underlying226
 a36 := Tryz.isAgg226
 z36 := Tryz.sizeOf226
 v36 := Tryz.zeroValue226
 t41 := Tryz.underlying116
 a41 := Tryz.isAgg116
 z41 := Tryz.sizeOf116
 v41 := Tryz.zeroValue116
 t44 := Tryz.underlying233
 a44 := Tryz.isAgg233
 z44 := Tryz.sizeOf233
 v44 := Tryz.zeroValue233
 t46 := Tryz.underlying235
 a46 := Tryz.isAgg235
 z46 := Tryz.sizeOf235
 v46 := Tryz.zeroValue235
 t53 := Tryz.underlying295
 a53 := Tryz.isAgg295
 z53 := Tryz.sizeOf295
 v53 := Tryz.zeroValue295
 t57 := Tryz.underlying299
 a57 := Tryz.isAgg299
 z57 := Tryz.sizeOf299
 v57 := Tryz.zeroValue299
 t63 := Tryz.underlying372
 a63 := Tryz.isAgg372
 z63 := Tryz.sizeOf372
 v63 := Tryz.zeroValue372
 t64 := Tryz.underlying373
 a64 := Tryz.isAgg373
 z64 := Tryz.sizeOf373
 v64 := Tryz.zeroValue373
theorem sort_call (blk off cap : Nat) (zs : List Int) (w : World) (hH : Sort.Holds (Value.int .i64) w blk off zs.toArray) (hblk : blk < w.heap.size) (hsz : zs.length < 4611686018427387904) :
  Calls Tryz.prog 43 #[.slice (some ⟨blk, off, none⟩) zs.length cap] w fun e w' =>
   e = .returned (.tuple #[]) ∧ ∃ n os, w' = Sort.grow (Sort.putRow (Value.int .i64) (Sort.ahead w n) blk off (zs.mergeSort fun x y => decide (x ≤ y)).toArray) os :=
 AnyM.slices_Sort_int sortLays blk off cap zs w hH hblk hsz
end Go.Proofs.YtdejleegamcioaaGreat
