/-
  DERIVED: THE SHELF's CONTRACTS AT THIS DUMP, IN PLAIN WORDS (tools/lay-plain.mjs out of 'TrySort.lean', which tools/lay-shelf.mjs wrote): THE SAME DECLARATIONS UNDER THE SAME NAMES: 'import', 'namespace', 'open', 'def', 'theorem' AND NOTHING ELSE: no command of the shelf's: FOR A HAND-IN. Each laying: the table of numbers ('.._ren') and one theorem, a field a fact of the dump's own or the kernel's comparison; each contract: ONE APPLICATION.
-/
import Derived.Ground.SlgnProg
import Derived.Ground.SlgmProg
import Derived.Shelf.SortM.Plain
import Derived.Test.YtlcnfaodkglhpaaProg
namespace Go.Proofs
open Go.Shelf
def Try.laysSlM5_f177_ren : Go.Shelf.Ren := ⟨fun | 5 => 177 | 8 => 228 | 7 => 227 | 19 => 257 | 20 => 258 | 10 => 248 | 11 => 249 | 12 => 250 | 13 => 251 | 14 => 252 | 15 => 253 | 16 => 254 | 17 => 255 | 18 => 256 | 30 => 269 | 31 => 270 | 32 => 271 | 33 => 272 | 34 => 273 | 35 => 267 | 40 => 283 | n => n, fun | 23 => 25 | 25 => 2 | 3 => 3 | 32 => 144 | 22 => 25 | 0 => 0 | 44 => 227 | 46 => 246 | 4 => 4 | 36 => 278 | 35 => 277 | 41 => 178 | 5 => 5 | 9 => 9 | 53 => 288 | 57 => 292 | 63 => 306 | 64 => 307 | n => n, fun | n => n⟩
theorem Try.laysSlM5_f177 : Go.Proofs.SlLaysM.n5 Try.prog Try.laysSlM5_f177_ren := {
  mixed := by kernel_rfl
  f5 := ⟨Try.f177.name, by decide, Try.func177.trans (congrArg some (by kernel_rfl))⟩
  f7 := ⟨Try.f227.name, by decide, Try.func227.trans (congrArg some (by kernel_rfl))⟩
  f8 := Try.func228.trans (congrArg some (by kernel_rfl))
  f10 := ⟨Try.f248.name, by decide, Try.func248.trans (congrArg some (by kernel_rfl))⟩
  f11 := ⟨Try.f249.name, by decide, Try.func249.trans (congrArg some (by kernel_rfl))⟩
  f12 := ⟨Try.f250.name, by decide, Try.func250.trans (congrArg some (by kernel_rfl))⟩
  f13 := ⟨Try.f251.name, by decide, Try.func251.trans (congrArg some (by kernel_rfl))⟩
  f14 := ⟨Try.f252.name, by decide, Try.func252.trans (congrArg some (by kernel_rfl))⟩
  f15 := ⟨Try.f253.name, by decide, Try.func253.trans (congrArg some (by kernel_rfl))⟩
  f16 := ⟨Try.f254.name, by decide, Try.func254.trans (congrArg some (by kernel_rfl))⟩
  f17 := ⟨Try.f255.name, by decide, Try.func255.trans (congrArg some (by kernel_rfl))⟩
  f18 := ⟨Try.f256.name, by decide, Try.func256.trans (congrArg some (by kernel_rfl))⟩
  f19 := Try.func257.trans (congrArg some (by kernel_rfl))
  f20 := Try.func258.trans (congrArg some (by kernel_rfl))
  f30 := ⟨Try.f269.name, by decide, Try.func269.trans (congrArg some (by kernel_rfl))⟩
  f31 := Try.func270.trans (congrArg some (by kernel_rfl))
  f32 := Try.func271.trans (congrArg some (by kernel_rfl))
  f33 := ⟨Try.f272.name, by decide, Try.func272.trans (congrArg some (by kernel_rfl))⟩
  f34 := ⟨Try.f273.name, by decide, Try.func273.trans (congrArg some (by kernel_rfl))⟩
  f35 := ⟨Try.f267.name, by decide, Try.func267.trans (congrArg some (by kernel_rfl))⟩
  f40 := ⟨Try.f283.name, by decide, Try.func283.trans (congrArg some (by kernel_rfl))⟩
  t0 := Try.underlying0
  a0 := Try.isAgg0
  z0 := Try.sizeOf0
  v0 := Try.zeroValue0
  t3 := Try.underlying3
  a3 := Try.isAgg3
  z3 := Try.sizeOf3
  v3 := Try.zeroValue3
  t4 := Try.underlying4
  a4 := Try.isAgg4
  z4 := Try.sizeOf4
  v4 := Try.zeroValue4
  t5 := Try.underlying5
  a5 := Try.isAgg5
  z5 := Try.sizeOf5
  v5 := Try.zeroValue5
  t9 := Try.underlying9
  a9 := Try.isAgg9
  z9 := Try.sizeOf9
  v9 := Try.zeroValue9
  t22 := Try.underlying25
  a22 := Try.isAgg25
  z22 := Try.sizeOf25
  v22 := Try.zeroValue25
  t23 := Try.underlying25
  a23 := Try.isAgg25
  z23 := Try.sizeOf25
  v23 := Try.zeroValue25
  t25 := Try.underlying2
  a25 := Try.isAgg2
  z25 := Try.sizeOf2
  v25 := Try.zeroValue2
  t32 := Try.underlying144
  a32 := Try.isAgg144
  z32 := Try.sizeOf144
  v32 := Try.zeroValue144
  t35 := Try.underlying277
  a35 := Try.isAgg277
  z35 := Try.sizeOf277
  v35 := Try.zeroValue277
  t36 := Try.underlying278
  a36 := Try.isAgg278
  z36 := Try.sizeOf278
  v36 := Try.zeroValue278
  t41 := Try.underlying178
  a41 := Try.isAgg178
  z41 := Try.sizeOf178
  v41 := Try.zeroValue178
  t44 := Try.underlying227
  a44 := Try.isAgg227
  z44 := Try.sizeOf227
  v44 := Try.zeroValue227
  t46 := Try.underlying246
  a46 := Try.isAgg246
  z46 := Try.sizeOf246
  v46 := Try.zeroValue246
  t53 := Try.underlying288
  a53 := Try.isAgg288
  z53 := Try.sizeOf288
  v53 := Try.zeroValue288
  t57 := Try.underlying292
  a57 := Try.isAgg292
  z57 := Try.sizeOf292
  v57 := Try.zeroValue292
  t63 := Try.underlying306
  a63 := Try.isAgg306
  z63 := Try.sizeOf306
  v63 := Try.zeroValue306
  t64 := Try.underlying307
  a64 := Try.isAgg307
  z64 := Try.sizeOf307
  v64 := Try.zeroValue307 }
open Go.Sort Go.RowKit in
theorem Try.slices_Sort_int (blk off cap : Nat) (zs : List Int) (w : World) (hH : Holds (Value.int .i64) w blk off zs.toArray) (hblk : blk < w.heap.size) (hsz : zs.length < 4611686018427387904) :
    Calls Try.prog 177 #[.slice (some ⟨blk, off, none⟩) zs.length cap] w fun e w' =>
      e = .returned (.tuple #[]) ∧ ∃ n os, w' = grow (putRow (Value.int .i64) (Sort.ahead w n) blk off (zs.mergeSort fun x y => decide (x ≤ y)).toArray) os := AnyM.slices_Sort_int Try.laysSlM5_f177 blk off cap zs w hH hblk hsz
end Go.Proofs
