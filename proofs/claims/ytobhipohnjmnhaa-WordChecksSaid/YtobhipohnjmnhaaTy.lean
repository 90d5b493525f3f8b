/-
  Facts on the types of this translation, each by computation. Written by a program (types.py).
-/
import Derived.Test.YtobhipohnjmnhaaA3
import Derived.Test.YtobhipohnjmnhaaProg
import Derived.KernelRfl
set_option linter.unusedSimpArgs false
set_option linter.unusedVariables false
set_option linter.unusedSectionVars false
namespace Go.Proofs
open Go Go.AH
@[simp] theorem Try.szT1 : szT Try.prog 1 = some 1 := by kernel_rfl
@[simp] theorem Try.aggT1 : aggT Try.prog 1 = some false := by kernel_rfl
@[simp] theorem Try.zeroT1 : zeroT Try.prog 1 = some [.nilfn] := by kernel_rfl
@[simp] theorem Try.szT2 : szT Try.prog 2 = some 1 := by kernel_rfl
@[simp] theorem Try.aggT2 : aggT Try.prog 2 = some false := by kernel_rfl
@[simp] theorem Try.zeroT2 : zeroT Try.prog 2 = some [.int .i64 0] := by kernel_rfl
@[simp] theorem Try.szT3 : szT Try.prog 3 = some 1 := by kernel_rfl
@[simp] theorem Try.aggT3 : aggT Try.prog 3 = some false := by kernel_rfl
@[simp] theorem Try.zeroT3 : zeroT Try.prog 3 = some [.int .i64 0] := by kernel_rfl
@[simp] theorem Try.szT4 : szT Try.prog 4 = some 1 := by kernel_rfl
@[simp] theorem Try.aggT4 : aggT Try.prog 4 = some false := by kernel_rfl
@[simp] theorem Try.zeroT4 : zeroT Try.prog 4 = some [.bool false] := by kernel_rfl
@[simp] theorem Try.szT5 : szT Try.prog 5 = some 1 := by kernel_rfl
@[simp] theorem Try.aggT5 : aggT Try.prog 5 = some false := by kernel_rfl
@[simp] theorem Try.zeroT5 : zeroT Try.prog 5 = some [.int .u8 0] := by kernel_rfl
@[simp] theorem Try.szT6 : szT Try.prog 6 = some 1 := by kernel_rfl
@[simp] theorem Try.aggT6 : aggT Try.prog 6 = some false := by kernel_rfl
@[simp] theorem Try.zeroT6 : zeroT Try.prog 6 = some [.int .u8 0] := by kernel_rfl
@[simp] theorem Try.szT7 : szT Try.prog 7 = some 4 := by kernel_rfl
@[simp] theorem Try.aggT7 : aggT Try.prog 7 = some true := by kernel_rfl
@[simp] theorem Try.zeroT7 : zeroT Try.prog 7 = some [.int .i64 0, .int .i64 0, .bool false, .int .u8 0] := by kernel_rfl
@[simp] theorem Try.foT7_0 : foT Try.prog 7 0 = some (0, 2) := by kernel_rfl
@[simp] theorem Try.foT7_1 : foT Try.prog 7 1 = some (1, 3) := by kernel_rfl
@[simp] theorem Try.foT7_2 : foT Try.prog 7 2 = some (2, 4) := by kernel_rfl
@[simp] theorem Try.foT7_3 : foT Try.prog 7 3 = some (3, 6) := by kernel_rfl
@[simp] theorem Try.placesL7 : placesL Try.prog 7 = some [(0, 1), (1, 1), (2, 1), (3, 1)] := by kernel_rfl
@[simp] theorem Try.szT8 : szT Try.prog 8 = some 4 := by kernel_rfl
@[simp] theorem Try.aggT8 : aggT Try.prog 8 = some true := by kernel_rfl
@[simp] theorem Try.zeroT8 : zeroT Try.prog 8 = some [.int .i64 0, .int .i64 0, .bool false, .int .u8 0] := by kernel_rfl
@[simp] theorem Try.foT8_0 : foT Try.prog 8 0 = some (0, 2) := by kernel_rfl
@[simp] theorem Try.foT8_1 : foT Try.prog 8 1 = some (1, 3) := by kernel_rfl
@[simp] theorem Try.foT8_2 : foT Try.prog 8 2 = some (2, 4) := by kernel_rfl
@[simp] theorem Try.foT8_3 : foT Try.prog 8 3 = some (3, 6) := by kernel_rfl
@[simp] theorem Try.placesL8 : placesL Try.prog 8 = some [(0, 1), (1, 1), (2, 1), (3, 1)] := by kernel_rfl
@[simp] theorem Try.szT9 : szT Try.prog 9 = some 1 := by kernel_rfl
@[simp] theorem Try.aggT9 : aggT Try.prog 9 = some false := by kernel_rfl
@[simp] theorem Try.zeroT9 : zeroT Try.prog 9 = some [.str []] := by kernel_rfl
@[simp] theorem Try.rowT9 : rowT Try.prog 9 = true := by kernel_rfl
@[simp] theorem Try.szT10 : szT Try.prog 10 = some 1 := by kernel_rfl
@[simp] theorem Try.aggT10 : aggT Try.prog 10 = some false := by kernel_rfl
@[simp] theorem Try.zeroT10 : zeroT Try.prog 10 = some [.str []] := by kernel_rfl
@[simp] theorem Try.rowT10 : rowT Try.prog 10 = true := by kernel_rfl
@[simp] theorem Try.szT11 : szT Try.prog 11 = some 1 := by kernel_rfl
@[simp] theorem Try.aggT11 : aggT Try.prog 11 = some false := by kernel_rfl
@[simp] theorem Try.zeroT11 : zeroT Try.prog 11 = some [.str []] := by kernel_rfl
@[simp] theorem Try.rowT11 : rowT Try.prog 11 = true := by kernel_rfl
@[simp] theorem Try.szT12 : szT Try.prog 12 = some 1 := by kernel_rfl
@[simp] theorem Try.aggT12 : aggT Try.prog 12 = some false := by kernel_rfl
@[simp] theorem Try.zeroT12 : zeroT Try.prog 12 = some [.int .u64 0] := by kernel_rfl
@[simp] theorem Try.szT13 : szT Try.prog 13 = some 2 := by kernel_rfl
@[simp] theorem Try.aggT13 : aggT Try.prog 13 = some true := by kernel_rfl
@[simp] theorem Try.zeroT13 : zeroT Try.prog 13 = some [.str [], .int .u64 0] := by kernel_rfl
@[simp] theorem Try.foT13_0 : foT Try.prog 13 0 = some (0, 9) := by kernel_rfl
@[simp] theorem Try.foT13_1 : foT Try.prog 13 1 = some (1, 12) := by kernel_rfl
@[simp] theorem Try.placesL13 : placesL Try.prog 13 = some [(0, 1), (1, 1)] := by kernel_rfl
@[simp] theorem Try.szT14 : szT Try.prog 14 = some 2 := by kernel_rfl
@[simp] theorem Try.aggT14 : aggT Try.prog 14 = some true := by kernel_rfl
@[simp] theorem Try.zeroT14 : zeroT Try.prog 14 = some [.str [], .int .u64 0] := by kernel_rfl
@[simp] theorem Try.foT14_0 : foT Try.prog 14 0 = some (0, 9) := by kernel_rfl
@[simp] theorem Try.foT14_1 : foT Try.prog 14 1 = some (1, 12) := by kernel_rfl
@[simp] theorem Try.placesL14 : placesL Try.prog 14 = some [(0, 1), (1, 1)] := by kernel_rfl
@[simp] theorem Try.szT15 : szT Try.prog 15 = some 1 := by kernel_rfl
@[simp] theorem Try.aggT15 : aggT Try.prog 15 = some false := by kernel_rfl
@[simp] theorem Try.zeroT15 : zeroT Try.prog 15 = some [.nilptr] := by kernel_rfl
@[simp] theorem Try.szT16 : szT Try.prog 16 = some 1 := by kernel_rfl
@[simp] theorem Try.aggT16 : aggT Try.prog 16 = some false := by kernel_rfl
@[simp] theorem Try.zeroT16 : zeroT Try.prog 16 = some [.nilptr] := by kernel_rfl
@[simp] theorem Try.szT17 : szT Try.prog 17 = some 1 := by kernel_rfl
@[simp] theorem Try.aggT17 : aggT Try.prog 17 = some false := by kernel_rfl
@[simp] theorem Try.zeroT17 : zeroT Try.prog 17 = some [.nilptr] := by kernel_rfl
@[simp] theorem Try.szT18 : szT Try.prog 18 = some 1 := by kernel_rfl
@[simp] theorem Try.aggT18 : aggT Try.prog 18 = some true := by kernel_rfl
@[simp] theorem Try.zeroT18 : zeroT Try.prog 18 = some [.nilptr] := by kernel_rfl
@[simp] theorem Try.foT18_0 : foT Try.prog 18 0 = some (0, 17) := by kernel_rfl
@[simp] theorem Try.placesL18 : placesL Try.prog 18 = some [(0, 1)] := by kernel_rfl
@[simp] theorem Try.szT19 : szT Try.prog 19 = some 1 := by kernel_rfl
@[simp] theorem Try.aggT19 : aggT Try.prog 19 = some true := by kernel_rfl
@[simp] theorem Try.zeroT19 : zeroT Try.prog 19 = some [.nilptr] := by kernel_rfl
@[simp] theorem Try.foT19_0 : foT Try.prog 19 0 = some (0, 17) := by kernel_rfl
@[simp] theorem Try.placesL19 : placesL Try.prog 19 = some [(0, 1)] := by kernel_rfl
@[simp] theorem Try.szT20 : szT Try.prog 20 = some 1 := by kernel_rfl
@[simp] theorem Try.aggT20 : aggT Try.prog 20 = some false := by kernel_rfl
@[simp] theorem Try.zeroT20 : zeroT Try.prog 20 = some [.nilif] := by kernel_rfl
@[simp] theorem Try.szT21 : szT Try.prog 21 = some 1 := by kernel_rfl
@[simp] theorem Try.aggT21 : aggT Try.prog 21 = some false := by kernel_rfl
@[simp] theorem Try.zeroT21 : zeroT Try.prog 21 = some [.int .i32 0] := by kernel_rfl
@[simp] theorem Try.szT22 : szT Try.prog 22 = some 1 := by kernel_rfl
@[simp] theorem Try.aggT22 : aggT Try.prog 22 = some false := by kernel_rfl
@[simp] theorem Try.zeroT22 : zeroT Try.prog 22 = some [.nilsl] := by kernel_rfl
@[simp] theorem Try.elemT22 : elemT Try.prog 22 = some (97, 1, 24, [.nilsl]) := by kernel_rfl
@[simp] theorem Try.rowT22 : rowT Try.prog 22 = true := by kernel_rfl
@[simp] theorem Try.szT23 : szT Try.prog 23 = some 1 := by kernel_rfl
@[simp] theorem Try.aggT23 : aggT Try.prog 23 = some false := by kernel_rfl
@[simp] theorem Try.zeroT23 : zeroT Try.prog 23 = some [.nilsl] := by kernel_rfl
@[simp] theorem Try.elemT23 : elemT Try.prog 23 = some (4, 1, 1, [.bool false]) := by kernel_rfl
@[simp] theorem Try.rowT23 : rowT Try.prog 23 = true := by kernel_rfl
@[simp] theorem Try.szT24 : szT Try.prog 24 = some 3 := by kernel_rfl
@[simp] theorem Try.aggT24 : aggT Try.prog 24 = some true := by kernel_rfl
@[simp] theorem Try.zeroT24 : zeroT Try.prog 24 = some [.int .i64 0, .nilsl, .nilsl] := by kernel_rfl
@[simp] theorem Try.foT24_0 : foT Try.prog 24 0 = some (0, 3) := by kernel_rfl
@[simp] theorem Try.foT24_1 : foT Try.prog 24 1 = some (1, 22) := by kernel_rfl
@[simp] theorem Try.foT24_2 : foT Try.prog 24 2 = some (2, 23) := by kernel_rfl
@[simp] theorem Try.placesL24 : placesL Try.prog 24 = some [(0, 1), (1, 1), (2, 1)] := by kernel_rfl
@[simp] theorem Try.szT25 : szT Try.prog 25 = some 3 := by kernel_rfl
@[simp] theorem Try.aggT25 : aggT Try.prog 25 = some true := by kernel_rfl
@[simp] theorem Try.zeroT25 : zeroT Try.prog 25 = some [.int .i64 0, .nilsl, .nilsl] := by kernel_rfl
@[simp] theorem Try.foT25_0 : foT Try.prog 25 0 = some (0, 3) := by kernel_rfl
@[simp] theorem Try.foT25_1 : foT Try.prog 25 1 = some (1, 22) := by kernel_rfl
@[simp] theorem Try.foT25_2 : foT Try.prog 25 2 = some (2, 23) := by kernel_rfl
@[simp] theorem Try.placesL25 : placesL Try.prog 25 = some [(0, 1), (1, 1), (2, 1)] := by kernel_rfl
@[simp] theorem Try.szT26 : szT Try.prog 26 = some 1 := by kernel_rfl
@[simp] theorem Try.aggT26 : aggT Try.prog 26 = some false := by kernel_rfl
@[simp] theorem Try.zeroT26 : zeroT Try.prog 26 = some [.nilfn] := by kernel_rfl
@[simp] theorem Try.szT27 : szT Try.prog 27 = some 1 := by kernel_rfl
@[simp] theorem Try.aggT27 : aggT Try.prog 27 = some false := by kernel_rfl
@[simp] theorem Try.zeroT27 : zeroT Try.prog 27 = some [.nilfn] := by kernel_rfl
@[simp] theorem Try.szT28 : szT Try.prog 28 = some 3 := by kernel_rfl
@[simp] theorem Try.aggT28 : aggT Try.prog 28 = some true := by kernel_rfl
@[simp] theorem Try.zeroT28 : zeroT Try.prog 28 = some [.int .i64 0, .nilsl, .nilsl] := by kernel_rfl
@[simp] theorem Try.foT28_0 : foT Try.prog 28 0 = some (0, 3) := by kernel_rfl
@[simp] theorem Try.foT28_1 : foT Try.prog 28 1 = some (1, 22) := by kernel_rfl
@[simp] theorem Try.foT28_2 : foT Try.prog 28 2 = some (2, 23) := by kernel_rfl
@[simp] theorem Try.placesL28 : placesL Try.prog 28 = some [(0, 1), (1, 1), (2, 1)] := by kernel_rfl
@[simp] theorem Try.szT29 : szT Try.prog 29 = some 1 := by kernel_rfl
@[simp] theorem Try.aggT29 : aggT Try.prog 29 = some false := by kernel_rfl
@[simp] theorem Try.zeroT29 : zeroT Try.prog 29 = some [.nilfn] := by kernel_rfl
@[simp] theorem Try.szT30 : szT Try.prog 30 = some 1 := by kernel_rfl
@[simp] theorem Try.aggT30 : aggT Try.prog 30 = some false := by kernel_rfl
@[simp] theorem Try.zeroT30 : zeroT Try.prog 30 = some [.int .i64 0] := by kernel_rfl
@[simp] theorem Try.szT32 : szT Try.prog 32 = some 1 := by kernel_rfl
@[simp] theorem Try.aggT32 : aggT Try.prog 32 = some false := by kernel_rfl
@[simp] theorem Try.zeroT32 : zeroT Try.prog 32 = some [.nilfn] := by kernel_rfl
@[simp] theorem Try.szT33 : szT Try.prog 33 = some 1 := by kernel_rfl
@[simp] theorem Try.aggT33 : aggT Try.prog 33 = some false := by kernel_rfl
@[simp] theorem Try.zeroT33 : zeroT Try.prog 33 = some [.nilfn] := by kernel_rfl
@[simp] theorem Try.szT34 : szT Try.prog 34 = some 1 := by kernel_rfl
@[simp] theorem Try.aggT34 : aggT Try.prog 34 = some false := by kernel_rfl
@[simp] theorem Try.zeroT34 : zeroT Try.prog 34 = some [.nilsl] := by kernel_rfl
@[simp] theorem Try.elemT34 : elemT Try.prog 34 = some (9, 1, 16, [.str []]) := by kernel_rfl
@[simp] theorem Try.rowT34 : rowT Try.prog 34 = true := by kernel_rfl
@[simp] theorem Try.szT36 : szT Try.prog 36 = some 1 := by kernel_rfl
@[simp] theorem Try.aggT36 : aggT Try.prog 36 = some false := by kernel_rfl
@[simp] theorem Try.zeroT36 : zeroT Try.prog 36 = some [.nilfn] := by kernel_rfl
@[simp] theorem Try.szT37 : szT Try.prog 37 = some 1 := by kernel_rfl
@[simp] theorem Try.aggT37 : aggT Try.prog 37 = some false := by kernel_rfl
@[simp] theorem Try.zeroT37 : zeroT Try.prog 37 = some [.nilfn] := by kernel_rfl
@[simp] theorem Try.szT38 : szT Try.prog 38 = some 1 := by kernel_rfl
@[simp] theorem Try.aggT38 : aggT Try.prog 38 = some false := by kernel_rfl
@[simp] theorem Try.zeroT38 : zeroT Try.prog 38 = some [.int .u64 0] := by kernel_rfl
@[simp] theorem Try.szT39 : szT Try.prog 39 = some 1 := by kernel_rfl
@[simp] theorem Try.aggT39 : aggT Try.prog 39 = some false := by kernel_rfl
@[simp] theorem Try.zeroT39 : zeroT Try.prog 39 = some [.nilfn] := by kernel_rfl
@[simp] theorem Try.szT40 : szT Try.prog 40 = some 1 := by kernel_rfl
@[simp] theorem Try.aggT40 : aggT Try.prog 40 = some false := by kernel_rfl
@[simp] theorem Try.zeroT40 : zeroT Try.prog 40 = some [.nilfn] := by kernel_rfl
@[simp] theorem Try.szT42 : szT Try.prog 42 = some 1 := by kernel_rfl
@[simp] theorem Try.aggT42 : aggT Try.prog 42 = some false := by kernel_rfl
@[simp] theorem Try.zeroT42 : zeroT Try.prog 42 = some [.nilfn] := by kernel_rfl
@[simp] theorem Try.szT43 : szT Try.prog 43 = some 1 := by kernel_rfl
@[simp] theorem Try.aggT43 : aggT Try.prog 43 = some false := by kernel_rfl
@[simp] theorem Try.zeroT43 : zeroT Try.prog 43 = some [.nilfn] := by kernel_rfl
@[simp] theorem Try.szT45 : szT Try.prog 45 = some 1 := by kernel_rfl
@[simp] theorem Try.aggT45 : aggT Try.prog 45 = some false := by kernel_rfl
@[simp] theorem Try.zeroT45 : zeroT Try.prog 45 = some [.nilfn] := by kernel_rfl
@[simp] theorem Try.szT46 : szT Try.prog 46 = some 1 := by kernel_rfl
@[simp] theorem Try.aggT46 : aggT Try.prog 46 = some false := by kernel_rfl
@[simp] theorem Try.zeroT46 : zeroT Try.prog 46 = some [.nilfn] := by kernel_rfl
@[simp] theorem Try.szT47 : szT Try.prog 47 = some 1 := by kernel_rfl
@[simp] theorem Try.aggT47 : aggT Try.prog 47 = some false := by kernel_rfl
@[simp] theorem Try.zeroT47 : zeroT Try.prog 47 = some [.nilfn] := by kernel_rfl
@[simp] theorem Try.szT48 : szT Try.prog 48 = some 1 := by kernel_rfl
@[simp] theorem Try.aggT48 : aggT Try.prog 48 = some false := by kernel_rfl
@[simp] theorem Try.zeroT48 : zeroT Try.prog 48 = some [.nilfn] := by kernel_rfl
@[simp] theorem Try.szT50 : szT Try.prog 50 = some 1 := by kernel_rfl
@[simp] theorem Try.aggT50 : aggT Try.prog 50 = some false := by kernel_rfl
@[simp] theorem Try.zeroT50 : zeroT Try.prog 50 = some [.nilfn] := by kernel_rfl
@[simp] theorem Try.szT51 : szT Try.prog 51 = some 1 := by kernel_rfl
@[simp] theorem Try.aggT51 : aggT Try.prog 51 = some false := by kernel_rfl
@[simp] theorem Try.zeroT51 : zeroT Try.prog 51 = some [.nilfn] := by kernel_rfl
@[simp] theorem Try.szT53 : szT Try.prog 53 = some 1 := by kernel_rfl
@[simp] theorem Try.aggT53 : aggT Try.prog 53 = some false := by kernel_rfl
@[simp] theorem Try.zeroT53 : zeroT Try.prog 53 = some [.nilfn] := by kernel_rfl
@[simp] theorem Try.szT54 : szT Try.prog 54 = some 1 := by kernel_rfl
@[simp] theorem Try.aggT54 : aggT Try.prog 54 = some false := by kernel_rfl
@[simp] theorem Try.zeroT54 : zeroT Try.prog 54 = some [.nilfn] := by kernel_rfl
@[simp] theorem Try.szT55 : szT Try.prog 55 = some 1 := by kernel_rfl
@[simp] theorem Try.aggT55 : aggT Try.prog 55 = some false := by kernel_rfl
@[simp] theorem Try.zeroT55 : zeroT Try.prog 55 = some [.nilfn] := by kernel_rfl
@[simp] theorem Try.szT56 : szT Try.prog 56 = some 1 := by kernel_rfl
@[simp] theorem Try.aggT56 : aggT Try.prog 56 = some false := by kernel_rfl
@[simp] theorem Try.zeroT56 : zeroT Try.prog 56 = some [.nilfn] := by kernel_rfl
@[simp] theorem Try.szT57 : szT Try.prog 57 = some 2 := by kernel_rfl
@[simp] theorem Try.aggT57 : aggT Try.prog 57 = some true := by kernel_rfl
@[simp] theorem Try.zeroT57 : zeroT Try.prog 57 = some [.str [], .str []] := by kernel_rfl
@[simp] theorem Try.placesL57 : placesL Try.prog 57 = some [(0, 1), (1, 1)] := by kernel_rfl
@[simp] theorem Try.szT59 : szT Try.prog 59 = some 1 := by kernel_rfl
@[simp] theorem Try.aggT59 : aggT Try.prog 59 = some false := by kernel_rfl
@[simp] theorem Try.zeroT59 : zeroT Try.prog 59 = some [.nilfn] := by kernel_rfl
@[simp] theorem Try.szT60 : szT Try.prog 60 = some 1 := by kernel_rfl
@[simp] theorem Try.aggT60 : aggT Try.prog 60 = some false := by kernel_rfl
@[simp] theorem Try.zeroT60 : zeroT Try.prog 60 = some [.nilfn] := by kernel_rfl
@[simp] theorem Try.szT61 : szT Try.prog 61 = some 1 := by kernel_rfl
@[simp] theorem Try.aggT61 : aggT Try.prog 61 = some false := by kernel_rfl
@[simp] theorem Try.zeroT61 : zeroT Try.prog 61 = some [.nilfn] := by kernel_rfl
@[simp] theorem Try.szT62 : szT Try.prog 62 = some 1 := by kernel_rfl
@[simp] theorem Try.aggT62 : aggT Try.prog 62 = some false := by kernel_rfl
@[simp] theorem Try.zeroT62 : zeroT Try.prog 62 = some [.nilfn] := by kernel_rfl
@[simp] theorem Try.szT63 : szT Try.prog 63 = some 1 := by kernel_rfl
@[simp] theorem Try.aggT63 : aggT Try.prog 63 = some false := by kernel_rfl
@[simp] theorem Try.zeroT63 : zeroT Try.prog 63 = some [.nilfn] := by kernel_rfl
@[simp] theorem Try.szT64 : szT Try.prog 64 = some 1 := by kernel_rfl
@[simp] theorem Try.aggT64 : aggT Try.prog 64 = some false := by kernel_rfl
@[simp] theorem Try.zeroT64 : zeroT Try.prog 64 = some [.nilfn] := by kernel_rfl
@[simp] theorem Try.szT65 : szT Try.prog 65 = some 1 := by kernel_rfl
@[simp] theorem Try.aggT65 : aggT Try.prog 65 = some false := by kernel_rfl
@[simp] theorem Try.zeroT65 : zeroT Try.prog 65 = some [.nilfn] := by kernel_rfl
@[simp] theorem Try.szT66 : szT Try.prog 66 = some 1 := by kernel_rfl
@[simp] theorem Try.aggT66 : aggT Try.prog 66 = some false := by kernel_rfl
@[simp] theorem Try.zeroT66 : zeroT Try.prog 66 = some [.nilfn] := by kernel_rfl
@[simp] theorem Try.szT67 : szT Try.prog 67 = some 1 := by kernel_rfl
@[simp] theorem Try.aggT67 : aggT Try.prog 67 = some false := by kernel_rfl
@[simp] theorem Try.zeroT67 : zeroT Try.prog 67 = some [.nilfn] := by kernel_rfl
@[simp] theorem Try.szT69 : szT Try.prog 69 = some 1 := by kernel_rfl
@[simp] theorem Try.aggT69 : aggT Try.prog 69 = some false := by kernel_rfl
@[simp] theorem Try.zeroT69 : zeroT Try.prog 69 = some [.nilfn] := by kernel_rfl
@[simp] theorem Try.szT71 : szT Try.prog 71 = some 1 := by kernel_rfl
@[simp] theorem Try.aggT71 : aggT Try.prog 71 = some false := by kernel_rfl
@[simp] theorem Try.zeroT71 : zeroT Try.prog 71 = some [.nilfn] := by kernel_rfl
@[simp] theorem Try.szT73 : szT Try.prog 73 = some 1 := by kernel_rfl
@[simp] theorem Try.aggT73 : aggT Try.prog 73 = some false := by kernel_rfl
@[simp] theorem Try.zeroT73 : zeroT Try.prog 73 = some [.nilfn] := by kernel_rfl
@[simp] theorem Try.szT74 : szT Try.prog 74 = some 1 := by kernel_rfl
@[simp] theorem Try.aggT74 : aggT Try.prog 74 = some false := by kernel_rfl
@[simp] theorem Try.zeroT74 : zeroT Try.prog 74 = some [.nilfn] := by kernel_rfl
@[simp] theorem Try.szT75 : szT Try.prog 75 = some 1 := by kernel_rfl
@[simp] theorem Try.aggT75 : aggT Try.prog 75 = some false := by kernel_rfl
@[simp] theorem Try.zeroT75 : zeroT Try.prog 75 = some [.nilfn] := by kernel_rfl
@[simp] theorem Try.szT76 : szT Try.prog 76 = some 1 := by kernel_rfl
@[simp] theorem Try.aggT76 : aggT Try.prog 76 = some false := by kernel_rfl
@[simp] theorem Try.zeroT76 : zeroT Try.prog 76 = some [.nilfn] := by kernel_rfl
@[simp] theorem Try.szT77 : szT Try.prog 77 = some 1 := by kernel_rfl
@[simp] theorem Try.aggT77 : aggT Try.prog 77 = some false := by kernel_rfl
@[simp] theorem Try.zeroT77 : zeroT Try.prog 77 = some [.nilsl] := by kernel_rfl
@[simp] theorem Try.elemT77 : elemT Try.prog 77 = some (5, 1, 1, [.int .u8 0]) := by kernel_rfl
@[simp] theorem Try.rowT77 : rowT Try.prog 77 = true := by kernel_rfl
@[simp] theorem Try.szT78 : szT Try.prog 78 = some 1 := by kernel_rfl
@[simp] theorem Try.aggT78 : aggT Try.prog 78 = some false := by kernel_rfl
@[simp] theorem Try.zeroT78 : zeroT Try.prog 78 = some [.nilfn] := by kernel_rfl
@[simp] theorem Try.szT79 : szT Try.prog 79 = some 1 := by kernel_rfl
@[simp] theorem Try.aggT79 : aggT Try.prog 79 = some false := by kernel_rfl
@[simp] theorem Try.zeroT79 : zeroT Try.prog 79 = some [.nilfn] := by kernel_rfl
@[simp] theorem Try.szT80 : szT Try.prog 80 = some 1 := by kernel_rfl
@[simp] theorem Try.aggT80 : aggT Try.prog 80 = some false := by kernel_rfl
@[simp] theorem Try.zeroT80 : zeroT Try.prog 80 = some [.nilfn] := by kernel_rfl
@[simp] theorem Try.szT81 : szT Try.prog 81 = some 1 := by kernel_rfl
@[simp] theorem Try.aggT81 : aggT Try.prog 81 = some false := by kernel_rfl
@[simp] theorem Try.zeroT81 : zeroT Try.prog 81 = some [.nilfn] := by kernel_rfl
@[simp] theorem Try.szT82 : szT Try.prog 82 = some 1 := by kernel_rfl
@[simp] theorem Try.aggT82 : aggT Try.prog 82 = some false := by kernel_rfl
@[simp] theorem Try.zeroT82 : zeroT Try.prog 82 = some [.nilfn] := by kernel_rfl
@[simp] theorem Try.szT83 : szT Try.prog 83 = some 1 := by kernel_rfl
@[simp] theorem Try.aggT83 : aggT Try.prog 83 = some false := by kernel_rfl
@[simp] theorem Try.zeroT83 : zeroT Try.prog 83 = some [.nilptr] := by kernel_rfl
@[simp] theorem Try.szT85 : szT Try.prog 85 = some 1 := by kernel_rfl
@[simp] theorem Try.aggT85 : aggT Try.prog 85 = some false := by kernel_rfl
@[simp] theorem Try.zeroT85 : zeroT Try.prog 85 = some [.nilfn] := by kernel_rfl
@[simp] theorem Try.szT87 : szT Try.prog 87 = some 1 := by kernel_rfl
@[simp] theorem Try.aggT87 : aggT Try.prog 87 = some false := by kernel_rfl
@[simp] theorem Try.zeroT87 : zeroT Try.prog 87 = some [.nilfn] := by kernel_rfl
@[simp] theorem Try.szT89 : szT Try.prog 89 = some 1 := by kernel_rfl
@[simp] theorem Try.aggT89 : aggT Try.prog 89 = some false := by kernel_rfl
@[simp] theorem Try.zeroT89 : zeroT Try.prog 89 = some [.nilfn] := by kernel_rfl
@[simp] theorem Try.szT90 : szT Try.prog 90 = some 1 := by kernel_rfl
@[simp] theorem Try.aggT90 : aggT Try.prog 90 = some false := by kernel_rfl
@[simp] theorem Try.zeroT90 : zeroT Try.prog 90 = some [.nilfn] := by kernel_rfl
@[simp] theorem Try.szT91 : szT Try.prog 91 = some 1 := by kernel_rfl
@[simp] theorem Try.aggT91 : aggT Try.prog 91 = some false := by kernel_rfl
@[simp] theorem Try.zeroT91 : zeroT Try.prog 91 = some [.nilfn] := by kernel_rfl
@[simp] theorem Try.szT92 : szT Try.prog 92 = some 1 := by kernel_rfl
@[simp] theorem Try.aggT92 : aggT Try.prog 92 = some false := by kernel_rfl
@[simp] theorem Try.zeroT92 : zeroT Try.prog 92 = some [.nilfn] := by kernel_rfl
@[simp] theorem Try.szT93 : szT Try.prog 93 = some 1 := by kernel_rfl
@[simp] theorem Try.aggT93 : aggT Try.prog 93 = some false := by kernel_rfl
@[simp] theorem Try.zeroT93 : zeroT Try.prog 93 = some [.nilfn] := by kernel_rfl
@[simp] theorem Try.szT94 : szT Try.prog 94 = some 1 := by kernel_rfl
@[simp] theorem Try.aggT94 : aggT Try.prog 94 = some false := by kernel_rfl
@[simp] theorem Try.zeroT94 : zeroT Try.prog 94 = some [.nilfn] := by kernel_rfl
@[simp] theorem Try.szT95 : szT Try.prog 95 = some 1 := by kernel_rfl
@[simp] theorem Try.aggT95 : aggT Try.prog 95 = some false := by kernel_rfl
@[simp] theorem Try.zeroT95 : zeroT Try.prog 95 = some [.nilfn] := by kernel_rfl
@[simp] theorem Try.szT96 : szT Try.prog 96 = some 1 := by kernel_rfl
@[simp] theorem Try.aggT96 : aggT Try.prog 96 = some false := by kernel_rfl
@[simp] theorem Try.zeroT96 : zeroT Try.prog 96 = some [.nilfn] := by kernel_rfl
@[simp] theorem Try.szT97 : szT Try.prog 97 = some 1 := by kernel_rfl
@[simp] theorem Try.aggT97 : aggT Try.prog 97 = some false := by kernel_rfl
@[simp] theorem Try.zeroT97 : zeroT Try.prog 97 = some [.nilsl] := by kernel_rfl
@[simp] theorem Try.elemT97 : elemT Try.prog 97 = some (3, 1, 8, [.int .i64 0]) := by kernel_rfl
@[simp] theorem Try.rowT97 : rowT Try.prog 97 = true := by kernel_rfl
@[simp] theorem Try.szT98 : szT Try.prog 98 = some 1 := by kernel_rfl
@[simp] theorem Try.aggT98 : aggT Try.prog 98 = some false := by kernel_rfl
@[simp] theorem Try.zeroT98 : zeroT Try.prog 98 = some [.nilsl] := by kernel_rfl
@[simp] theorem Try.elemT98 : elemT Try.prog 98 = some (2, 1, 8, [.int .i64 0]) := by kernel_rfl
@[simp] theorem Try.rowT98 : rowT Try.prog 98 = true := by kernel_rfl
@[simp] theorem Try.szT99 : szT Try.prog 99 = some 1 := by kernel_rfl
@[simp] theorem Try.aggT99 : aggT Try.prog 99 = some false := by kernel_rfl
@[simp] theorem Try.zeroT99 : zeroT Try.prog 99 = some [.nilfn] := by kernel_rfl
@[simp] theorem Try.szT100 : szT Try.prog 100 = some 1 := by kernel_rfl
@[simp] theorem Try.aggT100 : aggT Try.prog 100 = some false := by kernel_rfl
@[simp] theorem Try.zeroT100 : zeroT Try.prog 100 = some [.nilfn] := by kernel_rfl
@[simp] theorem Try.szT101 : szT Try.prog 101 = some 3 := by kernel_rfl
@[simp] theorem Try.aggT101 : aggT Try.prog 101 = some true := by kernel_rfl
@[simp] theorem Try.zeroT101 : zeroT Try.prog 101 = some [.int .i64 0, .nilsl, .nilsl] := by kernel_rfl
@[simp] theorem Try.foT101_0 : foT Try.prog 101 0 = some (0, 3) := by kernel_rfl
@[simp] theorem Try.foT101_1 : foT Try.prog 101 1 = some (1, 22) := by kernel_rfl
@[simp] theorem Try.foT101_2 : foT Try.prog 101 2 = some (2, 23) := by kernel_rfl
@[simp] theorem Try.placesL101 : placesL Try.prog 101 = some [(0, 1), (1, 1), (2, 1)] := by kernel_rfl
@[simp] theorem Try.szT102 : szT Try.prog 102 = some 3 := by kernel_rfl
@[simp] theorem Try.aggT102 : aggT Try.prog 102 = some true := by kernel_rfl
@[simp] theorem Try.zeroT102 : zeroT Try.prog 102 = some [.int .i64 0, .nilsl, .nilsl] := by kernel_rfl
@[simp] theorem Try.foT102_0 : foT Try.prog 102 0 = some (0, 3) := by kernel_rfl
@[simp] theorem Try.foT102_1 : foT Try.prog 102 1 = some (1, 22) := by kernel_rfl
@[simp] theorem Try.foT102_2 : foT Try.prog 102 2 = some (2, 23) := by kernel_rfl
@[simp] theorem Try.placesL102 : placesL Try.prog 102 = some [(0, 1), (1, 1), (2, 1)] := by kernel_rfl
@[simp] theorem Try.szT103 : szT Try.prog 103 = some 1 := by kernel_rfl
@[simp] theorem Try.aggT103 : aggT Try.prog 103 = some false := by kernel_rfl
@[simp] theorem Try.zeroT103 : zeroT Try.prog 103 = some [.nilfn] := by kernel_rfl
@[simp] theorem Try.szT104 : szT Try.prog 104 = some 1 := by kernel_rfl
@[simp] theorem Try.aggT104 : aggT Try.prog 104 = some false := by kernel_rfl
@[simp] theorem Try.zeroT104 : zeroT Try.prog 104 = some [.nilfn] := by kernel_rfl
@[simp] theorem Try.szT105 : szT Try.prog 105 = some 1 := by kernel_rfl
@[simp] theorem Try.aggT105 : aggT Try.prog 105 = some false := by kernel_rfl
@[simp] theorem Try.zeroT105 : zeroT Try.prog 105 = some [.nilfn] := by kernel_rfl
@[simp] theorem Try.szT106 : szT Try.prog 106 = some 1 := by kernel_rfl
@[simp] theorem Try.aggT106 : aggT Try.prog 106 = some false := by kernel_rfl
@[simp] theorem Try.zeroT106 : zeroT Try.prog 106 = some [.nilsl] := by kernel_rfl
@[simp] theorem Try.elemT106 : elemT Try.prog 106 = some (23, 1, 24, [.nilsl]) := by kernel_rfl
@[simp] theorem Try.rowT106 : rowT Try.prog 106 = true := by kernel_rfl
@[simp] theorem Try.szT107 : szT Try.prog 107 = some 1 := by kernel_rfl
@[simp] theorem Try.aggT107 : aggT Try.prog 107 = some false := by kernel_rfl
@[simp] theorem Try.zeroT107 : zeroT Try.prog 107 = some [.nilfn] := by kernel_rfl
@[simp] theorem Try.szT108 : szT Try.prog 108 = some 1 := by kernel_rfl
@[simp] theorem Try.aggT108 : aggT Try.prog 108 = some false := by kernel_rfl
@[simp] theorem Try.zeroT108 : zeroT Try.prog 108 = some [.nilfn] := by kernel_rfl
@[simp] theorem Try.szT109 : szT Try.prog 109 = some 1 := by kernel_rfl
@[simp] theorem Try.aggT109 : aggT Try.prog 109 = some false := by kernel_rfl
@[simp] theorem Try.zeroT109 : zeroT Try.prog 109 = some [.nilfn] := by kernel_rfl
@[simp] theorem Try.szT110 : szT Try.prog 110 = some 1 := by kernel_rfl
@[simp] theorem Try.aggT110 : aggT Try.prog 110 = some false := by kernel_rfl
@[simp] theorem Try.zeroT110 : zeroT Try.prog 110 = some [.nilfn] := by kernel_rfl
@[simp] theorem Try.szT111 : szT Try.prog 111 = some 1 := by kernel_rfl
@[simp] theorem Try.aggT111 : aggT Try.prog 111 = some false := by kernel_rfl
@[simp] theorem Try.zeroT111 : zeroT Try.prog 111 = some [.nilfn] := by kernel_rfl
@[simp] theorem Try.szT112 : szT Try.prog 112 = some 1 := by kernel_rfl
@[simp] theorem Try.aggT112 : aggT Try.prog 112 = some false := by kernel_rfl
@[simp] theorem Try.zeroT112 : zeroT Try.prog 112 = some [.nilfn] := by kernel_rfl
@[simp] theorem Try.szT113 : szT Try.prog 113 = some 1 := by kernel_rfl
@[simp] theorem Try.aggT113 : aggT Try.prog 113 = some false := by kernel_rfl
@[simp] theorem Try.zeroT113 : zeroT Try.prog 113 = some [.nilfn] := by kernel_rfl
@[simp] theorem Try.szT114 : szT Try.prog 114 = some 1 := by kernel_rfl
@[simp] theorem Try.aggT114 : aggT Try.prog 114 = some false := by kernel_rfl
@[simp] theorem Try.zeroT114 : zeroT Try.prog 114 = some [.nilfn] := by kernel_rfl
@[simp] theorem Try.szT115 : szT Try.prog 115 = some 1 := by kernel_rfl
@[simp] theorem Try.aggT115 : aggT Try.prog 115 = some false := by kernel_rfl
@[simp] theorem Try.zeroT115 : zeroT Try.prog 115 = some [.nilfn] := by kernel_rfl
@[simp] theorem Try.szT116 : szT Try.prog 116 = some 1 := by kernel_rfl
@[simp] theorem Try.aggT116 : aggT Try.prog 116 = some false := by kernel_rfl
@[simp] theorem Try.zeroT116 : zeroT Try.prog 116 = some [.nilfn] := by kernel_rfl
@[simp] theorem Try.szT117 : szT Try.prog 117 = some 1 := by kernel_rfl
@[simp] theorem Try.aggT117 : aggT Try.prog 117 = some false := by kernel_rfl
@[simp] theorem Try.zeroT117 : zeroT Try.prog 117 = some [.nilfn] := by kernel_rfl
@[simp] theorem Try.szT118 : szT Try.prog 118 = some 1 := by kernel_rfl
@[simp] theorem Try.aggT118 : aggT Try.prog 118 = some false := by kernel_rfl
@[simp] theorem Try.zeroT118 : zeroT Try.prog 118 = some [.nilfn] := by kernel_rfl
@[simp] theorem Try.szT119 : szT Try.prog 119 = some 2 := by kernel_rfl
@[simp] theorem Try.aggT119 : aggT Try.prog 119 = some true := by kernel_rfl
@[simp] theorem Try.zeroT119 : zeroT Try.prog 119 = some [.int .i64 0, .int .i64 0] := by kernel_rfl
@[simp] theorem Try.placesL119 : placesL Try.prog 119 = some [(0, 1), (1, 1)] := by kernel_rfl
@[simp] theorem Try.szT120 : szT Try.prog 120 = some 2 := by kernel_rfl
@[simp] theorem Try.aggT120 : aggT Try.prog 120 = some true := by kernel_rfl
@[simp] theorem Try.zeroT120 : zeroT Try.prog 120 = some [.int .i64 0, .int .i64 0] := by kernel_rfl
@[simp] theorem Try.placesL120 : placesL Try.prog 120 = some [(0, 1), (1, 1)] := by kernel_rfl
@[simp] theorem Try.szT121 : szT Try.prog 121 = some 1 := by kernel_rfl
@[simp] theorem Try.aggT121 : aggT Try.prog 121 = some false := by kernel_rfl
@[simp] theorem Try.zeroT121 : zeroT Try.prog 121 = some [.nilsl] := by kernel_rfl
@[simp] theorem Try.elemT121 : elemT Try.prog 121 = some (120, 2, 16, [.int .i64 0, .int .i64 0]) := by kernel_rfl
@[simp] theorem Try.rowT121 : rowT Try.prog 121 = true := by kernel_rfl
@[simp] theorem Try.szT123 : szT Try.prog 123 = some 1 := by kernel_rfl
@[simp] theorem Try.aggT123 : aggT Try.prog 123 = some false := by kernel_rfl
@[simp] theorem Try.zeroT123 : zeroT Try.prog 123 = some [.nilfn] := by kernel_rfl
@[simp] theorem Try.szT124 : szT Try.prog 124 = some 1 := by kernel_rfl
@[simp] theorem Try.aggT124 : aggT Try.prog 124 = some false := by kernel_rfl
@[simp] theorem Try.zeroT124 : zeroT Try.prog 124 = some [.nilfn] := by kernel_rfl
@[simp] theorem Try.szT125 : szT Try.prog 125 = some 3 := by kernel_rfl
@[simp] theorem Try.aggT125 : aggT Try.prog 125 = some true := by kernel_rfl
@[simp] theorem Try.zeroT125 : zeroT Try.prog 125 = some [.int .i64 0, .int .i64 0, .str []] := by kernel_rfl
@[simp] theorem Try.foT125_0 : foT Try.prog 125 0 = some (0, 3) := by kernel_rfl
@[simp] theorem Try.foT125_1 : foT Try.prog 125 1 = some (1, 3) := by kernel_rfl
@[simp] theorem Try.foT125_2 : foT Try.prog 125 2 = some (2, 9) := by kernel_rfl
@[simp] theorem Try.placesL125 : placesL Try.prog 125 = some [(0, 1), (1, 1), (2, 1)] := by kernel_rfl
@[simp] theorem Try.szT126 : szT Try.prog 126 = some 3 := by kernel_rfl
@[simp] theorem Try.aggT126 : aggT Try.prog 126 = some true := by kernel_rfl
@[simp] theorem Try.zeroT126 : zeroT Try.prog 126 = some [.int .i64 0, .int .i64 0, .str []] := by kernel_rfl
@[simp] theorem Try.foT126_0 : foT Try.prog 126 0 = some (0, 3) := by kernel_rfl
@[simp] theorem Try.foT126_1 : foT Try.prog 126 1 = some (1, 3) := by kernel_rfl
@[simp] theorem Try.foT126_2 : foT Try.prog 126 2 = some (2, 9) := by kernel_rfl
@[simp] theorem Try.placesL126 : placesL Try.prog 126 = some [(0, 1), (1, 1), (2, 1)] := by kernel_rfl
@[simp] theorem Try.szT127 : szT Try.prog 127 = some 1 := by kernel_rfl
@[simp] theorem Try.aggT127 : aggT Try.prog 127 = some false := by kernel_rfl
@[simp] theorem Try.zeroT127 : zeroT Try.prog 127 = some [.nilsl] := by kernel_rfl
@[simp] theorem Try.elemT127 : elemT Try.prog 127 = some (126, 3, 32, [.int .i64 0, .int .i64 0, .str []]) := by kernel_rfl
@[simp] theorem Try.rowT127 : rowT Try.prog 127 = true := by kernel_rfl
@[simp] theorem Try.szT129 : szT Try.prog 129 = some 1 := by kernel_rfl
@[simp] theorem Try.aggT129 : aggT Try.prog 129 = some false := by kernel_rfl
@[simp] theorem Try.zeroT129 : zeroT Try.prog 129 = some [.nilfn] := by kernel_rfl
@[simp] theorem Try.szT130 : szT Try.prog 130 = some 1 := by kernel_rfl
@[simp] theorem Try.aggT130 : aggT Try.prog 130 = some false := by kernel_rfl
@[simp] theorem Try.zeroT130 : zeroT Try.prog 130 = some [.nilfn] := by kernel_rfl
@[simp] theorem Try.szT131 : szT Try.prog 131 = some 1 := by kernel_rfl
@[simp] theorem Try.aggT131 : aggT Try.prog 131 = some false := by kernel_rfl
@[simp] theorem Try.zeroT131 : zeroT Try.prog 131 = some [.nilfn] := by kernel_rfl
@[simp] theorem Try.szT132 : szT Try.prog 132 = some 1 := by kernel_rfl
@[simp] theorem Try.aggT132 : aggT Try.prog 132 = some false := by kernel_rfl
@[simp] theorem Try.zeroT132 : zeroT Try.prog 132 = some [.nilmap] := by kernel_rfl
@[simp] theorem Try.mapT132 : mapT Try.prog 132 = some (.one .s, some (.bool false)) := by kernel_rfl
@[simp] theorem Try.szT133 : szT Try.prog 133 = some 1 := by kernel_rfl
@[simp] theorem Try.aggT133 : aggT Try.prog 133 = some false := by kernel_rfl
@[simp] theorem Try.zeroT133 : zeroT Try.prog 133 = some [.nilfn] := by kernel_rfl
@[simp] theorem Try.szT134 : szT Try.prog 134 = some 1 := by kernel_rfl
@[simp] theorem Try.aggT134 : aggT Try.prog 134 = some false := by kernel_rfl
@[simp] theorem Try.zeroT134 : zeroT Try.prog 134 = some [.nilptr] := by kernel_rfl
@[simp] theorem Try.szT135 : szT Try.prog 135 = some 2 := by kernel_rfl
@[simp] theorem Try.aggT135 : aggT Try.prog 135 = some true := by kernel_rfl
@[simp] theorem Try.zeroT135 : zeroT Try.prog 135 = some [.nilptr, .nilsl] := by kernel_rfl
@[simp] theorem Try.foT135_0 : foT Try.prog 135 0 = some (0, 134) := by kernel_rfl
@[simp] theorem Try.foT135_1 : foT Try.prog 135 1 = some (1, 77) := by kernel_rfl
@[simp] theorem Try.placesL135 : placesL Try.prog 135 = some [(0, 1), (1, 1)] := by kernel_rfl
@[simp] theorem Try.szT136 : szT Try.prog 136 = some 2 := by kernel_rfl
@[simp] theorem Try.aggT136 : aggT Try.prog 136 = some true := by kernel_rfl
@[simp] theorem Try.zeroT136 : zeroT Try.prog 136 = some [.nilptr, .nilsl] := by kernel_rfl
@[simp] theorem Try.foT136_0 : foT Try.prog 136 0 = some (0, 134) := by kernel_rfl
@[simp] theorem Try.foT136_1 : foT Try.prog 136 1 = some (1, 77) := by kernel_rfl
@[simp] theorem Try.placesL136 : placesL Try.prog 136 = some [(0, 1), (1, 1)] := by kernel_rfl
@[simp] theorem Try.szT137 : szT Try.prog 137 = some 1 := by kernel_rfl
@[simp] theorem Try.aggT137 : aggT Try.prog 137 = some false := by kernel_rfl
@[simp] theorem Try.zeroT137 : zeroT Try.prog 137 = some [.nilif] := by kernel_rfl
@[simp] theorem Try.szT138 : szT Try.prog 138 = some 1 := by kernel_rfl
@[simp] theorem Try.aggT138 : aggT Try.prog 138 = some false := by kernel_rfl
@[simp] theorem Try.zeroT138 : zeroT Try.prog 138 = some [.nilif] := by kernel_rfl
@[simp] theorem Try.szT139 : szT Try.prog 139 = some 1 := by kernel_rfl
@[simp] theorem Try.aggT139 : aggT Try.prog 139 = some false := by kernel_rfl
@[simp] theorem Try.zeroT139 : zeroT Try.prog 139 = some [.nilfn] := by kernel_rfl
@[simp] theorem Try.szT140 : szT Try.prog 140 = some 1 := by kernel_rfl
@[simp] theorem Try.aggT140 : aggT Try.prog 140 = some false := by kernel_rfl
@[simp] theorem Try.zeroT140 : zeroT Try.prog 140 = some [.nilfn] := by kernel_rfl
@[simp] theorem Try.szT141 : szT Try.prog 141 = some 1 := by kernel_rfl
@[simp] theorem Try.aggT141 : aggT Try.prog 141 = some false := by kernel_rfl
@[simp] theorem Try.zeroT141 : zeroT Try.prog 141 = some [.nilsl] := by kernel_rfl
@[simp] theorem Try.elemT141 : elemT Try.prog 141 = some (145, 1, 8, [.int .u64 0]) := by kernel_rfl
@[simp] theorem Try.rowT141 : rowT Try.prog 141 = true := by kernel_rfl
@[simp] theorem Try.szT143 : szT Try.prog 143 = some 1 := by kernel_rfl
@[simp] theorem Try.aggT143 : aggT Try.prog 143 = some false := by kernel_rfl
@[simp] theorem Try.zeroT143 : zeroT Try.prog 143 = some [.nilfn] := by kernel_rfl
@[simp] theorem Try.szT144 : szT Try.prog 144 = some 1 := by kernel_rfl
@[simp] theorem Try.aggT144 : aggT Try.prog 144 = some false := by kernel_rfl
@[simp] theorem Try.zeroT144 : zeroT Try.prog 144 = some [.int .u64 0] := by kernel_rfl
@[simp] theorem Try.szT145 : szT Try.prog 145 = some 1 := by kernel_rfl
@[simp] theorem Try.aggT145 : aggT Try.prog 145 = some false := by kernel_rfl
@[simp] theorem Try.zeroT145 : zeroT Try.prog 145 = some [.int .u64 0] := by kernel_rfl
@[simp] theorem Try.szT146 : szT Try.prog 146 = some 1 := by kernel_rfl
@[simp] theorem Try.aggT146 : aggT Try.prog 146 = some false := by kernel_rfl
@[simp] theorem Try.zeroT146 : zeroT Try.prog 146 = some [.nilfn] := by kernel_rfl
@[simp] theorem Try.szT147 : szT Try.prog 147 = some 1 := by kernel_rfl
@[simp] theorem Try.aggT147 : aggT Try.prog 147 = some false := by kernel_rfl
@[simp] theorem Try.zeroT147 : zeroT Try.prog 147 = some [.nilfn] := by kernel_rfl
@[simp] theorem Try.szT148 : szT Try.prog 148 = some 1 := by kernel_rfl
@[simp] theorem Try.aggT148 : aggT Try.prog 148 = some false := by kernel_rfl
@[simp] theorem Try.zeroT148 : zeroT Try.prog 148 = some [.nilfn] := by kernel_rfl
@[simp] theorem Try.szT149 : szT Try.prog 149 = some 1 := by kernel_rfl
@[simp] theorem Try.aggT149 : aggT Try.prog 149 = some false := by kernel_rfl
@[simp] theorem Try.zeroT149 : zeroT Try.prog 149 = some [.nilfn] := by kernel_rfl
@[simp] theorem Try.szT150 : szT Try.prog 150 = some 1 := by kernel_rfl
@[simp] theorem Try.aggT150 : aggT Try.prog 150 = some false := by kernel_rfl
@[simp] theorem Try.zeroT150 : zeroT Try.prog 150 = some [.nilsl] := by kernel_rfl
@[simp] theorem Try.elemT150 : elemT Try.prog 150 = some (154, 2, 16, [.bool false, .int .u64 0]) := by kernel_rfl
@[simp] theorem Try.rowT150 : rowT Try.prog 150 = true := by kernel_rfl
@[simp] theorem Try.szT152 : szT Try.prog 152 = some 1 := by kernel_rfl
@[simp] theorem Try.aggT152 : aggT Try.prog 152 = some false := by kernel_rfl
@[simp] theorem Try.zeroT152 : zeroT Try.prog 152 = some [.nilfn] := by kernel_rfl
@[simp] theorem Try.szT153 : szT Try.prog 153 = some 2 := by kernel_rfl
@[simp] theorem Try.aggT153 : aggT Try.prog 153 = some true := by kernel_rfl
@[simp] theorem Try.zeroT153 : zeroT Try.prog 153 = some [.bool false, .int .u64 0] := by kernel_rfl
@[simp] theorem Try.foT153_0 : foT Try.prog 153 0 = some (0, 4) := by kernel_rfl
@[simp] theorem Try.foT153_1 : foT Try.prog 153 1 = some (1, 145) := by kernel_rfl
@[simp] theorem Try.placesL153 : placesL Try.prog 153 = some [(0, 1), (1, 1)] := by kernel_rfl
@[simp] theorem Try.szT154 : szT Try.prog 154 = some 2 := by kernel_rfl
@[simp] theorem Try.aggT154 : aggT Try.prog 154 = some true := by kernel_rfl
@[simp] theorem Try.zeroT154 : zeroT Try.prog 154 = some [.bool false, .int .u64 0] := by kernel_rfl
@[simp] theorem Try.foT154_0 : foT Try.prog 154 0 = some (0, 4) := by kernel_rfl
@[simp] theorem Try.foT154_1 : foT Try.prog 154 1 = some (1, 145) := by kernel_rfl
@[simp] theorem Try.placesL154 : placesL Try.prog 154 = some [(0, 1), (1, 1)] := by kernel_rfl
@[simp] theorem Try.szT155 : szT Try.prog 155 = some 1 := by kernel_rfl
@[simp] theorem Try.aggT155 : aggT Try.prog 155 = some false := by kernel_rfl
@[simp] theorem Try.zeroT155 : zeroT Try.prog 155 = some [.nilfn] := by kernel_rfl
@[simp] theorem Try.szT156 : szT Try.prog 156 = some 1 := by kernel_rfl
@[simp] theorem Try.aggT156 : aggT Try.prog 156 = some false := by kernel_rfl
@[simp] theorem Try.zeroT156 : zeroT Try.prog 156 = some [.nilfn] := by kernel_rfl
@[simp] theorem Try.szT157 : szT Try.prog 157 = some 2 := by kernel_rfl
@[simp] theorem Try.aggT157 : aggT Try.prog 157 = some true := by kernel_rfl
@[simp] theorem Try.zeroT157 : zeroT Try.prog 157 = some [.int .i64 0, .int .u64 0] := by kernel_rfl
@[simp] theorem Try.foT157_0 : foT Try.prog 157 0 = some (0, 3) := by kernel_rfl
@[simp] theorem Try.foT157_1 : foT Try.prog 157 1 = some (1, 145) := by kernel_rfl
@[simp] theorem Try.placesL157 : placesL Try.prog 157 = some [(0, 1), (1, 1)] := by kernel_rfl
@[simp] theorem Try.szT158 : szT Try.prog 158 = some 2 := by kernel_rfl
@[simp] theorem Try.aggT158 : aggT Try.prog 158 = some true := by kernel_rfl
@[simp] theorem Try.zeroT158 : zeroT Try.prog 158 = some [.int .i64 0, .int .u64 0] := by kernel_rfl
@[simp] theorem Try.foT158_0 : foT Try.prog 158 0 = some (0, 3) := by kernel_rfl
@[simp] theorem Try.foT158_1 : foT Try.prog 158 1 = some (1, 145) := by kernel_rfl
@[simp] theorem Try.placesL158 : placesL Try.prog 158 = some [(0, 1), (1, 1)] := by kernel_rfl
@[simp] theorem Try.szT159 : szT Try.prog 159 = some 1 := by kernel_rfl
@[simp] theorem Try.aggT159 : aggT Try.prog 159 = some false := by kernel_rfl
@[simp] theorem Try.zeroT159 : zeroT Try.prog 159 = some [.nilfn] := by kernel_rfl
@[simp] theorem Try.szT160 : szT Try.prog 160 = some 1 := by kernel_rfl
@[simp] theorem Try.aggT160 : aggT Try.prog 160 = some false := by kernel_rfl
@[simp] theorem Try.zeroT160 : zeroT Try.prog 160 = some [.nilsl] := by kernel_rfl
@[simp] theorem Try.elemT160 : elemT Try.prog 160 = some (158, 2, 16, [.int .i64 0, .int .u64 0]) := by kernel_rfl
@[simp] theorem Try.rowT160 : rowT Try.prog 160 = true := by kernel_rfl
@[simp] theorem Try.szT162 : szT Try.prog 162 = some 1 := by kernel_rfl
@[simp] theorem Try.aggT162 : aggT Try.prog 162 = some false := by kernel_rfl
@[simp] theorem Try.zeroT162 : zeroT Try.prog 162 = some [.nilfn] := by kernel_rfl
@[simp] theorem Try.szT163 : szT Try.prog 163 = some 1 := by kernel_rfl
@[simp] theorem Try.aggT163 : aggT Try.prog 163 = some false := by kernel_rfl
@[simp] theorem Try.zeroT163 : zeroT Try.prog 163 = some [.nilfn] := by kernel_rfl
@[simp] theorem Try.szT164 : szT Try.prog 164 = some 1 := by kernel_rfl
@[simp] theorem Try.aggT164 : aggT Try.prog 164 = some false := by kernel_rfl
@[simp] theorem Try.zeroT164 : zeroT Try.prog 164 = some [.nilfn] := by kernel_rfl
@[simp] theorem Try.szT166 : szT Try.prog 166 = some 1 := by kernel_rfl
@[simp] theorem Try.aggT166 : aggT Try.prog 166 = some false := by kernel_rfl
@[simp] theorem Try.zeroT166 : zeroT Try.prog 166 = some [.nilfn] := by kernel_rfl
@[simp] theorem Try.szT167 : szT Try.prog 167 = some 1 := by kernel_rfl
@[simp] theorem Try.aggT167 : aggT Try.prog 167 = some false := by kernel_rfl
@[simp] theorem Try.zeroT167 : zeroT Try.prog 167 = some [.nilfn] := by kernel_rfl
@[simp] theorem Try.szT168 : szT Try.prog 168 = some 1 := by kernel_rfl
@[simp] theorem Try.aggT168 : aggT Try.prog 168 = some false := by kernel_rfl
@[simp] theorem Try.zeroT168 : zeroT Try.prog 168 = some [.nilfn] := by kernel_rfl
@[simp] theorem Try.szT169 : szT Try.prog 169 = some 10 := by kernel_rfl
@[simp] theorem Try.aggT169 : aggT Try.prog 169 = some true := by kernel_rfl
@[simp] theorem Try.zeroT169 : zeroT Try.prog 169 = some [.int .i64 0, .nilmap, .nilsl, .nilsl, .int .i64 0, .str [], .int .i64 0, .nilsl, .nilsl, .nilfn] := by kernel_rfl
@[simp] theorem Try.foT169_0 : foT Try.prog 169 0 = some (0, 3) := by kernel_rfl
@[simp] theorem Try.foT169_1 : foT Try.prog 169 1 = some (1, 132) := by kernel_rfl
@[simp] theorem Try.foT169_2 : foT Try.prog 169 2 = some (2, 34) := by kernel_rfl
@[simp] theorem Try.foT169_3 : foT Try.prog 169 3 = some (3, 34) := by kernel_rfl
@[simp] theorem Try.foT169_4 : foT Try.prog 169 4 = some (4, 3) := by kernel_rfl
@[simp] theorem Try.foT169_5 : foT Try.prog 169 5 = some (5, 9) := by kernel_rfl
@[simp] theorem Try.foT169_6 : foT Try.prog 169 6 = some (6, 102) := by kernel_rfl
@[simp] theorem Try.foT169_7 : foT Try.prog 169 7 = some (9, 168) := by kernel_rfl
@[simp] theorem Try.placesL169 : placesL Try.prog 169 = some [(0, 1), (1, 1), (2, 1), (3, 1), (4, 1), (5, 1), (6, 3), (9, 1)] := by kernel_rfl
@[simp] theorem Try.szT170 : szT Try.prog 170 = some 10 := by kernel_rfl
@[simp] theorem Try.aggT170 : aggT Try.prog 170 = some true := by kernel_rfl
@[simp] theorem Try.zeroT170 : zeroT Try.prog 170 = some [.int .i64 0, .nilmap, .nilsl, .nilsl, .int .i64 0, .str [], .int .i64 0, .nilsl, .nilsl, .nilfn] := by kernel_rfl
@[simp] theorem Try.foT170_0 : foT Try.prog 170 0 = some (0, 3) := by kernel_rfl
@[simp] theorem Try.foT170_1 : foT Try.prog 170 1 = some (1, 132) := by kernel_rfl
@[simp] theorem Try.foT170_2 : foT Try.prog 170 2 = some (2, 34) := by kernel_rfl
@[simp] theorem Try.foT170_3 : foT Try.prog 170 3 = some (3, 34) := by kernel_rfl
@[simp] theorem Try.foT170_4 : foT Try.prog 170 4 = some (4, 3) := by kernel_rfl
@[simp] theorem Try.foT170_5 : foT Try.prog 170 5 = some (5, 9) := by kernel_rfl
@[simp] theorem Try.foT170_6 : foT Try.prog 170 6 = some (6, 102) := by kernel_rfl
@[simp] theorem Try.foT170_7 : foT Try.prog 170 7 = some (9, 168) := by kernel_rfl
@[simp] theorem Try.placesL170 : placesL Try.prog 170 = some [(0, 1), (1, 1), (2, 1), (3, 1), (4, 1), (5, 1), (6, 3), (9, 1)] := by kernel_rfl
@[simp] theorem Try.szT171 : szT Try.prog 171 = some 1 := by kernel_rfl
@[simp] theorem Try.aggT171 : aggT Try.prog 171 = some false := by kernel_rfl
@[simp] theorem Try.zeroT171 : zeroT Try.prog 171 = some [.nilfn] := by kernel_rfl
@[simp] theorem Try.szT172 : szT Try.prog 172 = some 1 := by kernel_rfl
@[simp] theorem Try.aggT172 : aggT Try.prog 172 = some false := by kernel_rfl
@[simp] theorem Try.zeroT172 : zeroT Try.prog 172 = some [.nilfn] := by kernel_rfl
@[simp] theorem Try.szT173 : szT Try.prog 173 = some 1 := by kernel_rfl
@[simp] theorem Try.aggT173 : aggT Try.prog 173 = some false := by kernel_rfl
@[simp] theorem Try.zeroT173 : zeroT Try.prog 173 = some [.nilfn] := by kernel_rfl
@[simp] theorem Try.szT175 : szT Try.prog 175 = some 1 := by kernel_rfl
@[simp] theorem Try.aggT175 : aggT Try.prog 175 = some false := by kernel_rfl
@[simp] theorem Try.zeroT175 : zeroT Try.prog 175 = some [.nilfn] := by kernel_rfl
@[simp] theorem Try.szT176 : szT Try.prog 176 = some 1 := by kernel_rfl
@[simp] theorem Try.aggT176 : aggT Try.prog 176 = some false := by kernel_rfl
@[simp] theorem Try.zeroT176 : zeroT Try.prog 176 = some [.nilfn] := by kernel_rfl
@[simp] theorem Try.szT177 : szT Try.prog 177 = some 4 := by kernel_rfl
@[simp] theorem Try.aggT177 : aggT Try.prog 177 = some true := by kernel_rfl
@[simp] theorem Try.zeroT177 : zeroT Try.prog 177 = some [.int .i64 0, .int .i64 0, .int .i64 0, .int .i64 0] := by kernel_rfl
@[simp] theorem Try.placesL177 : placesL Try.prog 177 = some [(0, 1), (1, 1), (2, 1), (3, 1)] := by kernel_rfl
@[simp] theorem Try.szT178 : szT Try.prog 178 = some 5 := by kernel_rfl
@[simp] theorem Try.aggT178 : aggT Try.prog 178 = some true := by kernel_rfl
@[simp] theorem Try.zeroT178 : zeroT Try.prog 178 = some [.int .i64 0, .int .i64 0, .int .i64 0, .int .i64 0, .int .i64 0] := by kernel_rfl
@[simp] theorem Try.foT178_0 : foT Try.prog 178 0 = some (0, 3) := by kernel_rfl
@[simp] theorem Try.foT178_1 : foT Try.prog 178 1 = some (1, 177) := by kernel_rfl
@[simp] theorem Try.placesL178 : placesL Try.prog 178 = some [(0, 1), (1, 4)] := by kernel_rfl
@[simp] theorem Try.szT179 : szT Try.prog 179 = some 5 := by kernel_rfl
@[simp] theorem Try.aggT179 : aggT Try.prog 179 = some true := by kernel_rfl
@[simp] theorem Try.zeroT179 : zeroT Try.prog 179 = some [.int .i64 0, .int .i64 0, .int .i64 0, .int .i64 0, .int .i64 0] := by kernel_rfl
@[simp] theorem Try.foT179_0 : foT Try.prog 179 0 = some (0, 3) := by kernel_rfl
@[simp] theorem Try.foT179_1 : foT Try.prog 179 1 = some (1, 177) := by kernel_rfl
@[simp] theorem Try.placesL179 : placesL Try.prog 179 = some [(0, 1), (1, 4)] := by kernel_rfl
@[simp] theorem Try.szT180 : szT Try.prog 180 = some 1 := by kernel_rfl
@[simp] theorem Try.aggT180 : aggT Try.prog 180 = some false := by kernel_rfl
@[simp] theorem Try.zeroT180 : zeroT Try.prog 180 = some [.nilfn] := by kernel_rfl
@[simp] theorem Try.szT182 : szT Try.prog 182 = some 1 := by kernel_rfl
@[simp] theorem Try.aggT182 : aggT Try.prog 182 = some false := by kernel_rfl
@[simp] theorem Try.zeroT182 : zeroT Try.prog 182 = some [.nilfn] := by kernel_rfl
@[simp] theorem Try.szT183 : szT Try.prog 183 = some 1 := by kernel_rfl
@[simp] theorem Try.aggT183 : aggT Try.prog 183 = some false := by kernel_rfl
@[simp] theorem Try.zeroT183 : zeroT Try.prog 183 = some [.nilfn] := by kernel_rfl
@[simp] theorem Try.szT184 : szT Try.prog 184 = some 1 := by kernel_rfl
@[simp] theorem Try.aggT184 : aggT Try.prog 184 = some false := by kernel_rfl
@[simp] theorem Try.zeroT184 : zeroT Try.prog 184 = some [.nilfn] := by kernel_rfl
@[simp] theorem Try.szT185 : szT Try.prog 185 = some 1 := by kernel_rfl
@[simp] theorem Try.aggT185 : aggT Try.prog 185 = some false := by kernel_rfl
@[simp] theorem Try.zeroT185 : zeroT Try.prog 185 = some [.nilfn] := by kernel_rfl
@[simp] theorem Try.szT186 : szT Try.prog 186 = some 1 := by kernel_rfl
@[simp] theorem Try.aggT186 : aggT Try.prog 186 = some false := by kernel_rfl
@[simp] theorem Try.zeroT186 : zeroT Try.prog 186 = some [.nilfn] := by kernel_rfl
@[simp] theorem Try.szT187 : szT Try.prog 187 = some 1 := by kernel_rfl
@[simp] theorem Try.aggT187 : aggT Try.prog 187 = some false := by kernel_rfl
@[simp] theorem Try.zeroT187 : zeroT Try.prog 187 = some [.nilfn] := by kernel_rfl
@[simp] theorem Try.szT188 : szT Try.prog 188 = some 1 := by kernel_rfl
@[simp] theorem Try.aggT188 : aggT Try.prog 188 = some false := by kernel_rfl
@[simp] theorem Try.zeroT188 : zeroT Try.prog 188 = some [.nilsl] := by kernel_rfl
@[simp] theorem Try.elemT188 : elemT Try.prog 188 = some (28, 3, 56, [.int .i64 0, .nilsl, .nilsl]) := by kernel_rfl
@[simp] theorem Try.rowT188 : rowT Try.prog 188 = true := by kernel_rfl
@[simp] theorem Try.szT189 : szT Try.prog 189 = some 1 := by kernel_rfl
@[simp] theorem Try.aggT189 : aggT Try.prog 189 = some false := by kernel_rfl
@[simp] theorem Try.zeroT189 : zeroT Try.prog 189 = some [.nilmap] := by kernel_rfl
@[simp] theorem Try.mapT189 : mapT Try.prog 189 = some (.many [.i .i64, .i .i64], some (.int .i64 0)) := by kernel_rfl
@[simp] theorem Try.szT192 : szT Try.prog 192 = some 1 := by kernel_rfl
@[simp] theorem Try.aggT192 : aggT Try.prog 192 = some false := by kernel_rfl
@[simp] theorem Try.zeroT192 : zeroT Try.prog 192 = some [.nilfn] := by kernel_rfl
@[simp] theorem Try.szT193 : szT Try.prog 193 = some 1 := by kernel_rfl
@[simp] theorem Try.aggT193 : aggT Try.prog 193 = some false := by kernel_rfl
@[simp] theorem Try.zeroT193 : zeroT Try.prog 193 = some [.nilfn] := by kernel_rfl
@[simp] theorem Try.szT194 : szT Try.prog 194 = some 1 := by kernel_rfl
@[simp] theorem Try.aggT194 : aggT Try.prog 194 = some false := by kernel_rfl
@[simp] theorem Try.zeroT194 : zeroT Try.prog 194 = some [.nilptr] := by kernel_rfl
@[simp] theorem Try.szT195 : szT Try.prog 195 = some 1 := by kernel_rfl
@[simp] theorem Try.aggT195 : aggT Try.prog 195 = some false := by kernel_rfl
@[simp] theorem Try.zeroT195 : zeroT Try.prog 195 = some [.nilmap] := by kernel_rfl
@[simp] theorem Try.mapT195 : mapT Try.prog 195 = some (.one (.i .u64), some (.int .i64 0)) := by kernel_rfl
@[simp] theorem Try.szT196 : szT Try.prog 196 = some 1 := by kernel_rfl
@[simp] theorem Try.aggT196 : aggT Try.prog 196 = some false := by kernel_rfl
@[simp] theorem Try.zeroT196 : zeroT Try.prog 196 = some [.nilmap] := by kernel_rfl
@[simp] theorem Try.mapT196 : mapT Try.prog 196 = some (.many [.b, .i .u64], some (.int .i64 0)) := by kernel_rfl
@[simp] theorem Try.szT197 : szT Try.prog 197 = some 1 := by kernel_rfl
@[simp] theorem Try.aggT197 : aggT Try.prog 197 = some false := by kernel_rfl
@[simp] theorem Try.zeroT197 : zeroT Try.prog 197 = some [.nilmap] := by kernel_rfl
@[simp] theorem Try.mapT197 : mapT Try.prog 197 = some (.many [.i .i64, .i .u64], some (.int .i64 0)) := by kernel_rfl
@[simp] theorem Try.szT198 : szT Try.prog 198 = some 1 := by kernel_rfl
@[simp] theorem Try.aggT198 : aggT Try.prog 198 = some false := by kernel_rfl
@[simp] theorem Try.zeroT198 : zeroT Try.prog 198 = some [.nilsl] := by kernel_rfl
@[simp] theorem Try.elemT198 : elemT Try.prog 198 = some (22, 1, 24, [.nilsl]) := by kernel_rfl
@[simp] theorem Try.rowT198 : rowT Try.prog 198 = true := by kernel_rfl
@[simp] theorem Try.szT199 : szT Try.prog 199 = some 5 := by kernel_rfl
@[simp] theorem Try.aggT199 : aggT Try.prog 199 = some true := by kernel_rfl
@[simp] theorem Try.zeroT199 : zeroT Try.prog 199 = some [.int .i64 0, .nilsl, .nilsl, .nilsl, .nilsl] := by kernel_rfl
@[simp] theorem Try.foT199_0 : foT Try.prog 199 0 = some (0, 3) := by kernel_rfl
@[simp] theorem Try.foT199_1 : foT Try.prog 199 1 = some (1, 198) := by kernel_rfl
@[simp] theorem Try.foT199_2 : foT Try.prog 199 2 = some (2, 22) := by kernel_rfl
@[simp] theorem Try.foT199_3 : foT Try.prog 199 3 = some (3, 97) := by kernel_rfl
@[simp] theorem Try.foT199_4 : foT Try.prog 199 4 = some (4, 23) := by kernel_rfl
@[simp] theorem Try.placesL199 : placesL Try.prog 199 = some [(0, 1), (1, 1), (2, 1), (3, 1), (4, 1)] := by kernel_rfl
@[simp] theorem Try.szT200 : szT Try.prog 200 = some 5 := by kernel_rfl
@[simp] theorem Try.aggT200 : aggT Try.prog 200 = some true := by kernel_rfl
@[simp] theorem Try.zeroT200 : zeroT Try.prog 200 = some [.int .i64 0, .nilsl, .nilsl, .nilsl, .nilsl] := by kernel_rfl
@[simp] theorem Try.foT200_0 : foT Try.prog 200 0 = some (0, 3) := by kernel_rfl
@[simp] theorem Try.foT200_1 : foT Try.prog 200 1 = some (1, 198) := by kernel_rfl
@[simp] theorem Try.foT200_2 : foT Try.prog 200 2 = some (2, 22) := by kernel_rfl
@[simp] theorem Try.foT200_3 : foT Try.prog 200 3 = some (3, 97) := by kernel_rfl
@[simp] theorem Try.foT200_4 : foT Try.prog 200 4 = some (4, 23) := by kernel_rfl
@[simp] theorem Try.placesL200 : placesL Try.prog 200 = some [(0, 1), (1, 1), (2, 1), (3, 1), (4, 1)] := by kernel_rfl
@[simp] theorem Try.szT201 : szT Try.prog 201 = some 1 := by kernel_rfl
@[simp] theorem Try.aggT201 : aggT Try.prog 201 = some false := by kernel_rfl
@[simp] theorem Try.zeroT201 : zeroT Try.prog 201 = some [.nilfn] := by kernel_rfl
@[simp] theorem Try.szT202 : szT Try.prog 202 = some 1 := by kernel_rfl
@[simp] theorem Try.aggT202 : aggT Try.prog 202 = some false := by kernel_rfl
@[simp] theorem Try.zeroT202 : zeroT Try.prog 202 = some [.nilfn] := by kernel_rfl
@[simp] theorem Try.szT203 : szT Try.prog 203 = some 1 := by kernel_rfl
@[simp] theorem Try.aggT203 : aggT Try.prog 203 = some false := by kernel_rfl
@[simp] theorem Try.zeroT203 : zeroT Try.prog 203 = some [.nilmap] := by kernel_rfl
@[simp] theorem Try.mapT203 : mapT Try.prog 203 = some (.one .s, some (.int .i64 0)) := by kernel_rfl
@[simp] theorem Try.szT204 : szT Try.prog 204 = some 1 := by kernel_rfl
@[simp] theorem Try.aggT204 : aggT Try.prog 204 = some false := by kernel_rfl
@[simp] theorem Try.zeroT204 : zeroT Try.prog 204 = some [.nilfn] := by kernel_rfl
@[simp] theorem Try.szT206 : szT Try.prog 206 = some 1 := by kernel_rfl
@[simp] theorem Try.aggT206 : aggT Try.prog 206 = some false := by kernel_rfl
@[simp] theorem Try.zeroT206 : zeroT Try.prog 206 = some [.nilfn] := by kernel_rfl
@[simp] theorem Try.szT207 : szT Try.prog 207 = some 1 := by kernel_rfl
@[simp] theorem Try.aggT207 : aggT Try.prog 207 = some false := by kernel_rfl
@[simp] theorem Try.zeroT207 : zeroT Try.prog 207 = some [.nilfn] := by kernel_rfl
@[simp] theorem Try.szT208 : szT Try.prog 208 = some 1 := by kernel_rfl
@[simp] theorem Try.aggT208 : aggT Try.prog 208 = some false := by kernel_rfl
@[simp] theorem Try.zeroT208 : zeroT Try.prog 208 = some [.nilfn] := by kernel_rfl
@[simp] theorem Try.szT209 : szT Try.prog 209 = some 1 := by kernel_rfl
@[simp] theorem Try.aggT209 : aggT Try.prog 209 = some false := by kernel_rfl
@[simp] theorem Try.zeroT209 : zeroT Try.prog 209 = some [.nilmap] := by kernel_rfl
@[simp] theorem Try.mapT209 : mapT Try.prog 209 = some (.one .b, some (.int .i64 0)) := by kernel_rfl
@[simp] theorem Try.szT210 : szT Try.prog 210 = some 1 := by kernel_rfl
@[simp] theorem Try.aggT210 : aggT Try.prog 210 = some false := by kernel_rfl
@[simp] theorem Try.zeroT210 : zeroT Try.prog 210 = some [.nilmap] := by kernel_rfl
@[simp] theorem Try.mapT210 : mapT Try.prog 210 = some (.many [.i .i64, .i .i64, .i .i64, .i .i64, .i .i64], some (.int .i64 0)) := by kernel_rfl
@[simp] theorem Try.szT211 : szT Try.prog 211 = some 1 := by kernel_rfl
@[simp] theorem Try.aggT211 : aggT Try.prog 211 = some false := by kernel_rfl
@[simp] theorem Try.zeroT211 : zeroT Try.prog 211 = some [.nilmap] := by kernel_rfl
@[simp] theorem Try.mapT211 : mapT Try.prog 211 = some (.one (.i .i64), some (.int .i64 0)) := by kernel_rfl
@[simp] theorem Try.szT213 : szT Try.prog 213 = some 1 := by kernel_rfl
@[simp] theorem Try.aggT213 : aggT Try.prog 213 = some false := by kernel_rfl
@[simp] theorem Try.zeroT213 : zeroT Try.prog 213 = some [.nilfn] := by kernel_rfl
@[simp] theorem Try.szT214 : szT Try.prog 214 = some 1 := by kernel_rfl
@[simp] theorem Try.aggT214 : aggT Try.prog 214 = some false := by kernel_rfl
@[simp] theorem Try.zeroT214 : zeroT Try.prog 214 = some [.nilfn] := by kernel_rfl
@[simp] theorem Try.szT215 : szT Try.prog 215 = some 1 := by kernel_rfl
@[simp] theorem Try.aggT215 : aggT Try.prog 215 = some false := by kernel_rfl
@[simp] theorem Try.zeroT215 : zeroT Try.prog 215 = some [.nilfn] := by kernel_rfl
@[simp] theorem Try.szT216 : szT Try.prog 216 = some 1 := by kernel_rfl
@[simp] theorem Try.aggT216 : aggT Try.prog 216 = some false := by kernel_rfl
@[simp] theorem Try.zeroT216 : zeroT Try.prog 216 = some [.nilfn] := by kernel_rfl
@[simp] theorem Try.szT217 : szT Try.prog 217 = some 4 := by kernel_rfl
@[simp] theorem Try.aggT217 : aggT Try.prog 217 = some true := by kernel_rfl
@[simp] theorem Try.zeroT217 : zeroT Try.prog 217 = some [.nilptr, .nilptr, .nilptr, .str []] := by kernel_rfl
@[simp] theorem Try.foT217_0 : foT Try.prog 217 0 = some (0, 17) := by kernel_rfl
@[simp] theorem Try.foT217_1 : foT Try.prog 217 1 = some (1, 17) := by kernel_rfl
@[simp] theorem Try.foT217_2 : foT Try.prog 217 2 = some (2, 17) := by kernel_rfl
@[simp] theorem Try.foT217_3 : foT Try.prog 217 3 = some (3, 9) := by kernel_rfl
@[simp] theorem Try.placesL217 : placesL Try.prog 217 = some [(0, 1), (1, 1), (2, 1), (3, 1)] := by kernel_rfl
@[simp] theorem Try.szT218 : szT Try.prog 218 = some 4 := by kernel_rfl
@[simp] theorem Try.aggT218 : aggT Try.prog 218 = some true := by kernel_rfl
@[simp] theorem Try.zeroT218 : zeroT Try.prog 218 = some [.nilptr, .nilptr, .nilptr, .str []] := by kernel_rfl
@[simp] theorem Try.foT218_0 : foT Try.prog 218 0 = some (0, 17) := by kernel_rfl
@[simp] theorem Try.foT218_1 : foT Try.prog 218 1 = some (1, 17) := by kernel_rfl
@[simp] theorem Try.foT218_2 : foT Try.prog 218 2 = some (2, 17) := by kernel_rfl
@[simp] theorem Try.foT218_3 : foT Try.prog 218 3 = some (3, 9) := by kernel_rfl
@[simp] theorem Try.placesL218 : placesL Try.prog 218 = some [(0, 1), (1, 1), (2, 1), (3, 1)] := by kernel_rfl
@[simp] theorem Try.szT219 : szT Try.prog 219 = some 0 := by kernel_rfl
@[simp] theorem Try.aggT219 : aggT Try.prog 219 = some true := by kernel_rfl
@[simp] theorem Try.zeroT219 : zeroT Try.prog 219 = some [] := by kernel_rfl
@[simp] theorem Try.placesL219 : placesL Try.prog 219 = some [] := by kernel_rfl
@[simp] theorem Try.szT220 : szT Try.prog 220 = some 0 := by kernel_rfl
@[simp] theorem Try.aggT220 : aggT Try.prog 220 = some true := by kernel_rfl
@[simp] theorem Try.zeroT220 : zeroT Try.prog 220 = some [] := by kernel_rfl
@[simp] theorem Try.foT220_0 : foT Try.prog 220 0 = some (0, 219) := by kernel_rfl
@[simp] theorem Try.placesL220 : placesL Try.prog 220 = some [(0, 0)] := by kernel_rfl
@[simp] theorem Try.szT221 : szT Try.prog 221 = some 0 := by kernel_rfl
@[simp] theorem Try.aggT221 : aggT Try.prog 221 = some true := by kernel_rfl
@[simp] theorem Try.zeroT221 : zeroT Try.prog 221 = some [] := by kernel_rfl
@[simp] theorem Try.foT221_0 : foT Try.prog 221 0 = some (0, 219) := by kernel_rfl
@[simp] theorem Try.placesL221 : placesL Try.prog 221 = some [(0, 0)] := by kernel_rfl
@[simp] theorem Try.szT222 : szT Try.prog 222 = some 1 := by kernel_rfl
@[simp] theorem Try.aggT222 : aggT Try.prog 222 = some false := by kernel_rfl
@[simp] theorem Try.zeroT222 : zeroT Try.prog 222 = some [.nilfn] := by kernel_rfl
@[simp] theorem Try.szT223 : szT Try.prog 223 = some 1 := by kernel_rfl
@[simp] theorem Try.aggT223 : aggT Try.prog 223 = some false := by kernel_rfl
@[simp] theorem Try.zeroT223 : zeroT Try.prog 223 = some [.int .u32 0] := by kernel_rfl
@[simp] theorem Try.szT224 : szT Try.prog 224 = some 1 := by kernel_rfl
@[simp] theorem Try.aggT224 : aggT Try.prog 224 = some false := by kernel_rfl
@[simp] theorem Try.zeroT224 : zeroT Try.prog 224 = some [.int .u8 0] := by kernel_rfl
@[simp] theorem Try.szT225 : szT Try.prog 225 = some 1 := by kernel_rfl
@[simp] theorem Try.aggT225 : aggT Try.prog 225 = some false := by kernel_rfl
@[simp] theorem Try.zeroT225 : zeroT Try.prog 225 = some [.int .u8 0] := by kernel_rfl
@[simp] theorem Try.szT226 : szT Try.prog 226 = some 1 := by kernel_rfl
@[simp] theorem Try.aggT226 : aggT Try.prog 226 = some false := by kernel_rfl
@[simp] theorem Try.zeroT226 : zeroT Try.prog 226 = some [.nilfn] := by kernel_rfl
@[simp] theorem Try.szT227 : szT Try.prog 227 = some 1 := by kernel_rfl
@[simp] theorem Try.aggT227 : aggT Try.prog 227 = some false := by kernel_rfl
@[simp] theorem Try.zeroT227 : zeroT Try.prog 227 = some [.int .i32 0] := by kernel_rfl
@[simp] theorem Try.szT228 : szT Try.prog 228 = some 1 := by kernel_rfl
@[simp] theorem Try.aggT228 : aggT Try.prog 228 = some false := by kernel_rfl
@[simp] theorem Try.zeroT228 : zeroT Try.prog 228 = some [.int .i32 0] := by kernel_rfl
@[simp] theorem Try.szT229 : szT Try.prog 229 = some 11 := by kernel_rfl
@[simp] theorem Try.aggT229 : aggT Try.prog 229 = some true := by kernel_rfl
@[simp] theorem Try.zeroT229 : zeroT Try.prog 229 = some [.int .u64 0, .int .u64 0, .int .u32 0, .int .u8 0, .int .u8 0, .int .u8 0, .int .u8 0, .nilfn, .nilptr, .int .i32 0, .int .i32 0] := by kernel_rfl
@[simp] theorem Try.foT229_0 : foT Try.prog 229 0 = some (0, 12) := by kernel_rfl
@[simp] theorem Try.foT229_1 : foT Try.prog 229 1 = some (1, 12) := by kernel_rfl
@[simp] theorem Try.foT229_2 : foT Try.prog 229 2 = some (2, 223) := by kernel_rfl
@[simp] theorem Try.foT229_3 : foT Try.prog 229 3 = some (3, 224) := by kernel_rfl
@[simp] theorem Try.foT229_4 : foT Try.prog 229 4 = some (4, 5) := by kernel_rfl
@[simp] theorem Try.foT229_5 : foT Try.prog 229 5 = some (5, 5) := by kernel_rfl
@[simp] theorem Try.foT229_6 : foT Try.prog 229 6 = some (6, 225) := by kernel_rfl
@[simp] theorem Try.foT229_7 : foT Try.prog 229 7 = some (7, 226) := by kernel_rfl
@[simp] theorem Try.foT229_8 : foT Try.prog 229 8 = some (8, 194) := by kernel_rfl
@[simp] theorem Try.foT229_9 : foT Try.prog 229 9 = some (9, 227) := by kernel_rfl
@[simp] theorem Try.foT229_10 : foT Try.prog 229 10 = some (10, 228) := by kernel_rfl
@[simp] theorem Try.placesL229 : placesL Try.prog 229 = some [(0, 1), (1, 1), (2, 1), (3, 1), (4, 1), (5, 1), (6, 1), (7, 1), (8, 1), (9, 1), (10, 1)] := by kernel_rfl
@[simp] theorem Try.szT230 : szT Try.prog 230 = some 11 := by kernel_rfl
@[simp] theorem Try.aggT230 : aggT Try.prog 230 = some true := by kernel_rfl
@[simp] theorem Try.zeroT230 : zeroT Try.prog 230 = some [.int .u64 0, .int .u64 0, .int .u32 0, .int .u8 0, .int .u8 0, .int .u8 0, .int .u8 0, .nilfn, .nilptr, .int .i32 0, .int .i32 0] := by kernel_rfl
@[simp] theorem Try.foT230_0 : foT Try.prog 230 0 = some (0, 12) := by kernel_rfl
@[simp] theorem Try.foT230_1 : foT Try.prog 230 1 = some (1, 12) := by kernel_rfl
@[simp] theorem Try.foT230_2 : foT Try.prog 230 2 = some (2, 223) := by kernel_rfl
@[simp] theorem Try.foT230_3 : foT Try.prog 230 3 = some (3, 224) := by kernel_rfl
@[simp] theorem Try.foT230_4 : foT Try.prog 230 4 = some (4, 5) := by kernel_rfl
@[simp] theorem Try.foT230_5 : foT Try.prog 230 5 = some (5, 5) := by kernel_rfl
@[simp] theorem Try.foT230_6 : foT Try.prog 230 6 = some (6, 225) := by kernel_rfl
@[simp] theorem Try.foT230_7 : foT Try.prog 230 7 = some (7, 226) := by kernel_rfl
@[simp] theorem Try.foT230_8 : foT Try.prog 230 8 = some (8, 194) := by kernel_rfl
@[simp] theorem Try.foT230_9 : foT Try.prog 230 9 = some (9, 227) := by kernel_rfl
@[simp] theorem Try.foT230_10 : foT Try.prog 230 10 = some (10, 228) := by kernel_rfl
@[simp] theorem Try.placesL230 : placesL Try.prog 230 = some [(0, 1), (1, 1), (2, 1), (3, 1), (4, 1), (5, 1), (6, 1), (7, 1), (8, 1), (9, 1), (10, 1)] := by kernel_rfl
attribute [simp] Try.underlying1 Try.underlying2 Try.underlying3 Try.underlying4 Try.underlying5 Try.underlying6 Try.underlying9 Try.underlying10 Try.underlying11 Try.underlying12 Try.underlying15 Try.underlying16 Try.underlying17 Try.underlying20 Try.underlying21 Try.underlying22 Try.underlying23 Try.underlying26 Try.underlying27 Try.underlying29 Try.underlying30 Try.underlying32 Try.underlying33 Try.underlying34 Try.underlying36 Try.underlying37 Try.underlying38 Try.underlying39 Try.underlying40 Try.underlying42 Try.underlying43 Try.underlying45 Try.underlying46 Try.underlying47 Try.underlying48 Try.underlying50 Try.underlying51 Try.underlying53 Try.underlying54 Try.underlying55 Try.underlying56 Try.underlying57 Try.underlying59 Try.underlying60 Try.underlying61 Try.underlying62 Try.underlying63 Try.underlying64 Try.underlying65 Try.underlying66 Try.underlying67 Try.underlying69 Try.underlying71 Try.underlying73 Try.underlying74 Try.underlying75 Try.underlying76 Try.underlying77 Try.underlying78 Try.underlying79 Try.underlying80 Try.underlying81 Try.underlying82 Try.underlying83 Try.underlying85 Try.underlying87 Try.underlying89 Try.underlying90 Try.underlying91 Try.underlying92 Try.underlying93 Try.underlying94 Try.underlying95 Try.underlying96 Try.underlying97 Try.underlying98 Try.underlying99 Try.underlying100 Try.underlying103 Try.underlying104 Try.underlying105 Try.underlying106 Try.underlying107 Try.underlying108 Try.underlying109 Try.underlying110 Try.underlying111 Try.underlying112 Try.underlying113 Try.underlying114 Try.underlying115 Try.underlying116 Try.underlying117 Try.underlying118 Try.underlying119 Try.underlying120 Try.underlying121 Try.underlying123 Try.underlying124 Try.underlying127 Try.underlying129 Try.underlying130 Try.underlying131 Try.underlying132 Try.underlying133 Try.underlying134 Try.underlying137 Try.underlying138 Try.underlying139 Try.underlying140 Try.underlying141 Try.underlying143 Try.underlying144 Try.underlying145 Try.underlying146 Try.underlying147 Try.underlying148 Try.underlying149 Try.underlying150 Try.underlying152 Try.underlying155 Try.underlying156 Try.underlying159 Try.underlying160 Try.underlying162 Try.underlying163 Try.underlying164 Try.underlying166 Try.underlying167 Try.underlying168 Try.underlying171 Try.underlying172 Try.underlying173 Try.underlying175 Try.underlying176 Try.underlying177 Try.underlying180 Try.underlying182 Try.underlying183 Try.underlying184 Try.underlying185 Try.underlying186 Try.underlying187 Try.underlying188 Try.underlying189 Try.underlying192 Try.underlying193 Try.underlying194 Try.underlying195 Try.underlying196 Try.underlying197 Try.underlying198 Try.underlying201 Try.underlying202 Try.underlying203 Try.underlying204 Try.underlying206 Try.underlying207 Try.underlying208 Try.underlying209 Try.underlying210 Try.underlying211 Try.underlying213 Try.underlying214 Try.underlying215 Try.underlying216 Try.underlying219 Try.underlying222 Try.underlying223 Try.underlying224 Try.underlying225 Try.underlying226 Try.underlying227 Try.underlying228
end Go.Proofs
