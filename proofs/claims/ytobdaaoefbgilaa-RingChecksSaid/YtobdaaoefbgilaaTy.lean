/-
  Facts on the types of this translation, each by computation. Written by a program (types.py).
-/
import Derived.Test.YtobdaaoefbgilaaA3
import Derived.Test.YtobdaaoefbgilaaProg
import Derived.KernelRfl
set_option linter.unusedSimpArgs false
set_option linter.unusedVariables false
set_option linter.unusedSectionVars false
namespace Go.Proofs
open Go Go.AH
@[simp] theorem Try.szT1 : szT Try.prog 1 = some 1 := by kernel_rfl
@[simp] theorem Try.aggT1 : aggT Try.prog 1 = some false := by kernel_rfl
@[simp] theorem Try.zeroT1 : zeroT Try.prog 1 = some [.nilfn] := by kernel_rfl
@[simp] theorem Try.szT2 : szT Try.prog 2 = some 1 := by kernel_rfl
@[simp] theorem Try.aggT2 : aggT Try.prog 2 = some false := by kernel_rfl
@[simp] theorem Try.zeroT2 : zeroT Try.prog 2 = some [.int .i64 0] := by kernel_rfl
@[simp] theorem Try.szT3 : szT Try.prog 3 = some 1 := by kernel_rfl
@[simp] theorem Try.aggT3 : aggT Try.prog 3 = some false := by kernel_rfl
@[simp] theorem Try.zeroT3 : zeroT Try.prog 3 = some [.int .i64 0] := by kernel_rfl
@[simp] theorem Try.szT4 : szT Try.prog 4 = some 1 := by kernel_rfl
@[simp] theorem Try.aggT4 : aggT Try.prog 4 = some false := by kernel_rfl
@[simp] theorem Try.zeroT4 : zeroT Try.prog 4 = some [.bool false] := by kernel_rfl
@[simp] theorem Try.szT5 : szT Try.prog 5 = some 1 := by kernel_rfl
@[simp] theorem Try.aggT5 : aggT Try.prog 5 = some false := by kernel_rfl
@[simp] theorem Try.zeroT5 : zeroT Try.prog 5 = some [.int .u8 0] := by kernel_rfl
@[simp] theorem Try.szT6 : szT Try.prog 6 = some 1 := by kernel_rfl
@[simp] theorem Try.aggT6 : aggT Try.prog 6 = some false := by kernel_rfl
@[simp] theorem Try.zeroT6 : zeroT Try.prog 6 = some [.int .u8 0] := by kernel_rfl
@[simp] theorem Try.szT7 : szT Try.prog 7 = some 4 := by kernel_rfl
@[simp] theorem Try.aggT7 : aggT Try.prog 7 = some true := by kernel_rfl
@[simp] theorem Try.zeroT7 : zeroT Try.prog 7 = some [.int .i64 0, .int .i64 0, .bool false, .int .u8 0] := by kernel_rfl
@[simp] theorem Try.foT7_0 : foT Try.prog 7 0 = some (0, 2) := by kernel_rfl
@[simp] theorem Try.foT7_1 : foT Try.prog 7 1 = some (1, 3) := by kernel_rfl
@[simp] theorem Try.foT7_2 : foT Try.prog 7 2 = some (2, 4) := by kernel_rfl
@[simp] theorem Try.foT7_3 : foT Try.prog 7 3 = some (3, 6) := by kernel_rfl
@[simp] theorem Try.placesL7 : placesL Try.prog 7 = some [(0, 1), (1, 1), (2, 1), (3, 1)] := by kernel_rfl
@[simp] theorem Try.szT8 : szT Try.prog 8 = some 4 := by kernel_rfl
@[simp] theorem Try.aggT8 : aggT Try.prog 8 = some true := by kernel_rfl
@[simp] theorem Try.zeroT8 : zeroT Try.prog 8 = some [.int .i64 0, .int .i64 0, .bool false, .int .u8 0] := by kernel_rfl
@[simp] theorem Try.foT8_0 : foT Try.prog 8 0 = some (0, 2) := by kernel_rfl
@[simp] theorem Try.foT8_1 : foT Try.prog 8 1 = some (1, 3) := by kernel_rfl
@[simp] theorem Try.foT8_2 : foT Try.prog 8 2 = some (2, 4) := by kernel_rfl
@[simp] theorem Try.foT8_3 : foT Try.prog 8 3 = some (3, 6) := by kernel_rfl
@[simp] theorem Try.placesL8 : placesL Try.prog 8 = some [(0, 1), (1, 1), (2, 1), (3, 1)] := by kernel_rfl
@[simp] theorem Try.szT9 : szT Try.prog 9 = some 1 := by kernel_rfl
@[simp] theorem Try.aggT9 : aggT Try.prog 9 = some false := by kernel_rfl
@[simp] theorem Try.zeroT9 : zeroT Try.prog 9 = some [.str []] := by kernel_rfl
@[simp] theorem Try.rowT9 : rowT Try.prog 9 = true := by kernel_rfl
@[simp] theorem Try.szT10 : szT Try.prog 10 = some 1 := by kernel_rfl
@[simp] theorem Try.aggT10 : aggT Try.prog 10 = some false := by kernel_rfl
@[simp] theorem Try.zeroT10 : zeroT Try.prog 10 = some [.str []] := by kernel_rfl
@[simp] theorem Try.rowT10 : rowT Try.prog 10 = true := by kernel_rfl
@[simp] theorem Try.szT11 : szT Try.prog 11 = some 1 := by kernel_rfl
@[simp] theorem Try.aggT11 : aggT Try.prog 11 = some false := by kernel_rfl
@[simp] theorem Try.zeroT11 : zeroT Try.prog 11 = some [.str []] := by kernel_rfl
@[simp] theorem Try.rowT11 : rowT Try.prog 11 = true := by kernel_rfl
@[simp] theorem Try.szT12 : szT Try.prog 12 = some 1 := by kernel_rfl
@[simp] theorem Try.aggT12 : aggT Try.prog 12 = some false := by kernel_rfl
@[simp] theorem Try.zeroT12 : zeroT Try.prog 12 = some [.int .u64 0] := by kernel_rfl
@[simp] theorem Try.szT13 : szT Try.prog 13 = some 2 := by kernel_rfl
@[simp] theorem Try.aggT13 : aggT Try.prog 13 = some true := by kernel_rfl
@[simp] theorem Try.zeroT13 : zeroT Try.prog 13 = some [.str [], .int .u64 0] := by kernel_rfl
@[simp] theorem Try.foT13_0 : foT Try.prog 13 0 = some (0, 9) := by kernel_rfl
@[simp] theorem Try.foT13_1 : foT Try.prog 13 1 = some (1, 12) := by kernel_rfl
@[simp] theorem Try.placesL13 : placesL Try.prog 13 = some [(0, 1), (1, 1)] := by kernel_rfl
@[simp] theorem Try.szT14 : szT Try.prog 14 = some 2 := by kernel_rfl
@[simp] theorem Try.aggT14 : aggT Try.prog 14 = some true := by kernel_rfl
@[simp] theorem Try.zeroT14 : zeroT Try.prog 14 = some [.str [], .int .u64 0] := by kernel_rfl
@[simp] theorem Try.foT14_0 : foT Try.prog 14 0 = some (0, 9) := by kernel_rfl
@[simp] theorem Try.foT14_1 : foT Try.prog 14 1 = some (1, 12) := by kernel_rfl
@[simp] theorem Try.placesL14 : placesL Try.prog 14 = some [(0, 1), (1, 1)] := by kernel_rfl
@[simp] theorem Try.szT15 : szT Try.prog 15 = some 1 := by kernel_rfl
@[simp] theorem Try.aggT15 : aggT Try.prog 15 = some false := by kernel_rfl
@[simp] theorem Try.zeroT15 : zeroT Try.prog 15 = some [.nilptr] := by kernel_rfl
@[simp] theorem Try.szT16 : szT Try.prog 16 = some 1 := by kernel_rfl
@[simp] theorem Try.aggT16 : aggT Try.prog 16 = some false := by kernel_rfl
@[simp] theorem Try.zeroT16 : zeroT Try.prog 16 = some [.nilptr] := by kernel_rfl
@[simp] theorem Try.szT17 : szT Try.prog 17 = some 1 := by kernel_rfl
@[simp] theorem Try.aggT17 : aggT Try.prog 17 = some false := by kernel_rfl
@[simp] theorem Try.zeroT17 : zeroT Try.prog 17 = some [.nilptr] := by kernel_rfl
@[simp] theorem Try.szT18 : szT Try.prog 18 = some 1 := by kernel_rfl
@[simp] theorem Try.aggT18 : aggT Try.prog 18 = some true := by kernel_rfl
@[simp] theorem Try.zeroT18 : zeroT Try.prog 18 = some [.nilptr] := by kernel_rfl
@[simp] theorem Try.foT18_0 : foT Try.prog 18 0 = some (0, 17) := by kernel_rfl
@[simp] theorem Try.placesL18 : placesL Try.prog 18 = some [(0, 1)] := by kernel_rfl
@[simp] theorem Try.szT19 : szT Try.prog 19 = some 1 := by kernel_rfl
@[simp] theorem Try.aggT19 : aggT Try.prog 19 = some true := by kernel_rfl
@[simp] theorem Try.zeroT19 : zeroT Try.prog 19 = some [.nilptr] := by kernel_rfl
@[simp] theorem Try.foT19_0 : foT Try.prog 19 0 = some (0, 17) := by kernel_rfl
@[simp] theorem Try.placesL19 : placesL Try.prog 19 = some [(0, 1)] := by kernel_rfl
@[simp] theorem Try.szT20 : szT Try.prog 20 = some 1 := by kernel_rfl
@[simp] theorem Try.aggT20 : aggT Try.prog 20 = some false := by kernel_rfl
@[simp] theorem Try.zeroT20 : zeroT Try.prog 20 = some [.nilif] := by kernel_rfl
@[simp] theorem Try.szT21 : szT Try.prog 21 = some 1 := by kernel_rfl
@[simp] theorem Try.aggT21 : aggT Try.prog 21 = some false := by kernel_rfl
@[simp] theorem Try.zeroT21 : zeroT Try.prog 21 = some [.int .i32 0] := by kernel_rfl
@[simp] theorem Try.szT22 : szT Try.prog 22 = some 1 := by kernel_rfl
@[simp] theorem Try.aggT22 : aggT Try.prog 22 = some false := by kernel_rfl
@[simp] theorem Try.zeroT22 : zeroT Try.prog 22 = some [.nilsl] := by kernel_rfl
@[simp] theorem Try.elemT22 : elemT Try.prog 22 = some (25, 1, 24, [.nilsl]) := by kernel_rfl
@[simp] theorem Try.rowT22 : rowT Try.prog 22 = true := by kernel_rfl
@[simp] theorem Try.szT23 : szT Try.prog 23 = some 3 := by kernel_rfl
@[simp] theorem Try.aggT23 : aggT Try.prog 23 = some true := by kernel_rfl
@[simp] theorem Try.zeroT23 : zeroT Try.prog 23 = some [.int .i64 0, .int .i64 0, .nilsl] := by kernel_rfl
@[simp] theorem Try.foT23_0 : foT Try.prog 23 0 = some (0, 3) := by kernel_rfl
@[simp] theorem Try.foT23_1 : foT Try.prog 23 1 = some (1, 3) := by kernel_rfl
@[simp] theorem Try.foT23_2 : foT Try.prog 23 2 = some (2, 22) := by kernel_rfl
@[simp] theorem Try.placesL23 : placesL Try.prog 23 = some [(0, 1), (1, 1), (2, 1)] := by kernel_rfl
@[simp] theorem Try.szT24 : szT Try.prog 24 = some 3 := by kernel_rfl
@[simp] theorem Try.aggT24 : aggT Try.prog 24 = some true := by kernel_rfl
@[simp] theorem Try.zeroT24 : zeroT Try.prog 24 = some [.int .i64 0, .int .i64 0, .nilsl] := by kernel_rfl
@[simp] theorem Try.foT24_0 : foT Try.prog 24 0 = some (0, 3) := by kernel_rfl
@[simp] theorem Try.foT24_1 : foT Try.prog 24 1 = some (1, 3) := by kernel_rfl
@[simp] theorem Try.foT24_2 : foT Try.prog 24 2 = some (2, 22) := by kernel_rfl
@[simp] theorem Try.placesL24 : placesL Try.prog 24 = some [(0, 1), (1, 1), (2, 1)] := by kernel_rfl
@[simp] theorem Try.szT25 : szT Try.prog 25 = some 1 := by kernel_rfl
@[simp] theorem Try.aggT25 : aggT Try.prog 25 = some false := by kernel_rfl
@[simp] theorem Try.zeroT25 : zeroT Try.prog 25 = some [.nilsl] := by kernel_rfl
@[simp] theorem Try.elemT25 : elemT Try.prog 25 = some (3, 1, 8, [.int .i64 0]) := by kernel_rfl
@[simp] theorem Try.rowT25 : rowT Try.prog 25 = true := by kernel_rfl
@[simp] theorem Try.szT26 : szT Try.prog 26 = some 2 := by kernel_rfl
@[simp] theorem Try.aggT26 : aggT Try.prog 26 = some true := by kernel_rfl
@[simp] theorem Try.zeroT26 : zeroT Try.prog 26 = some [.nilsl, .nilsl] := by kernel_rfl
@[simp] theorem Try.placesL26 : placesL Try.prog 26 = some [(0, 1), (1, 1)] := by kernel_rfl
@[simp] theorem Try.szT27 : szT Try.prog 27 = some 1 := by kernel_rfl
@[simp] theorem Try.aggT27 : aggT Try.prog 27 = some false := by kernel_rfl
@[simp] theorem Try.zeroT27 : zeroT Try.prog 27 = some [.nilfn] := by kernel_rfl
@[simp] theorem Try.szT28 : szT Try.prog 28 = some 3 := by kernel_rfl
@[simp] theorem Try.aggT28 : aggT Try.prog 28 = some true := by kernel_rfl
@[simp] theorem Try.zeroT28 : zeroT Try.prog 28 = some [.int .i64 0, .int .i64 0, .nilsl] := by kernel_rfl
@[simp] theorem Try.foT28_0 : foT Try.prog 28 0 = some (0, 3) := by kernel_rfl
@[simp] theorem Try.foT28_1 : foT Try.prog 28 1 = some (1, 3) := by kernel_rfl
@[simp] theorem Try.foT28_2 : foT Try.prog 28 2 = some (2, 22) := by kernel_rfl
@[simp] theorem Try.placesL28 : placesL Try.prog 28 = some [(0, 1), (1, 1), (2, 1)] := by kernel_rfl
@[simp] theorem Try.szT29 : szT Try.prog 29 = some 1 := by kernel_rfl
@[simp] theorem Try.aggT29 : aggT Try.prog 29 = some false := by kernel_rfl
@[simp] theorem Try.zeroT29 : zeroT Try.prog 29 = some [.nilfn] := by kernel_rfl
@[simp] theorem Try.szT30 : szT Try.prog 30 = some 1 := by kernel_rfl
@[simp] theorem Try.aggT30 : aggT Try.prog 30 = some false := by kernel_rfl
@[simp] theorem Try.zeroT30 : zeroT Try.prog 30 = some [.nilfn] := by kernel_rfl
@[simp] theorem Try.szT31 : szT Try.prog 31 = some 1 := by kernel_rfl
@[simp] theorem Try.aggT31 : aggT Try.prog 31 = some false := by kernel_rfl
@[simp] theorem Try.zeroT31 : zeroT Try.prog 31 = some [.int .i64 0] := by kernel_rfl
@[simp] theorem Try.szT33 : szT Try.prog 33 = some 1 := by kernel_rfl
@[simp] theorem Try.aggT33 : aggT Try.prog 33 = some false := by kernel_rfl
@[simp] theorem Try.zeroT33 : zeroT Try.prog 33 = some [.nilfn] := by kernel_rfl
@[simp] theorem Try.szT34 : szT Try.prog 34 = some 1 := by kernel_rfl
@[simp] theorem Try.aggT34 : aggT Try.prog 34 = some false := by kernel_rfl
@[simp] theorem Try.zeroT34 : zeroT Try.prog 34 = some [.nilfn] := by kernel_rfl
@[simp] theorem Try.szT36 : szT Try.prog 36 = some 1 := by kernel_rfl
@[simp] theorem Try.aggT36 : aggT Try.prog 36 = some false := by kernel_rfl
@[simp] theorem Try.zeroT36 : zeroT Try.prog 36 = some [.nilfn] := by kernel_rfl
@[simp] theorem Try.szT37 : szT Try.prog 37 = some 1 := by kernel_rfl
@[simp] theorem Try.aggT37 : aggT Try.prog 37 = some false := by kernel_rfl
@[simp] theorem Try.zeroT37 : zeroT Try.prog 37 = some [.nilfn] := by kernel_rfl
@[simp] theorem Try.szT38 : szT Try.prog 38 = some 1 := by kernel_rfl
@[simp] theorem Try.aggT38 : aggT Try.prog 38 = some false := by kernel_rfl
@[simp] theorem Try.zeroT38 : zeroT Try.prog 38 = some [.nilfn] := by kernel_rfl
@[simp] theorem Try.szT39 : szT Try.prog 39 = some 1 := by kernel_rfl
@[simp] theorem Try.aggT39 : aggT Try.prog 39 = some false := by kernel_rfl
@[simp] theorem Try.zeroT39 : zeroT Try.prog 39 = some [.int .u64 0] := by kernel_rfl
@[simp] theorem Try.szT40 : szT Try.prog 40 = some 1 := by kernel_rfl
@[simp] theorem Try.aggT40 : aggT Try.prog 40 = some false := by kernel_rfl
@[simp] theorem Try.zeroT40 : zeroT Try.prog 40 = some [.nilfn] := by kernel_rfl
@[simp] theorem Try.szT41 : szT Try.prog 41 = some 1 := by kernel_rfl
@[simp] theorem Try.aggT41 : aggT Try.prog 41 = some false := by kernel_rfl
@[simp] theorem Try.zeroT41 : zeroT Try.prog 41 = some [.nilfn] := by kernel_rfl
@[simp] theorem Try.szT43 : szT Try.prog 43 = some 1 := by kernel_rfl
@[simp] theorem Try.aggT43 : aggT Try.prog 43 = some false := by kernel_rfl
@[simp] theorem Try.zeroT43 : zeroT Try.prog 43 = some [.nilfn] := by kernel_rfl
@[simp] theorem Try.szT44 : szT Try.prog 44 = some 1 := by kernel_rfl
@[simp] theorem Try.aggT44 : aggT Try.prog 44 = some false := by kernel_rfl
@[simp] theorem Try.zeroT44 : zeroT Try.prog 44 = some [.nilfn] := by kernel_rfl
@[simp] theorem Try.szT45 : szT Try.prog 45 = some 1 := by kernel_rfl
@[simp] theorem Try.aggT45 : aggT Try.prog 45 = some false := by kernel_rfl
@[simp] theorem Try.zeroT45 : zeroT Try.prog 45 = some [.nilfn] := by kernel_rfl
@[simp] theorem Try.szT46 : szT Try.prog 46 = some 1 := by kernel_rfl
@[simp] theorem Try.aggT46 : aggT Try.prog 46 = some false := by kernel_rfl
@[simp] theorem Try.zeroT46 : zeroT Try.prog 46 = some [.nilfn] := by kernel_rfl
@[simp] theorem Try.szT47 : szT Try.prog 47 = some 1 := by kernel_rfl
@[simp] theorem Try.aggT47 : aggT Try.prog 47 = some false := by kernel_rfl
@[simp] theorem Try.zeroT47 : zeroT Try.prog 47 = some [.nilfn] := by kernel_rfl
@[simp] theorem Try.szT48 : szT Try.prog 48 = some 1 := by kernel_rfl
@[simp] theorem Try.aggT48 : aggT Try.prog 48 = some false := by kernel_rfl
@[simp] theorem Try.zeroT48 : zeroT Try.prog 48 = some [.nilfn] := by kernel_rfl
@[simp] theorem Try.szT49 : szT Try.prog 49 = some 1 := by kernel_rfl
@[simp] theorem Try.aggT49 : aggT Try.prog 49 = some false := by kernel_rfl
@[simp] theorem Try.zeroT49 : zeroT Try.prog 49 = some [.nilfn] := by kernel_rfl
@[simp] theorem Try.szT50 : szT Try.prog 50 = some 2 := by kernel_rfl
@[simp] theorem Try.aggT50 : aggT Try.prog 50 = some true := by kernel_rfl
@[simp] theorem Try.zeroT50 : zeroT Try.prog 50 = some [.int .i64 0, .int .i64 0] := by kernel_rfl
@[simp] theorem Try.placesL50 : placesL Try.prog 50 = some [(0, 1), (1, 1)] := by kernel_rfl
@[simp] theorem Try.szT52 : szT Try.prog 52 = some 1 := by kernel_rfl
@[simp] theorem Try.aggT52 : aggT Try.prog 52 = some false := by kernel_rfl
@[simp] theorem Try.zeroT52 : zeroT Try.prog 52 = some [.nilfn] := by kernel_rfl
@[simp] theorem Try.szT53 : szT Try.prog 53 = some 4 := by kernel_rfl
@[simp] theorem Try.aggT53 : aggT Try.prog 53 = some true := by kernel_rfl
@[simp] theorem Try.zeroT53 : zeroT Try.prog 53 = some [.int .i64 0, .int .i64 0, .int .i64 0, .nilsl] := by kernel_rfl
@[simp] theorem Try.foT53_0 : foT Try.prog 53 0 = some (0, 3) := by kernel_rfl
@[simp] theorem Try.foT53_1 : foT Try.prog 53 1 = some (1, 3) := by kernel_rfl
@[simp] theorem Try.foT53_2 : foT Try.prog 53 2 = some (2, 3) := by kernel_rfl
@[simp] theorem Try.foT53_3 : foT Try.prog 53 3 = some (3, 25) := by kernel_rfl
@[simp] theorem Try.placesL53 : placesL Try.prog 53 = some [(0, 1), (1, 1), (2, 1), (3, 1)] := by kernel_rfl
@[simp] theorem Try.szT54 : szT Try.prog 54 = some 4 := by kernel_rfl
@[simp] theorem Try.aggT54 : aggT Try.prog 54 = some true := by kernel_rfl
@[simp] theorem Try.zeroT54 : zeroT Try.prog 54 = some [.int .i64 0, .int .i64 0, .int .i64 0, .nilsl] := by kernel_rfl
@[simp] theorem Try.foT54_0 : foT Try.prog 54 0 = some (0, 3) := by kernel_rfl
@[simp] theorem Try.foT54_1 : foT Try.prog 54 1 = some (1, 3) := by kernel_rfl
@[simp] theorem Try.foT54_2 : foT Try.prog 54 2 = some (2, 3) := by kernel_rfl
@[simp] theorem Try.foT54_3 : foT Try.prog 54 3 = some (3, 25) := by kernel_rfl
@[simp] theorem Try.placesL54 : placesL Try.prog 54 = some [(0, 1), (1, 1), (2, 1), (3, 1)] := by kernel_rfl
@[simp] theorem Try.szT56 : szT Try.prog 56 = some 1 := by kernel_rfl
@[simp] theorem Try.aggT56 : aggT Try.prog 56 = some false := by kernel_rfl
@[simp] theorem Try.zeroT56 : zeroT Try.prog 56 = some [.nilfn] := by kernel_rfl
@[simp] theorem Try.szT58 : szT Try.prog 58 = some 1 := by kernel_rfl
@[simp] theorem Try.aggT58 : aggT Try.prog 58 = some false := by kernel_rfl
@[simp] theorem Try.zeroT58 : zeroT Try.prog 58 = some [.nilfn] := by kernel_rfl
@[simp] theorem Try.szT59 : szT Try.prog 59 = some 1 := by kernel_rfl
@[simp] theorem Try.aggT59 : aggT Try.prog 59 = some false := by kernel_rfl
@[simp] theorem Try.zeroT59 : zeroT Try.prog 59 = some [.nilfn] := by kernel_rfl
@[simp] theorem Try.szT60 : szT Try.prog 60 = some 1 := by kernel_rfl
@[simp] theorem Try.aggT60 : aggT Try.prog 60 = some false := by kernel_rfl
@[simp] theorem Try.zeroT60 : zeroT Try.prog 60 = some [.nilfn] := by kernel_rfl
@[simp] theorem Try.szT61 : szT Try.prog 61 = some 1 := by kernel_rfl
@[simp] theorem Try.aggT61 : aggT Try.prog 61 = some false := by kernel_rfl
@[simp] theorem Try.zeroT61 : zeroT Try.prog 61 = some [.nilfn] := by kernel_rfl
@[simp] theorem Try.szT62 : szT Try.prog 62 = some 1 := by kernel_rfl
@[simp] theorem Try.aggT62 : aggT Try.prog 62 = some false := by kernel_rfl
@[simp] theorem Try.zeroT62 : zeroT Try.prog 62 = some [.nilfn] := by kernel_rfl
@[simp] theorem Try.szT63 : szT Try.prog 63 = some 1 := by kernel_rfl
@[simp] theorem Try.aggT63 : aggT Try.prog 63 = some false := by kernel_rfl
@[simp] theorem Try.zeroT63 : zeroT Try.prog 63 = some [.nilfn] := by kernel_rfl
@[simp] theorem Try.szT64 : szT Try.prog 64 = some 1 := by kernel_rfl
@[simp] theorem Try.aggT64 : aggT Try.prog 64 = some false := by kernel_rfl
@[simp] theorem Try.zeroT64 : zeroT Try.prog 64 = some [.nilfn] := by kernel_rfl
@[simp] theorem Try.szT65 : szT Try.prog 65 = some 1 := by kernel_rfl
@[simp] theorem Try.aggT65 : aggT Try.prog 65 = some false := by kernel_rfl
@[simp] theorem Try.zeroT65 : zeroT Try.prog 65 = some [.nilfn] := by kernel_rfl
@[simp] theorem Try.szT67 : szT Try.prog 67 = some 1 := by kernel_rfl
@[simp] theorem Try.aggT67 : aggT Try.prog 67 = some false := by kernel_rfl
@[simp] theorem Try.zeroT67 : zeroT Try.prog 67 = some [.nilfn] := by kernel_rfl
@[simp] theorem Try.szT68 : szT Try.prog 68 = some 1 := by kernel_rfl
@[simp] theorem Try.aggT68 : aggT Try.prog 68 = some false := by kernel_rfl
@[simp] theorem Try.zeroT68 : zeroT Try.prog 68 = some [.nilfn] := by kernel_rfl
@[simp] theorem Try.szT69 : szT Try.prog 69 = some 1 := by kernel_rfl
@[simp] theorem Try.aggT69 : aggT Try.prog 69 = some false := by kernel_rfl
@[simp] theorem Try.zeroT69 : zeroT Try.prog 69 = some [.nilfn] := by kernel_rfl
@[simp] theorem Try.szT70 : szT Try.prog 70 = some 1 := by kernel_rfl
@[simp] theorem Try.aggT70 : aggT Try.prog 70 = some false := by kernel_rfl
@[simp] theorem Try.zeroT70 : zeroT Try.prog 70 = some [.nilfn] := by kernel_rfl
@[simp] theorem Try.szT71 : szT Try.prog 71 = some 1 := by kernel_rfl
@[simp] theorem Try.aggT71 : aggT Try.prog 71 = some false := by kernel_rfl
@[simp] theorem Try.zeroT71 : zeroT Try.prog 71 = some [.nilfn] := by kernel_rfl
@[simp] theorem Try.szT72 : szT Try.prog 72 = some 3 := by kernel_rfl
@[simp] theorem Try.aggT72 : aggT Try.prog 72 = some true := by kernel_rfl
@[simp] theorem Try.zeroT72 : zeroT Try.prog 72 = some [.int .i64 0, .int .i64 0, .int .i64 0] := by kernel_rfl
@[simp] theorem Try.foT72_0 : foT Try.prog 72 0 = some (0, 3) := by kernel_rfl
@[simp] theorem Try.foT72_1 : foT Try.prog 72 1 = some (1, 3) := by kernel_rfl
@[simp] theorem Try.foT72_2 : foT Try.prog 72 2 = some (2, 3) := by kernel_rfl
@[simp] theorem Try.placesL72 : placesL Try.prog 72 = some [(0, 1), (1, 1), (2, 1)] := by kernel_rfl
@[simp] theorem Try.szT73 : szT Try.prog 73 = some 3 := by kernel_rfl
@[simp] theorem Try.aggT73 : aggT Try.prog 73 = some true := by kernel_rfl
@[simp] theorem Try.zeroT73 : zeroT Try.prog 73 = some [.int .i64 0, .int .i64 0, .int .i64 0] := by kernel_rfl
@[simp] theorem Try.foT73_0 : foT Try.prog 73 0 = some (0, 3) := by kernel_rfl
@[simp] theorem Try.foT73_1 : foT Try.prog 73 1 = some (1, 3) := by kernel_rfl
@[simp] theorem Try.foT73_2 : foT Try.prog 73 2 = some (2, 3) := by kernel_rfl
@[simp] theorem Try.placesL73 : placesL Try.prog 73 = some [(0, 1), (1, 1), (2, 1)] := by kernel_rfl
@[simp] theorem Try.szT74 : szT Try.prog 74 = some 1 := by kernel_rfl
@[simp] theorem Try.aggT74 : aggT Try.prog 74 = some false := by kernel_rfl
@[simp] theorem Try.zeroT74 : zeroT Try.prog 74 = some [.nilfn] := by kernel_rfl
@[simp] theorem Try.szT75 : szT Try.prog 75 = some 1 := by kernel_rfl
@[simp] theorem Try.aggT75 : aggT Try.prog 75 = some false := by kernel_rfl
@[simp] theorem Try.zeroT75 : zeroT Try.prog 75 = some [.nilfn] := by kernel_rfl
@[simp] theorem Try.szT76 : szT Try.prog 76 = some 1 := by kernel_rfl
@[simp] theorem Try.aggT76 : aggT Try.prog 76 = some false := by kernel_rfl
@[simp] theorem Try.zeroT76 : zeroT Try.prog 76 = some [.nilfn] := by kernel_rfl
@[simp] theorem Try.szT77 : szT Try.prog 77 = some 1 := by kernel_rfl
@[simp] theorem Try.aggT77 : aggT Try.prog 77 = some false := by kernel_rfl
@[simp] theorem Try.zeroT77 : zeroT Try.prog 77 = some [.nilfn] := by kernel_rfl
@[simp] theorem Try.szT78 : szT Try.prog 78 = some 1 := by kernel_rfl
@[simp] theorem Try.aggT78 : aggT Try.prog 78 = some false := by kernel_rfl
@[simp] theorem Try.zeroT78 : zeroT Try.prog 78 = some [.nilfn] := by kernel_rfl
@[simp] theorem Try.szT79 : szT Try.prog 79 = some 1 := by kernel_rfl
@[simp] theorem Try.aggT79 : aggT Try.prog 79 = some false := by kernel_rfl
@[simp] theorem Try.zeroT79 : zeroT Try.prog 79 = some [.nilfn] := by kernel_rfl
@[simp] theorem Try.szT80 : szT Try.prog 80 = some 1 := by kernel_rfl
@[simp] theorem Try.aggT80 : aggT Try.prog 80 = some false := by kernel_rfl
@[simp] theorem Try.zeroT80 : zeroT Try.prog 80 = some [.nilfn] := by kernel_rfl
@[simp] theorem Try.szT81 : szT Try.prog 81 = some 14 := by kernel_rfl
@[simp] theorem Try.aggT81 : aggT Try.prog 81 = some true := by kernel_rfl
@[simp] theorem Try.zeroT81 : zeroT Try.prog 81 = some [.int .i64 0, .int .i64 0, .int .i64 0, .int .i64 0, .int .i64 0, .int .i64 0, .int .i64 0, .int .i64 0, .int .i64 0, .int .i64 0, .int .i64 0, .int .i64 0, .int .i64 0, .int .i64 0] := by kernel_rfl
@[simp] theorem Try.placesL81 : placesL Try.prog 81 = some [(0, 2), (2, 2), (4, 2), (6, 2), (8, 2), (10, 2), (12, 2)] := by kernel_rfl
@[simp] theorem Try.szT82 : szT Try.prog 82 = some 6 := by kernel_rfl
@[simp] theorem Try.aggT82 : aggT Try.prog 82 = some true := by kernel_rfl
@[simp] theorem Try.zeroT82 : zeroT Try.prog 82 = some [.int .u8 0, .int .u8 0, .int .u8 0, .int .u8 0, .int .u8 0, .int .u8 0] := by kernel_rfl
@[simp] theorem Try.placesL82 : placesL Try.prog 82 = some [(0, 1), (1, 1), (2, 1), (3, 1), (4, 1), (5, 1)] := by kernel_rfl
@[simp] theorem Try.szT83 : szT Try.prog 83 = some 6 := by kernel_rfl
@[simp] theorem Try.aggT83 : aggT Try.prog 83 = some true := by kernel_rfl
@[simp] theorem Try.zeroT83 : zeroT Try.prog 83 = some [.int .u8 0, .int .u8 0, .int .u8 0, .int .u8 0, .int .u8 0, .int .u8 0] := by kernel_rfl
@[simp] theorem Try.placesL83 : placesL Try.prog 83 = some [(0, 1), (1, 1), (2, 1), (3, 1), (4, 1), (5, 1)] := by kernel_rfl
@[simp] theorem Try.szT85 : szT Try.prog 85 = some 1 := by kernel_rfl
@[simp] theorem Try.aggT85 : aggT Try.prog 85 = some false := by kernel_rfl
@[simp] theorem Try.zeroT85 : zeroT Try.prog 85 = some [.nilfn] := by kernel_rfl
@[simp] theorem Try.szT86 : szT Try.prog 86 = some 1 := by kernel_rfl
@[simp] theorem Try.aggT86 : aggT Try.prog 86 = some false := by kernel_rfl
@[simp] theorem Try.zeroT86 : zeroT Try.prog 86 = some [.nilfn] := by kernel_rfl
@[simp] theorem Try.szT87 : szT Try.prog 87 = some 1 := by kernel_rfl
@[simp] theorem Try.aggT87 : aggT Try.prog 87 = some false := by kernel_rfl
@[simp] theorem Try.zeroT87 : zeroT Try.prog 87 = some [.nilfn] := by kernel_rfl
@[simp] theorem Try.szT88 : szT Try.prog 88 = some 1 := by kernel_rfl
@[simp] theorem Try.aggT88 : aggT Try.prog 88 = some false := by kernel_rfl
@[simp] theorem Try.zeroT88 : zeroT Try.prog 88 = some [.nilfn] := by kernel_rfl
@[simp] theorem Try.szT89 : szT Try.prog 89 = some 1 := by kernel_rfl
@[simp] theorem Try.aggT89 : aggT Try.prog 89 = some false := by kernel_rfl
@[simp] theorem Try.zeroT89 : zeroT Try.prog 89 = some [.nilfn] := by kernel_rfl
@[simp] theorem Try.szT90 : szT Try.prog 90 = some 1 := by kernel_rfl
@[simp] theorem Try.aggT90 : aggT Try.prog 90 = some false := by kernel_rfl
@[simp] theorem Try.zeroT90 : zeroT Try.prog 90 = some [.nilfn] := by kernel_rfl
@[simp] theorem Try.szT91 : szT Try.prog 91 = some 1 := by kernel_rfl
@[simp] theorem Try.aggT91 : aggT Try.prog 91 = some false := by kernel_rfl
@[simp] theorem Try.zeroT91 : zeroT Try.prog 91 = some [.nilfn] := by kernel_rfl
@[simp] theorem Try.szT92 : szT Try.prog 92 = some 1 := by kernel_rfl
@[simp] theorem Try.aggT92 : aggT Try.prog 92 = some false := by kernel_rfl
@[simp] theorem Try.zeroT92 : zeroT Try.prog 92 = some [.nilfn] := by kernel_rfl
@[simp] theorem Try.szT93 : szT Try.prog 93 = some 1 := by kernel_rfl
@[simp] theorem Try.aggT93 : aggT Try.prog 93 = some false := by kernel_rfl
@[simp] theorem Try.zeroT93 : zeroT Try.prog 93 = some [.nilfn] := by kernel_rfl
@[simp] theorem Try.szT94 : szT Try.prog 94 = some 1 := by kernel_rfl
@[simp] theorem Try.aggT94 : aggT Try.prog 94 = some false := by kernel_rfl
@[simp] theorem Try.zeroT94 : zeroT Try.prog 94 = some [.nilfn] := by kernel_rfl
@[simp] theorem Try.szT95 : szT Try.prog 95 = some 1 := by kernel_rfl
@[simp] theorem Try.aggT95 : aggT Try.prog 95 = some false := by kernel_rfl
@[simp] theorem Try.zeroT95 : zeroT Try.prog 95 = some [.nilfn] := by kernel_rfl
@[simp] theorem Try.szT97 : szT Try.prog 97 = some 1 := by kernel_rfl
@[simp] theorem Try.aggT97 : aggT Try.prog 97 = some false := by kernel_rfl
@[simp] theorem Try.zeroT97 : zeroT Try.prog 97 = some [.nilptr] := by kernel_rfl
@[simp] theorem Try.szT98 : szT Try.prog 98 = some 1 := by kernel_rfl
@[simp] theorem Try.aggT98 : aggT Try.prog 98 = some false := by kernel_rfl
@[simp] theorem Try.zeroT98 : zeroT Try.prog 98 = some [.nilfn] := by kernel_rfl
@[simp] theorem Try.szT99 : szT Try.prog 99 = some 1 := by kernel_rfl
@[simp] theorem Try.aggT99 : aggT Try.prog 99 = some false := by kernel_rfl
@[simp] theorem Try.zeroT99 : zeroT Try.prog 99 = some [.nilfn] := by kernel_rfl
@[simp] theorem Try.szT100 : szT Try.prog 100 = some 1 := by kernel_rfl
@[simp] theorem Try.aggT100 : aggT Try.prog 100 = some false := by kernel_rfl
@[simp] theorem Try.zeroT100 : zeroT Try.prog 100 = some [.nilfn] := by kernel_rfl
@[simp] theorem Try.szT101 : szT Try.prog 101 = some 1 := by kernel_rfl
@[simp] theorem Try.aggT101 : aggT Try.prog 101 = some false := by kernel_rfl
@[simp] theorem Try.zeroT101 : zeroT Try.prog 101 = some [.nilfn] := by kernel_rfl
@[simp] theorem Try.szT102 : szT Try.prog 102 = some 6 := by kernel_rfl
@[simp] theorem Try.aggT102 : aggT Try.prog 102 = some true := by kernel_rfl
@[simp] theorem Try.zeroT102 : zeroT Try.prog 102 = some [.int .i64 0, .int .i64 0, .nilsl, .int .i64 0, .nilsl, .nilfn] := by kernel_rfl
@[simp] theorem Try.foT102_0 : foT Try.prog 102 0 = some (0, 28) := by kernel_rfl
@[simp] theorem Try.foT102_1 : foT Try.prog 102 1 = some (3, 3) := by kernel_rfl
@[simp] theorem Try.foT102_2 : foT Try.prog 102 2 = some (4, 22) := by kernel_rfl
@[simp] theorem Try.foT102_3 : foT Try.prog 102 3 = some (5, 101) := by kernel_rfl
@[simp] theorem Try.placesL102 : placesL Try.prog 102 = some [(0, 3), (3, 1), (4, 1), (5, 1)] := by kernel_rfl
@[simp] theorem Try.szT103 : szT Try.prog 103 = some 6 := by kernel_rfl
@[simp] theorem Try.aggT103 : aggT Try.prog 103 = some true := by kernel_rfl
@[simp] theorem Try.zeroT103 : zeroT Try.prog 103 = some [.int .i64 0, .int .i64 0, .nilsl, .int .i64 0, .nilsl, .nilfn] := by kernel_rfl
@[simp] theorem Try.foT103_0 : foT Try.prog 103 0 = some (0, 28) := by kernel_rfl
@[simp] theorem Try.foT103_1 : foT Try.prog 103 1 = some (3, 3) := by kernel_rfl
@[simp] theorem Try.foT103_2 : foT Try.prog 103 2 = some (4, 22) := by kernel_rfl
@[simp] theorem Try.foT103_3 : foT Try.prog 103 3 = some (5, 101) := by kernel_rfl
@[simp] theorem Try.placesL103 : placesL Try.prog 103 = some [(0, 3), (3, 1), (4, 1), (5, 1)] := by kernel_rfl
@[simp] theorem Try.szT104 : szT Try.prog 104 = some 1 := by kernel_rfl
@[simp] theorem Try.aggT104 : aggT Try.prog 104 = some false := by kernel_rfl
@[simp] theorem Try.zeroT104 : zeroT Try.prog 104 = some [.nilfn] := by kernel_rfl
@[simp] theorem Try.szT105 : szT Try.prog 105 = some 1 := by kernel_rfl
@[simp] theorem Try.aggT105 : aggT Try.prog 105 = some false := by kernel_rfl
@[simp] theorem Try.zeroT105 : zeroT Try.prog 105 = some [.nilfn] := by kernel_rfl
@[simp] theorem Try.szT106 : szT Try.prog 106 = some 1 := by kernel_rfl
@[simp] theorem Try.aggT106 : aggT Try.prog 106 = some false := by kernel_rfl
@[simp] theorem Try.zeroT106 : zeroT Try.prog 106 = some [.nilmap] := by kernel_rfl
@[simp] theorem Try.mapT106 : mapT Try.prog 106 = some (.one (.i .i64), some (.bool false)) := by kernel_rfl
@[simp] theorem Try.szT107 : szT Try.prog 107 = some 1 := by kernel_rfl
@[simp] theorem Try.aggT107 : aggT Try.prog 107 = some false := by kernel_rfl
@[simp] theorem Try.zeroT107 : zeroT Try.prog 107 = some [.nilfn] := by kernel_rfl
@[simp] theorem Try.szT108 : szT Try.prog 108 = some 1 := by kernel_rfl
@[simp] theorem Try.aggT108 : aggT Try.prog 108 = some false := by kernel_rfl
@[simp] theorem Try.zeroT108 : zeroT Try.prog 108 = some [.nilfn] := by kernel_rfl
@[simp] theorem Try.szT109 : szT Try.prog 109 = some 1 := by kernel_rfl
@[simp] theorem Try.aggT109 : aggT Try.prog 109 = some false := by kernel_rfl
@[simp] theorem Try.zeroT109 : zeroT Try.prog 109 = some [.nilfn] := by kernel_rfl
@[simp] theorem Try.szT110 : szT Try.prog 110 = some 1 := by kernel_rfl
@[simp] theorem Try.aggT110 : aggT Try.prog 110 = some false := by kernel_rfl
@[simp] theorem Try.zeroT110 : zeroT Try.prog 110 = some [.nilfn] := by kernel_rfl
@[simp] theorem Try.szT111 : szT Try.prog 111 = some 1 := by kernel_rfl
@[simp] theorem Try.aggT111 : aggT Try.prog 111 = some false := by kernel_rfl
@[simp] theorem Try.zeroT111 : zeroT Try.prog 111 = some [.nilsl] := by kernel_rfl
@[simp] theorem Try.elemT111 : elemT Try.prog 111 = some (5, 1, 1, [.int .u8 0]) := by kernel_rfl
@[simp] theorem Try.rowT111 : rowT Try.prog 111 = true := by kernel_rfl
@[simp] theorem Try.szT112 : szT Try.prog 112 = some 1 := by kernel_rfl
@[simp] theorem Try.aggT112 : aggT Try.prog 112 = some false := by kernel_rfl
@[simp] theorem Try.zeroT112 : zeroT Try.prog 112 = some [.nilfn] := by kernel_rfl
@[simp] theorem Try.szT113 : szT Try.prog 113 = some 1 := by kernel_rfl
@[simp] theorem Try.aggT113 : aggT Try.prog 113 = some false := by kernel_rfl
@[simp] theorem Try.zeroT113 : zeroT Try.prog 113 = some [.nilfn] := by kernel_rfl
@[simp] theorem Try.szT115 : szT Try.prog 115 = some 1 := by kernel_rfl
@[simp] theorem Try.aggT115 : aggT Try.prog 115 = some false := by kernel_rfl
@[simp] theorem Try.zeroT115 : zeroT Try.prog 115 = some [.nilfn] := by kernel_rfl
@[simp] theorem Try.szT116 : szT Try.prog 116 = some 1 := by kernel_rfl
@[simp] theorem Try.aggT116 : aggT Try.prog 116 = some false := by kernel_rfl
@[simp] theorem Try.zeroT116 : zeroT Try.prog 116 = some [.nilfn] := by kernel_rfl
@[simp] theorem Try.szT117 : szT Try.prog 117 = some 1 := by kernel_rfl
@[simp] theorem Try.aggT117 : aggT Try.prog 117 = some false := by kernel_rfl
@[simp] theorem Try.zeroT117 : zeroT Try.prog 117 = some [.nilfn] := by kernel_rfl
@[simp] theorem Try.szT119 : szT Try.prog 119 = some 1 := by kernel_rfl
@[simp] theorem Try.aggT119 : aggT Try.prog 119 = some false := by kernel_rfl
@[simp] theorem Try.zeroT119 : zeroT Try.prog 119 = some [.nilfn] := by kernel_rfl
@[simp] theorem Try.szT120 : szT Try.prog 120 = some 1 := by kernel_rfl
@[simp] theorem Try.aggT120 : aggT Try.prog 120 = some false := by kernel_rfl
@[simp] theorem Try.zeroT120 : zeroT Try.prog 120 = some [.nilfn] := by kernel_rfl
@[simp] theorem Try.szT121 : szT Try.prog 121 = some 1 := by kernel_rfl
@[simp] theorem Try.aggT121 : aggT Try.prog 121 = some false := by kernel_rfl
@[simp] theorem Try.zeroT121 : zeroT Try.prog 121 = some [.nilfn] := by kernel_rfl
@[simp] theorem Try.szT122 : szT Try.prog 122 = some 4 := by kernel_rfl
@[simp] theorem Try.aggT122 : aggT Try.prog 122 = some true := by kernel_rfl
@[simp] theorem Try.zeroT122 : zeroT Try.prog 122 = some [.nilptr, .nilptr, .nilptr, .str []] := by kernel_rfl
@[simp] theorem Try.foT122_0 : foT Try.prog 122 0 = some (0, 17) := by kernel_rfl
@[simp] theorem Try.foT122_1 : foT Try.prog 122 1 = some (1, 17) := by kernel_rfl
@[simp] theorem Try.foT122_2 : foT Try.prog 122 2 = some (2, 17) := by kernel_rfl
@[simp] theorem Try.foT122_3 : foT Try.prog 122 3 = some (3, 9) := by kernel_rfl
@[simp] theorem Try.placesL122 : placesL Try.prog 122 = some [(0, 1), (1, 1), (2, 1), (3, 1)] := by kernel_rfl
@[simp] theorem Try.szT123 : szT Try.prog 123 = some 4 := by kernel_rfl
@[simp] theorem Try.aggT123 : aggT Try.prog 123 = some true := by kernel_rfl
@[simp] theorem Try.zeroT123 : zeroT Try.prog 123 = some [.nilptr, .nilptr, .nilptr, .str []] := by kernel_rfl
@[simp] theorem Try.foT123_0 : foT Try.prog 123 0 = some (0, 17) := by kernel_rfl
@[simp] theorem Try.foT123_1 : foT Try.prog 123 1 = some (1, 17) := by kernel_rfl
@[simp] theorem Try.foT123_2 : foT Try.prog 123 2 = some (2, 17) := by kernel_rfl
@[simp] theorem Try.foT123_3 : foT Try.prog 123 3 = some (3, 9) := by kernel_rfl
@[simp] theorem Try.placesL123 : placesL Try.prog 123 = some [(0, 1), (1, 1), (2, 1), (3, 1)] := by kernel_rfl
@[simp] theorem Try.szT124 : szT Try.prog 124 = some 0 := by kernel_rfl
@[simp] theorem Try.aggT124 : aggT Try.prog 124 = some true := by kernel_rfl
@[simp] theorem Try.zeroT124 : zeroT Try.prog 124 = some [] := by kernel_rfl
@[simp] theorem Try.placesL124 : placesL Try.prog 124 = some [] := by kernel_rfl
@[simp] theorem Try.szT125 : szT Try.prog 125 = some 0 := by kernel_rfl
@[simp] theorem Try.aggT125 : aggT Try.prog 125 = some true := by kernel_rfl
@[simp] theorem Try.zeroT125 : zeroT Try.prog 125 = some [] := by kernel_rfl
@[simp] theorem Try.foT125_0 : foT Try.prog 125 0 = some (0, 124) := by kernel_rfl
@[simp] theorem Try.placesL125 : placesL Try.prog 125 = some [(0, 0)] := by kernel_rfl
@[simp] theorem Try.szT126 : szT Try.prog 126 = some 0 := by kernel_rfl
@[simp] theorem Try.aggT126 : aggT Try.prog 126 = some true := by kernel_rfl
@[simp] theorem Try.zeroT126 : zeroT Try.prog 126 = some [] := by kernel_rfl
@[simp] theorem Try.foT126_0 : foT Try.prog 126 0 = some (0, 124) := by kernel_rfl
@[simp] theorem Try.placesL126 : placesL Try.prog 126 = some [(0, 0)] := by kernel_rfl
@[simp] theorem Try.szT127 : szT Try.prog 127 = some 1 := by kernel_rfl
@[simp] theorem Try.aggT127 : aggT Try.prog 127 = some false := by kernel_rfl
@[simp] theorem Try.zeroT127 : zeroT Try.prog 127 = some [.nilfn] := by kernel_rfl
@[simp] theorem Try.szT128 : szT Try.prog 128 = some 1 := by kernel_rfl
@[simp] theorem Try.aggT128 : aggT Try.prog 128 = some false := by kernel_rfl
@[simp] theorem Try.zeroT128 : zeroT Try.prog 128 = some [.int .u32 0] := by kernel_rfl
@[simp] theorem Try.szT129 : szT Try.prog 129 = some 1 := by kernel_rfl
@[simp] theorem Try.aggT129 : aggT Try.prog 129 = some false := by kernel_rfl
@[simp] theorem Try.zeroT129 : zeroT Try.prog 129 = some [.int .u8 0] := by kernel_rfl
@[simp] theorem Try.szT130 : szT Try.prog 130 = some 1 := by kernel_rfl
@[simp] theorem Try.aggT130 : aggT Try.prog 130 = some false := by kernel_rfl
@[simp] theorem Try.zeroT130 : zeroT Try.prog 130 = some [.int .u8 0] := by kernel_rfl
@[simp] theorem Try.szT131 : szT Try.prog 131 = some 1 := by kernel_rfl
@[simp] theorem Try.aggT131 : aggT Try.prog 131 = some false := by kernel_rfl
@[simp] theorem Try.zeroT131 : zeroT Try.prog 131 = some [.nilfn] := by kernel_rfl
@[simp] theorem Try.szT132 : szT Try.prog 132 = some 1 := by kernel_rfl
@[simp] theorem Try.aggT132 : aggT Try.prog 132 = some false := by kernel_rfl
@[simp] theorem Try.zeroT132 : zeroT Try.prog 132 = some [.nilptr] := by kernel_rfl
@[simp] theorem Try.szT133 : szT Try.prog 133 = some 1 := by kernel_rfl
@[simp] theorem Try.aggT133 : aggT Try.prog 133 = some false := by kernel_rfl
@[simp] theorem Try.zeroT133 : zeroT Try.prog 133 = some [.int .i32 0] := by kernel_rfl
@[simp] theorem Try.szT134 : szT Try.prog 134 = some 1 := by kernel_rfl
@[simp] theorem Try.aggT134 : aggT Try.prog 134 = some false := by kernel_rfl
@[simp] theorem Try.zeroT134 : zeroT Try.prog 134 = some [.int .i32 0] := by kernel_rfl
@[simp] theorem Try.szT135 : szT Try.prog 135 = some 11 := by kernel_rfl
@[simp] theorem Try.aggT135 : aggT Try.prog 135 = some true := by kernel_rfl
@[simp] theorem Try.zeroT135 : zeroT Try.prog 135 = some [.int .u64 0, .int .u64 0, .int .u32 0, .int .u8 0, .int .u8 0, .int .u8 0, .int .u8 0, .nilfn, .nilptr, .int .i32 0, .int .i32 0] := by kernel_rfl
@[simp] theorem Try.foT135_0 : foT Try.prog 135 0 = some (0, 12) := by kernel_rfl
@[simp] theorem Try.foT135_1 : foT Try.prog 135 1 = some (1, 12) := by kernel_rfl
@[simp] theorem Try.foT135_2 : foT Try.prog 135 2 = some (2, 128) := by kernel_rfl
@[simp] theorem Try.foT135_3 : foT Try.prog 135 3 = some (3, 129) := by kernel_rfl
@[simp] theorem Try.foT135_4 : foT Try.prog 135 4 = some (4, 5) := by kernel_rfl
@[simp] theorem Try.foT135_5 : foT Try.prog 135 5 = some (5, 5) := by kernel_rfl
@[simp] theorem Try.foT135_6 : foT Try.prog 135 6 = some (6, 130) := by kernel_rfl
@[simp] theorem Try.foT135_7 : foT Try.prog 135 7 = some (7, 131) := by kernel_rfl
@[simp] theorem Try.foT135_8 : foT Try.prog 135 8 = some (8, 132) := by kernel_rfl
@[simp] theorem Try.foT135_9 : foT Try.prog 135 9 = some (9, 133) := by kernel_rfl
@[simp] theorem Try.foT135_10 : foT Try.prog 135 10 = some (10, 134) := by kernel_rfl
@[simp] theorem Try.placesL135 : placesL Try.prog 135 = some [(0, 1), (1, 1), (2, 1), (3, 1), (4, 1), (5, 1), (6, 1), (7, 1), (8, 1), (9, 1), (10, 1)] := by kernel_rfl
@[simp] theorem Try.szT136 : szT Try.prog 136 = some 11 := by kernel_rfl
@[simp] theorem Try.aggT136 : aggT Try.prog 136 = some true := by kernel_rfl
@[simp] theorem Try.zeroT136 : zeroT Try.prog 136 = some [.int .u64 0, .int .u64 0, .int .u32 0, .int .u8 0, .int .u8 0, .int .u8 0, .int .u8 0, .nilfn, .nilptr, .int .i32 0, .int .i32 0] := by kernel_rfl
@[simp] theorem Try.foT136_0 : foT Try.prog 136 0 = some (0, 12) := by kernel_rfl
@[simp] theorem Try.foT136_1 : foT Try.prog 136 1 = some (1, 12) := by kernel_rfl
@[simp] theorem Try.foT136_2 : foT Try.prog 136 2 = some (2, 128) := by kernel_rfl
@[simp] theorem Try.foT136_3 : foT Try.prog 136 3 = some (3, 129) := by kernel_rfl
@[simp] theorem Try.foT136_4 : foT Try.prog 136 4 = some (4, 5) := by kernel_rfl
@[simp] theorem Try.foT136_5 : foT Try.prog 136 5 = some (5, 5) := by kernel_rfl
@[simp] theorem Try.foT136_6 : foT Try.prog 136 6 = some (6, 130) := by kernel_rfl
@[simp] theorem Try.foT136_7 : foT Try.prog 136 7 = some (7, 131) := by kernel_rfl
@[simp] theorem Try.foT136_8 : foT Try.prog 136 8 = some (8, 132) := by kernel_rfl
@[simp] theorem Try.foT136_9 : foT Try.prog 136 9 = some (9, 133) := by kernel_rfl
@[simp] theorem Try.foT136_10 : foT Try.prog 136 10 = some (10, 134) := by kernel_rfl
@[simp] theorem Try.placesL136 : placesL Try.prog 136 = some [(0, 1), (1, 1), (2, 1), (3, 1), (4, 1), (5, 1), (6, 1), (7, 1), (8, 1), (9, 1), (10, 1)] := by kernel_rfl
attribute [simp] Try.underlying1 Try.underlying2 Try.underlying3 Try.underlying4 Try.underlying5 Try.underlying6 Try.underlying9 Try.underlying10 Try.underlying11 Try.underlying12 Try.underlying15 Try.underlying16 Try.underlying17 Try.underlying20 Try.underlying21 Try.underlying22 Try.underlying25 Try.underlying26 Try.underlying27 Try.underlying29 Try.underlying30 Try.underlying31 Try.underlying33 Try.underlying34 Try.underlying36 Try.underlying37 Try.underlying38 Try.underlying39 Try.underlying40 Try.underlying41 Try.underlying43 Try.underlying44 Try.underlying45 Try.underlying46 Try.underlying47 Try.underlying48 Try.underlying49 Try.underlying50 Try.underlying52 Try.underlying56 Try.underlying58 Try.underlying59 Try.underlying60 Try.underlying61 Try.underlying62 Try.underlying63 Try.underlying64 Try.underlying65 Try.underlying67 Try.underlying68 Try.underlying69 Try.underlying70 Try.underlying71 Try.underlying74 Try.underlying75 Try.underlying76 Try.underlying77 Try.underlying78 Try.underlying79 Try.underlying80 Try.underlying81 Try.underlying82 Try.underlying83 Try.underlying85 Try.underlying86 Try.underlying87 Try.underlying88 Try.underlying89 Try.underlying90 Try.underlying91 Try.underlying92 Try.underlying93 Try.underlying94 Try.underlying95 Try.underlying97 Try.underlying98 Try.underlying99 Try.underlying100 Try.underlying101 Try.underlying104 Try.underlying105 Try.underlying106 Try.underlying107 Try.underlying108 Try.underlying109 Try.underlying110 Try.underlying111 Try.underlying112 Try.underlying113 Try.underlying115 Try.underlying116 Try.underlying117 Try.underlying119 Try.underlying120 Try.underlying121 Try.underlying124 Try.underlying127 Try.underlying128 Try.underlying129 Try.underlying130 Try.underlying131 Try.underlying132 Try.underlying133 Try.underlying134
end Go.Proofs
