/-
  Facts on the types of this translation, each by computation. Written by a program (types.py).
-/
import Derived.Test.YtpnikgfpcgaboaaA3
import Derived.Test.YtpnikgfpcgaboaaProg
import Derived.KernelRfl
set_option linter.unusedSimpArgs false
set_option linter.unusedVariables false
set_option linter.unusedSectionVars false
namespace Go.Proofs
open Go Go.AH
@[simp] theorem Try.szT1 : szT Try.prog 1 = some 1 := by kernel_rfl
@[simp] theorem Try.aggT1 : aggT Try.prog 1 = some false := by kernel_rfl
@[simp] theorem Try.zeroT1 : zeroT Try.prog 1 = some [.nilfn] := by kernel_rfl
@[simp] theorem Try.szT2 : szT Try.prog 2 = some 1 := by kernel_rfl
@[simp] theorem Try.aggT2 : aggT Try.prog 2 = some false := by kernel_rfl
@[simp] theorem Try.zeroT2 : zeroT Try.prog 2 = some [.int .i64 0] := by kernel_rfl
@[simp] theorem Try.szT3 : szT Try.prog 3 = some 1 := by kernel_rfl
@[simp] theorem Try.aggT3 : aggT Try.prog 3 = some false := by kernel_rfl
@[simp] theorem Try.zeroT3 : zeroT Try.prog 3 = some [.int .i64 0] := by kernel_rfl
@[simp] theorem Try.szT4 : szT Try.prog 4 = some 1 := by kernel_rfl
@[simp] theorem Try.aggT4 : aggT Try.prog 4 = some false := by kernel_rfl
@[simp] theorem Try.zeroT4 : zeroT Try.prog 4 = some [.bool false] := by kernel_rfl
@[simp] theorem Try.szT5 : szT Try.prog 5 = some 1 := by kernel_rfl
@[simp] theorem Try.aggT5 : aggT Try.prog 5 = some false := by kernel_rfl
@[simp] theorem Try.zeroT5 : zeroT Try.prog 5 = some [.int .u8 0] := by kernel_rfl
@[simp] theorem Try.szT6 : szT Try.prog 6 = some 1 := by kernel_rfl
@[simp] theorem Try.aggT6 : aggT Try.prog 6 = some false := by kernel_rfl
@[simp] theorem Try.zeroT6 : zeroT Try.prog 6 = some [.int .u8 0] := by kernel_rfl
@[simp] theorem Try.szT7 : szT Try.prog 7 = some 4 := by kernel_rfl
@[simp] theorem Try.aggT7 : aggT Try.prog 7 = some true := by kernel_rfl
@[simp] theorem Try.zeroT7 : zeroT Try.prog 7 = some [.int .i64 0, .int .i64 0, .bool false, .int .u8 0] := by kernel_rfl
@[simp] theorem Try.foT7_0 : foT Try.prog 7 0 = some (0, 2) := by kernel_rfl
@[simp] theorem Try.foT7_1 : foT Try.prog 7 1 = some (1, 3) := by kernel_rfl
@[simp] theorem Try.foT7_2 : foT Try.prog 7 2 = some (2, 4) := by kernel_rfl
@[simp] theorem Try.foT7_3 : foT Try.prog 7 3 = some (3, 6) := by kernel_rfl
@[simp] theorem Try.placesL7 : placesL Try.prog 7 = some [(0, 1), (1, 1), (2, 1), (3, 1)] := by kernel_rfl
@[simp] theorem Try.szT8 : szT Try.prog 8 = some 4 := by kernel_rfl
@[simp] theorem Try.aggT8 : aggT Try.prog 8 = some true := by kernel_rfl
@[simp] theorem Try.zeroT8 : zeroT Try.prog 8 = some [.int .i64 0, .int .i64 0, .bool false, .int .u8 0] := by kernel_rfl
@[simp] theorem Try.foT8_0 : foT Try.prog 8 0 = some (0, 2) := by kernel_rfl
@[simp] theorem Try.foT8_1 : foT Try.prog 8 1 = some (1, 3) := by kernel_rfl
@[simp] theorem Try.foT8_2 : foT Try.prog 8 2 = some (2, 4) := by kernel_rfl
@[simp] theorem Try.foT8_3 : foT Try.prog 8 3 = some (3, 6) := by kernel_rfl
@[simp] theorem Try.placesL8 : placesL Try.prog 8 = some [(0, 1), (1, 1), (2, 1), (3, 1)] := by kernel_rfl
@[simp] theorem Try.szT9 : szT Try.prog 9 = some 1 := by kernel_rfl
@[simp] theorem Try.aggT9 : aggT Try.prog 9 = some false := by kernel_rfl
@[simp] theorem Try.zeroT9 : zeroT Try.prog 9 = some [.str []] := by kernel_rfl
@[simp] theorem Try.rowT9 : rowT Try.prog 9 = true := by kernel_rfl
@[simp] theorem Try.szT10 : szT Try.prog 10 = some 1 := by kernel_rfl
@[simp] theorem Try.aggT10 : aggT Try.prog 10 = some false := by kernel_rfl
@[simp] theorem Try.zeroT10 : zeroT Try.prog 10 = some [.str []] := by kernel_rfl
@[simp] theorem Try.rowT10 : rowT Try.prog 10 = true := by kernel_rfl
@[simp] theorem Try.szT11 : szT Try.prog 11 = some 1 := by kernel_rfl
@[simp] theorem Try.aggT11 : aggT Try.prog 11 = some false := by kernel_rfl
@[simp] theorem Try.zeroT11 : zeroT Try.prog 11 = some [.str []] := by kernel_rfl
@[simp] theorem Try.rowT11 : rowT Try.prog 11 = true := by kernel_rfl
@[simp] theorem Try.szT12 : szT Try.prog 12 = some 1 := by kernel_rfl
@[simp] theorem Try.aggT12 : aggT Try.prog 12 = some false := by kernel_rfl
@[simp] theorem Try.zeroT12 : zeroT Try.prog 12 = some [.int .u64 0] := by kernel_rfl
@[simp] theorem Try.szT13 : szT Try.prog 13 = some 2 := by kernel_rfl
@[simp] theorem Try.aggT13 : aggT Try.prog 13 = some true := by kernel_rfl
@[simp] theorem Try.zeroT13 : zeroT Try.prog 13 = some [.str [], .int .u64 0] := by kernel_rfl
@[simp] theorem Try.foT13_0 : foT Try.prog 13 0 = some (0, 9) := by kernel_rfl
@[simp] theorem Try.foT13_1 : foT Try.prog 13 1 = some (1, 12) := by kernel_rfl
@[simp] theorem Try.placesL13 : placesL Try.prog 13 = some [(0, 1), (1, 1)] := by kernel_rfl
@[simp] theorem Try.szT14 : szT Try.prog 14 = some 2 := by kernel_rfl
@[simp] theorem Try.aggT14 : aggT Try.prog 14 = some true := by kernel_rfl
@[simp] theorem Try.zeroT14 : zeroT Try.prog 14 = some [.str [], .int .u64 0] := by kernel_rfl
@[simp] theorem Try.foT14_0 : foT Try.prog 14 0 = some (0, 9) := by kernel_rfl
@[simp] theorem Try.foT14_1 : foT Try.prog 14 1 = some (1, 12) := by kernel_rfl
@[simp] theorem Try.placesL14 : placesL Try.prog 14 = some [(0, 1), (1, 1)] := by kernel_rfl
@[simp] theorem Try.szT15 : szT Try.prog 15 = some 1 := by kernel_rfl
@[simp] theorem Try.aggT15 : aggT Try.prog 15 = some false := by kernel_rfl
@[simp] theorem Try.zeroT15 : zeroT Try.prog 15 = some [.nilptr] := by kernel_rfl
@[simp] theorem Try.szT16 : szT Try.prog 16 = some 1 := by kernel_rfl
@[simp] theorem Try.aggT16 : aggT Try.prog 16 = some false := by kernel_rfl
@[simp] theorem Try.zeroT16 : zeroT Try.prog 16 = some [.nilptr] := by kernel_rfl
@[simp] theorem Try.szT17 : szT Try.prog 17 = some 1 := by kernel_rfl
@[simp] theorem Try.aggT17 : aggT Try.prog 17 = some false := by kernel_rfl
@[simp] theorem Try.zeroT17 : zeroT Try.prog 17 = some [.nilptr] := by kernel_rfl
@[simp] theorem Try.szT18 : szT Try.prog 18 = some 1 := by kernel_rfl
@[simp] theorem Try.aggT18 : aggT Try.prog 18 = some true := by kernel_rfl
@[simp] theorem Try.zeroT18 : zeroT Try.prog 18 = some [.nilptr] := by kernel_rfl
@[simp] theorem Try.foT18_0 : foT Try.prog 18 0 = some (0, 17) := by kernel_rfl
@[simp] theorem Try.placesL18 : placesL Try.prog 18 = some [(0, 1)] := by kernel_rfl
@[simp] theorem Try.szT19 : szT Try.prog 19 = some 1 := by kernel_rfl
@[simp] theorem Try.aggT19 : aggT Try.prog 19 = some true := by kernel_rfl
@[simp] theorem Try.zeroT19 : zeroT Try.prog 19 = some [.nilptr] := by kernel_rfl
@[simp] theorem Try.foT19_0 : foT Try.prog 19 0 = some (0, 17) := by kernel_rfl
@[simp] theorem Try.placesL19 : placesL Try.prog 19 = some [(0, 1)] := by kernel_rfl
@[simp] theorem Try.szT20 : szT Try.prog 20 = some 1 := by kernel_rfl
@[simp] theorem Try.aggT20 : aggT Try.prog 20 = some false := by kernel_rfl
@[simp] theorem Try.zeroT20 : zeroT Try.prog 20 = some [.nilif] := by kernel_rfl
@[simp] theorem Try.szT21 : szT Try.prog 21 = some 1 := by kernel_rfl
@[simp] theorem Try.aggT21 : aggT Try.prog 21 = some false := by kernel_rfl
@[simp] theorem Try.zeroT21 : zeroT Try.prog 21 = some [.int .i32 0] := by kernel_rfl
@[simp] theorem Try.szT22 : szT Try.prog 22 = some 1 := by kernel_rfl
@[simp] theorem Try.aggT22 : aggT Try.prog 22 = some false := by kernel_rfl
@[simp] theorem Try.zeroT22 : zeroT Try.prog 22 = some [.nilsl] := by kernel_rfl
@[simp] theorem Try.elemT22 : elemT Try.prog 22 = some (55, 3, 24, [.int .i64 0, .int .i64 0, .int .i64 0]) := by kernel_rfl
@[simp] theorem Try.rowT22 : rowT Try.prog 22 = true := by kernel_rfl
@[simp] theorem Try.szT23 : szT Try.prog 23 = some 2 := by kernel_rfl
@[simp] theorem Try.aggT23 : aggT Try.prog 23 = some true := by kernel_rfl
@[simp] theorem Try.zeroT23 : zeroT Try.prog 23 = some [.int .i64 0, .nilsl] := by kernel_rfl
@[simp] theorem Try.foT23_0 : foT Try.prog 23 0 = some (0, 3) := by kernel_rfl
@[simp] theorem Try.foT23_1 : foT Try.prog 23 1 = some (1, 22) := by kernel_rfl
@[simp] theorem Try.placesL23 : placesL Try.prog 23 = some [(0, 1), (1, 1)] := by kernel_rfl
@[simp] theorem Try.szT24 : szT Try.prog 24 = some 2 := by kernel_rfl
@[simp] theorem Try.aggT24 : aggT Try.prog 24 = some true := by kernel_rfl
@[simp] theorem Try.zeroT24 : zeroT Try.prog 24 = some [.int .i64 0, .nilsl] := by kernel_rfl
@[simp] theorem Try.foT24_0 : foT Try.prog 24 0 = some (0, 3) := by kernel_rfl
@[simp] theorem Try.foT24_1 : foT Try.prog 24 1 = some (1, 22) := by kernel_rfl
@[simp] theorem Try.placesL24 : placesL Try.prog 24 = some [(0, 1), (1, 1)] := by kernel_rfl
@[simp] theorem Try.szT25 : szT Try.prog 25 = some 1 := by kernel_rfl
@[simp] theorem Try.aggT25 : aggT Try.prog 25 = some false := by kernel_rfl
@[simp] theorem Try.zeroT25 : zeroT Try.prog 25 = some [.nilfn] := by kernel_rfl
@[simp] theorem Try.szT26 : szT Try.prog 26 = some 1 := by kernel_rfl
@[simp] theorem Try.aggT26 : aggT Try.prog 26 = some false := by kernel_rfl
@[simp] theorem Try.zeroT26 : zeroT Try.prog 26 = some [.int .u64 0] := by kernel_rfl
@[simp] theorem Try.szT27 : szT Try.prog 27 = some 1 := by kernel_rfl
@[simp] theorem Try.aggT27 : aggT Try.prog 27 = some false := by kernel_rfl
@[simp] theorem Try.zeroT27 : zeroT Try.prog 27 = some [.int .i64 0] := by kernel_rfl
@[simp] theorem Try.szT29 : szT Try.prog 29 = some 1 := by kernel_rfl
@[simp] theorem Try.aggT29 : aggT Try.prog 29 = some false := by kernel_rfl
@[simp] theorem Try.zeroT29 : zeroT Try.prog 29 = some [.nilfn] := by kernel_rfl
@[simp] theorem Try.szT30 : szT Try.prog 30 = some 1 := by kernel_rfl
@[simp] theorem Try.aggT30 : aggT Try.prog 30 = some false := by kernel_rfl
@[simp] theorem Try.zeroT30 : zeroT Try.prog 30 = some [.nilsl] := by kernel_rfl
@[simp] theorem Try.elemT30 : elemT Try.prog 30 = some (108, 3, 24, [.int .i64 0, .int .i64 0, .int .i64 0]) := by kernel_rfl
@[simp] theorem Try.rowT30 : rowT Try.prog 30 = true := by kernel_rfl
@[simp] theorem Try.szT31 : szT Try.prog 31 = some 2 := by kernel_rfl
@[simp] theorem Try.aggT31 : aggT Try.prog 31 = some true := by kernel_rfl
@[simp] theorem Try.zeroT31 : zeroT Try.prog 31 = some [.int .i64 0, .nilsl] := by kernel_rfl
@[simp] theorem Try.foT31_0 : foT Try.prog 31 0 = some (0, 3) := by kernel_rfl
@[simp] theorem Try.foT31_1 : foT Try.prog 31 1 = some (1, 30) := by kernel_rfl
@[simp] theorem Try.placesL31 : placesL Try.prog 31 = some [(0, 1), (1, 1)] := by kernel_rfl
@[simp] theorem Try.szT32 : szT Try.prog 32 = some 2 := by kernel_rfl
@[simp] theorem Try.aggT32 : aggT Try.prog 32 = some true := by kernel_rfl
@[simp] theorem Try.zeroT32 : zeroT Try.prog 32 = some [.int .i64 0, .nilsl] := by kernel_rfl
@[simp] theorem Try.foT32_0 : foT Try.prog 32 0 = some (0, 3) := by kernel_rfl
@[simp] theorem Try.foT32_1 : foT Try.prog 32 1 = some (1, 30) := by kernel_rfl
@[simp] theorem Try.placesL32 : placesL Try.prog 32 = some [(0, 1), (1, 1)] := by kernel_rfl
@[simp] theorem Try.szT33 : szT Try.prog 33 = some 1 := by kernel_rfl
@[simp] theorem Try.aggT33 : aggT Try.prog 33 = some false := by kernel_rfl
@[simp] theorem Try.zeroT33 : zeroT Try.prog 33 = some [.nilfn] := by kernel_rfl
@[simp] theorem Try.szT34 : szT Try.prog 34 = some 1 := by kernel_rfl
@[simp] theorem Try.aggT34 : aggT Try.prog 34 = some false := by kernel_rfl
@[simp] theorem Try.zeroT34 : zeroT Try.prog 34 = some [.nilsl] := by kernel_rfl
@[simp] theorem Try.elemT34 : elemT Try.prog 34 = some (3, 1, 8, [.int .i64 0]) := by kernel_rfl
@[simp] theorem Try.rowT34 : rowT Try.prog 34 = true := by kernel_rfl
@[simp] theorem Try.szT35 : szT Try.prog 35 = some 1 := by kernel_rfl
@[simp] theorem Try.aggT35 : aggT Try.prog 35 = some false := by kernel_rfl
@[simp] theorem Try.zeroT35 : zeroT Try.prog 35 = some [.nilfn] := by kernel_rfl
@[simp] theorem Try.szT36 : szT Try.prog 36 = some 1 := by kernel_rfl
@[simp] theorem Try.aggT36 : aggT Try.prog 36 = some false := by kernel_rfl
@[simp] theorem Try.zeroT36 : zeroT Try.prog 36 = some [.nilfn] := by kernel_rfl
@[simp] theorem Try.szT37 : szT Try.prog 37 = some 1 := by kernel_rfl
@[simp] theorem Try.aggT37 : aggT Try.prog 37 = some false := by kernel_rfl
@[simp] theorem Try.zeroT37 : zeroT Try.prog 37 = some [.nilfn] := by kernel_rfl
@[simp] theorem Try.szT38 : szT Try.prog 38 = some 2 := by kernel_rfl
@[simp] theorem Try.aggT38 : aggT Try.prog 38 = some true := by kernel_rfl
@[simp] theorem Try.zeroT38 : zeroT Try.prog 38 = some [.int .i64 0, .int .i64 0] := by kernel_rfl
@[simp] theorem Try.placesL38 : placesL Try.prog 38 = some [(0, 1), (1, 1)] := by kernel_rfl
@[simp] theorem Try.szT40 : szT Try.prog 40 = some 1 := by kernel_rfl
@[simp] theorem Try.aggT40 : aggT Try.prog 40 = some false := by kernel_rfl
@[simp] theorem Try.zeroT40 : zeroT Try.prog 40 = some [.nilfn] := by kernel_rfl
@[simp] theorem Try.szT41 : szT Try.prog 41 = some 1 := by kernel_rfl
@[simp] theorem Try.aggT41 : aggT Try.prog 41 = some false := by kernel_rfl
@[simp] theorem Try.zeroT41 : zeroT Try.prog 41 = some [.nilsl] := by kernel_rfl
@[simp] theorem Try.elemT41 : elemT Try.prog 41 = some (2, 1, 8, [.int .i64 0]) := by kernel_rfl
@[simp] theorem Try.rowT41 : rowT Try.prog 41 = true := by kernel_rfl
@[simp] theorem Try.szT43 : szT Try.prog 43 = some 1 := by kernel_rfl
@[simp] theorem Try.aggT43 : aggT Try.prog 43 = some false := by kernel_rfl
@[simp] theorem Try.zeroT43 : zeroT Try.prog 43 = some [.nilfn] := by kernel_rfl
@[simp] theorem Try.szT45 : szT Try.prog 45 = some 1 := by kernel_rfl
@[simp] theorem Try.aggT45 : aggT Try.prog 45 = some false := by kernel_rfl
@[simp] theorem Try.zeroT45 : zeroT Try.prog 45 = some [.nilfn] := by kernel_rfl
@[simp] theorem Try.szT47 : szT Try.prog 47 = some 1 := by kernel_rfl
@[simp] theorem Try.aggT47 : aggT Try.prog 47 = some false := by kernel_rfl
@[simp] theorem Try.zeroT47 : zeroT Try.prog 47 = some [.nilfn] := by kernel_rfl
@[simp] theorem Try.szT49 : szT Try.prog 49 = some 1 := by kernel_rfl
@[simp] theorem Try.aggT49 : aggT Try.prog 49 = some false := by kernel_rfl
@[simp] theorem Try.zeroT49 : zeroT Try.prog 49 = some [.nilfn] := by kernel_rfl
@[simp] theorem Try.szT50 : szT Try.prog 50 = some 1 := by kernel_rfl
@[simp] theorem Try.aggT50 : aggT Try.prog 50 = some false := by kernel_rfl
@[simp] theorem Try.zeroT50 : zeroT Try.prog 50 = some [.nilfn] := by kernel_rfl
@[simp] theorem Try.szT51 : szT Try.prog 51 = some 1 := by kernel_rfl
@[simp] theorem Try.aggT51 : aggT Try.prog 51 = some false := by kernel_rfl
@[simp] theorem Try.zeroT51 : zeroT Try.prog 51 = some [.nilfn] := by kernel_rfl
@[simp] theorem Try.szT52 : szT Try.prog 52 = some 1 := by kernel_rfl
@[simp] theorem Try.aggT52 : aggT Try.prog 52 = some false := by kernel_rfl
@[simp] theorem Try.zeroT52 : zeroT Try.prog 52 = some [.nilfn] := by kernel_rfl
@[simp] theorem Try.szT53 : szT Try.prog 53 = some 1 := by kernel_rfl
@[simp] theorem Try.aggT53 : aggT Try.prog 53 = some false := by kernel_rfl
@[simp] theorem Try.zeroT53 : zeroT Try.prog 53 = some [.int .u64 0] := by kernel_rfl
@[simp] theorem Try.szT54 : szT Try.prog 54 = some 3 := by kernel_rfl
@[simp] theorem Try.aggT54 : aggT Try.prog 54 = some true := by kernel_rfl
@[simp] theorem Try.zeroT54 : zeroT Try.prog 54 = some [.int .i64 0, .int .i64 0, .int .i64 0] := by kernel_rfl
@[simp] theorem Try.foT54_0 : foT Try.prog 54 0 = some (0, 3) := by kernel_rfl
@[simp] theorem Try.foT54_1 : foT Try.prog 54 1 = some (1, 3) := by kernel_rfl
@[simp] theorem Try.foT54_2 : foT Try.prog 54 2 = some (2, 2) := by kernel_rfl
@[simp] theorem Try.placesL54 : placesL Try.prog 54 = some [(0, 1), (1, 1), (2, 1)] := by kernel_rfl
@[simp] theorem Try.szT55 : szT Try.prog 55 = some 3 := by kernel_rfl
@[simp] theorem Try.aggT55 : aggT Try.prog 55 = some true := by kernel_rfl
@[simp] theorem Try.zeroT55 : zeroT Try.prog 55 = some [.int .i64 0, .int .i64 0, .int .i64 0] := by kernel_rfl
@[simp] theorem Try.foT55_0 : foT Try.prog 55 0 = some (0, 3) := by kernel_rfl
@[simp] theorem Try.foT55_1 : foT Try.prog 55 1 = some (1, 3) := by kernel_rfl
@[simp] theorem Try.foT55_2 : foT Try.prog 55 2 = some (2, 2) := by kernel_rfl
@[simp] theorem Try.placesL55 : placesL Try.prog 55 = some [(0, 1), (1, 1), (2, 1)] := by kernel_rfl
@[simp] theorem Try.szT56 : szT Try.prog 56 = some 1 := by kernel_rfl
@[simp] theorem Try.aggT56 : aggT Try.prog 56 = some false := by kernel_rfl
@[simp] theorem Try.zeroT56 : zeroT Try.prog 56 = some [.nilfn] := by kernel_rfl
@[simp] theorem Try.szT57 : szT Try.prog 57 = some 1 := by kernel_rfl
@[simp] theorem Try.aggT57 : aggT Try.prog 57 = some false := by kernel_rfl
@[simp] theorem Try.zeroT57 : zeroT Try.prog 57 = some [.nilfn] := by kernel_rfl
@[simp] theorem Try.szT58 : szT Try.prog 58 = some 1 := by kernel_rfl
@[simp] theorem Try.aggT58 : aggT Try.prog 58 = some false := by kernel_rfl
@[simp] theorem Try.zeroT58 : zeroT Try.prog 58 = some [.nilfn] := by kernel_rfl
@[simp] theorem Try.szT59 : szT Try.prog 59 = some 1 := by kernel_rfl
@[simp] theorem Try.aggT59 : aggT Try.prog 59 = some false := by kernel_rfl
@[simp] theorem Try.zeroT59 : zeroT Try.prog 59 = some [.nilfn] := by kernel_rfl
@[simp] theorem Try.szT60 : szT Try.prog 60 = some 1 := by kernel_rfl
@[simp] theorem Try.aggT60 : aggT Try.prog 60 = some false := by kernel_rfl
@[simp] theorem Try.zeroT60 : zeroT Try.prog 60 = some [.nilfn] := by kernel_rfl
@[simp] theorem Try.szT61 : szT Try.prog 61 = some 1 := by kernel_rfl
@[simp] theorem Try.aggT61 : aggT Try.prog 61 = some false := by kernel_rfl
@[simp] theorem Try.zeroT61 : zeroT Try.prog 61 = some [.nilsl] := by kernel_rfl
@[simp] theorem Try.elemT61 : elemT Try.prog 61 = some (34, 1, 24, [.nilsl]) := by kernel_rfl
@[simp] theorem Try.rowT61 : rowT Try.prog 61 = true := by kernel_rfl
@[simp] theorem Try.szT63 : szT Try.prog 63 = some 1 := by kernel_rfl
@[simp] theorem Try.aggT63 : aggT Try.prog 63 = some false := by kernel_rfl
@[simp] theorem Try.zeroT63 : zeroT Try.prog 63 = some [.nilfn] := by kernel_rfl
@[simp] theorem Try.szT64 : szT Try.prog 64 = some 1 := by kernel_rfl
@[simp] theorem Try.aggT64 : aggT Try.prog 64 = some false := by kernel_rfl
@[simp] theorem Try.zeroT64 : zeroT Try.prog 64 = some [.nilfn] := by kernel_rfl
@[simp] theorem Try.szT65 : szT Try.prog 65 = some 1 := by kernel_rfl
@[simp] theorem Try.aggT65 : aggT Try.prog 65 = some false := by kernel_rfl
@[simp] theorem Try.zeroT65 : zeroT Try.prog 65 = some [.nilfn] := by kernel_rfl
@[simp] theorem Try.szT66 : szT Try.prog 66 = some 1 := by kernel_rfl
@[simp] theorem Try.aggT66 : aggT Try.prog 66 = some false := by kernel_rfl
@[simp] theorem Try.zeroT66 : zeroT Try.prog 66 = some [.nilfn] := by kernel_rfl
@[simp] theorem Try.szT67 : szT Try.prog 67 = some 1 := by kernel_rfl
@[simp] theorem Try.aggT67 : aggT Try.prog 67 = some false := by kernel_rfl
@[simp] theorem Try.zeroT67 : zeroT Try.prog 67 = some [.nilfn] := by kernel_rfl
@[simp] theorem Try.szT68 : szT Try.prog 68 = some 1 := by kernel_rfl
@[simp] theorem Try.aggT68 : aggT Try.prog 68 = some false := by kernel_rfl
@[simp] theorem Try.zeroT68 : zeroT Try.prog 68 = some [.nilfn] := by kernel_rfl
@[simp] theorem Try.szT69 : szT Try.prog 69 = some 1 := by kernel_rfl
@[simp] theorem Try.aggT69 : aggT Try.prog 69 = some false := by kernel_rfl
@[simp] theorem Try.zeroT69 : zeroT Try.prog 69 = some [.nilfn] := by kernel_rfl
@[simp] theorem Try.szT70 : szT Try.prog 70 = some 1 := by kernel_rfl
@[simp] theorem Try.aggT70 : aggT Try.prog 70 = some false := by kernel_rfl
@[simp] theorem Try.zeroT70 : zeroT Try.prog 70 = some [.nilsl] := by kernel_rfl
@[simp] theorem Try.elemT70 : elemT Try.prog 70 = some (127, 3, 24, [.int .i64 0, .int .i64 0, .int .i64 0]) := by kernel_rfl
@[simp] theorem Try.rowT70 : rowT Try.prog 70 = true := by kernel_rfl
@[simp] theorem Try.szT71 : szT Try.prog 71 = some 2 := by kernel_rfl
@[simp] theorem Try.aggT71 : aggT Try.prog 71 = some true := by kernel_rfl
@[simp] theorem Try.zeroT71 : zeroT Try.prog 71 = some [.int .i64 0, .nilsl] := by kernel_rfl
@[simp] theorem Try.foT71_0 : foT Try.prog 71 0 = some (0, 3) := by kernel_rfl
@[simp] theorem Try.foT71_1 : foT Try.prog 71 1 = some (1, 70) := by kernel_rfl
@[simp] theorem Try.placesL71 : placesL Try.prog 71 = some [(0, 1), (1, 1)] := by kernel_rfl
@[simp] theorem Try.szT72 : szT Try.prog 72 = some 2 := by kernel_rfl
@[simp] theorem Try.aggT72 : aggT Try.prog 72 = some true := by kernel_rfl
@[simp] theorem Try.zeroT72 : zeroT Try.prog 72 = some [.int .i64 0, .nilsl] := by kernel_rfl
@[simp] theorem Try.foT72_0 : foT Try.prog 72 0 = some (0, 3) := by kernel_rfl
@[simp] theorem Try.foT72_1 : foT Try.prog 72 1 = some (1, 70) := by kernel_rfl
@[simp] theorem Try.placesL72 : placesL Try.prog 72 = some [(0, 1), (1, 1)] := by kernel_rfl
@[simp] theorem Try.szT73 : szT Try.prog 73 = some 1 := by kernel_rfl
@[simp] theorem Try.aggT73 : aggT Try.prog 73 = some false := by kernel_rfl
@[simp] theorem Try.zeroT73 : zeroT Try.prog 73 = some [.nilsl] := by kernel_rfl
@[simp] theorem Try.elemT73 : elemT Try.prog 73 = some (78, 3, 24, [.int .i64 0, .int .i64 0, .int .i64 0]) := by kernel_rfl
@[simp] theorem Try.rowT73 : rowT Try.prog 73 = true := by kernel_rfl
@[simp] theorem Try.szT74 : szT Try.prog 74 = some 1 := by kernel_rfl
@[simp] theorem Try.aggT74 : aggT Try.prog 74 = some false := by kernel_rfl
@[simp] theorem Try.zeroT74 : zeroT Try.prog 74 = some [.nilfn] := by kernel_rfl
@[simp] theorem Try.szT75 : szT Try.prog 75 = some 1 := by kernel_rfl
@[simp] theorem Try.aggT75 : aggT Try.prog 75 = some false := by kernel_rfl
@[simp] theorem Try.zeroT75 : zeroT Try.prog 75 = some [.nilsl] := by kernel_rfl
@[simp] theorem Try.elemT75 : elemT Try.prog 75 = some (77, 3, 24, [.int .i64 0, .int .i64 0, .int .i64 0]) := by kernel_rfl
@[simp] theorem Try.rowT75 : rowT Try.prog 75 = true := by kernel_rfl
@[simp] theorem Try.szT76 : szT Try.prog 76 = some 3 := by kernel_rfl
@[simp] theorem Try.aggT76 : aggT Try.prog 76 = some true := by kernel_rfl
@[simp] theorem Try.zeroT76 : zeroT Try.prog 76 = some [.int .i64 0, .int .i64 0, .int .i64 0] := by kernel_rfl
@[simp] theorem Try.foT76_0 : foT Try.prog 76 0 = some (0, 3) := by kernel_rfl
@[simp] theorem Try.foT76_1 : foT Try.prog 76 1 = some (1, 3) := by kernel_rfl
@[simp] theorem Try.foT76_2 : foT Try.prog 76 2 = some (2, 2) := by kernel_rfl
@[simp] theorem Try.placesL76 : placesL Try.prog 76 = some [(0, 1), (1, 1), (2, 1)] := by kernel_rfl
@[simp] theorem Try.szT77 : szT Try.prog 77 = some 3 := by kernel_rfl
@[simp] theorem Try.aggT77 : aggT Try.prog 77 = some true := by kernel_rfl
@[simp] theorem Try.zeroT77 : zeroT Try.prog 77 = some [.int .i64 0, .int .i64 0, .int .i64 0] := by kernel_rfl
@[simp] theorem Try.foT77_0 : foT Try.prog 77 0 = some (0, 3) := by kernel_rfl
@[simp] theorem Try.foT77_1 : foT Try.prog 77 1 = some (1, 3) := by kernel_rfl
@[simp] theorem Try.foT77_2 : foT Try.prog 77 2 = some (2, 2) := by kernel_rfl
@[simp] theorem Try.placesL77 : placesL Try.prog 77 = some [(0, 1), (1, 1), (2, 1)] := by kernel_rfl
@[simp] theorem Try.szT78 : szT Try.prog 78 = some 3 := by kernel_rfl
@[simp] theorem Try.aggT78 : aggT Try.prog 78 = some true := by kernel_rfl
@[simp] theorem Try.zeroT78 : zeroT Try.prog 78 = some [.int .i64 0, .int .i64 0, .int .i64 0] := by kernel_rfl
@[simp] theorem Try.foT78_0 : foT Try.prog 78 0 = some (0, 3) := by kernel_rfl
@[simp] theorem Try.foT78_1 : foT Try.prog 78 1 = some (1, 3) := by kernel_rfl
@[simp] theorem Try.foT78_2 : foT Try.prog 78 2 = some (2, 2) := by kernel_rfl
@[simp] theorem Try.placesL78 : placesL Try.prog 78 = some [(0, 1), (1, 1), (2, 1)] := by kernel_rfl
@[simp] theorem Try.szT79 : szT Try.prog 79 = some 1 := by kernel_rfl
@[simp] theorem Try.aggT79 : aggT Try.prog 79 = some false := by kernel_rfl
@[simp] theorem Try.zeroT79 : zeroT Try.prog 79 = some [.nilfn] := by kernel_rfl
@[simp] theorem Try.szT80 : szT Try.prog 80 = some 1 := by kernel_rfl
@[simp] theorem Try.aggT80 : aggT Try.prog 80 = some false := by kernel_rfl
@[simp] theorem Try.zeroT80 : zeroT Try.prog 80 = some [.nilsl] := by kernel_rfl
@[simp] theorem Try.elemT80 : elemT Try.prog 80 = some (110, 3, 24, [.int .i64 0, .int .i64 0, .int .i64 0]) := by kernel_rfl
@[simp] theorem Try.rowT80 : rowT Try.prog 80 = true := by kernel_rfl
@[simp] theorem Try.szT81 : szT Try.prog 81 = some 2 := by kernel_rfl
@[simp] theorem Try.aggT81 : aggT Try.prog 81 = some true := by kernel_rfl
@[simp] theorem Try.zeroT81 : zeroT Try.prog 81 = some [.int .i64 0, .nilsl] := by kernel_rfl
@[simp] theorem Try.foT81_0 : foT Try.prog 81 0 = some (0, 3) := by kernel_rfl
@[simp] theorem Try.foT81_1 : foT Try.prog 81 1 = some (1, 80) := by kernel_rfl
@[simp] theorem Try.placesL81 : placesL Try.prog 81 = some [(0, 1), (1, 1)] := by kernel_rfl
@[simp] theorem Try.szT82 : szT Try.prog 82 = some 2 := by kernel_rfl
@[simp] theorem Try.aggT82 : aggT Try.prog 82 = some true := by kernel_rfl
@[simp] theorem Try.zeroT82 : zeroT Try.prog 82 = some [.int .i64 0, .nilsl] := by kernel_rfl
@[simp] theorem Try.foT82_0 : foT Try.prog 82 0 = some (0, 3) := by kernel_rfl
@[simp] theorem Try.foT82_1 : foT Try.prog 82 1 = some (1, 80) := by kernel_rfl
@[simp] theorem Try.placesL82 : placesL Try.prog 82 = some [(0, 1), (1, 1)] := by kernel_rfl
@[simp] theorem Try.szT83 : szT Try.prog 83 = some 1 := by kernel_rfl
@[simp] theorem Try.aggT83 : aggT Try.prog 83 = some false := by kernel_rfl
@[simp] theorem Try.zeroT83 : zeroT Try.prog 83 = some [.nilfn] := by kernel_rfl
@[simp] theorem Try.szT84 : szT Try.prog 84 = some 1 := by kernel_rfl
@[simp] theorem Try.aggT84 : aggT Try.prog 84 = some false := by kernel_rfl
@[simp] theorem Try.zeroT84 : zeroT Try.prog 84 = some [.nilfn] := by kernel_rfl
@[simp] theorem Try.szT85 : szT Try.prog 85 = some 1 := by kernel_rfl
@[simp] theorem Try.aggT85 : aggT Try.prog 85 = some false := by kernel_rfl
@[simp] theorem Try.zeroT85 : zeroT Try.prog 85 = some [.nilfn] := by kernel_rfl
@[simp] theorem Try.szT86 : szT Try.prog 86 = some 1 := by kernel_rfl
@[simp] theorem Try.aggT86 : aggT Try.prog 86 = some false := by kernel_rfl
@[simp] theorem Try.zeroT86 : zeroT Try.prog 86 = some [.nilfn] := by kernel_rfl
@[simp] theorem Try.szT87 : szT Try.prog 87 = some 1 := by kernel_rfl
@[simp] theorem Try.aggT87 : aggT Try.prog 87 = some false := by kernel_rfl
@[simp] theorem Try.zeroT87 : zeroT Try.prog 87 = some [.nilfn] := by kernel_rfl
@[simp] theorem Try.szT88 : szT Try.prog 88 = some 1 := by kernel_rfl
@[simp] theorem Try.aggT88 : aggT Try.prog 88 = some false := by kernel_rfl
@[simp] theorem Try.zeroT88 : zeroT Try.prog 88 = some [.nilfn] := by kernel_rfl
@[simp] theorem Try.szT89 : szT Try.prog 89 = some 1 := by kernel_rfl
@[simp] theorem Try.aggT89 : aggT Try.prog 89 = some false := by kernel_rfl
@[simp] theorem Try.zeroT89 : zeroT Try.prog 89 = some [.nilfn] := by kernel_rfl
@[simp] theorem Try.szT90 : szT Try.prog 90 = some 1 := by kernel_rfl
@[simp] theorem Try.aggT90 : aggT Try.prog 90 = some false := by kernel_rfl
@[simp] theorem Try.zeroT90 : zeroT Try.prog 90 = some [.nilfn] := by kernel_rfl
@[simp] theorem Try.szT92 : szT Try.prog 92 = some 1 := by kernel_rfl
@[simp] theorem Try.aggT92 : aggT Try.prog 92 = some false := by kernel_rfl
@[simp] theorem Try.zeroT92 : zeroT Try.prog 92 = some [.nilfn] := by kernel_rfl
@[simp] theorem Try.szT94 : szT Try.prog 94 = some 1 := by kernel_rfl
@[simp] theorem Try.aggT94 : aggT Try.prog 94 = some false := by kernel_rfl
@[simp] theorem Try.zeroT94 : zeroT Try.prog 94 = some [.nilfn] := by kernel_rfl
@[simp] theorem Try.szT95 : szT Try.prog 95 = some 1 := by kernel_rfl
@[simp] theorem Try.aggT95 : aggT Try.prog 95 = some false := by kernel_rfl
@[simp] theorem Try.zeroT95 : zeroT Try.prog 95 = some [.nilsl] := by kernel_rfl
@[simp] theorem Try.elemT95 : elemT Try.prog 95 = some (41, 1, 24, [.nilsl]) := by kernel_rfl
@[simp] theorem Try.rowT95 : rowT Try.prog 95 = true := by kernel_rfl
@[simp] theorem Try.szT96 : szT Try.prog 96 = some 1 := by kernel_rfl
@[simp] theorem Try.aggT96 : aggT Try.prog 96 = some false := by kernel_rfl
@[simp] theorem Try.zeroT96 : zeroT Try.prog 96 = some [.nilfn] := by kernel_rfl
@[simp] theorem Try.szT97 : szT Try.prog 97 = some 1 := by kernel_rfl
@[simp] theorem Try.aggT97 : aggT Try.prog 97 = some false := by kernel_rfl
@[simp] theorem Try.zeroT97 : zeroT Try.prog 97 = some [.nilfn] := by kernel_rfl
@[simp] theorem Try.szT98 : szT Try.prog 98 = some 1 := by kernel_rfl
@[simp] theorem Try.aggT98 : aggT Try.prog 98 = some false := by kernel_rfl
@[simp] theorem Try.zeroT98 : zeroT Try.prog 98 = some [.nilfn] := by kernel_rfl
@[simp] theorem Try.szT99 : szT Try.prog 99 = some 1 := by kernel_rfl
@[simp] theorem Try.aggT99 : aggT Try.prog 99 = some false := by kernel_rfl
@[simp] theorem Try.zeroT99 : zeroT Try.prog 99 = some [.nilfn] := by kernel_rfl
@[simp] theorem Try.szT100 : szT Try.prog 100 = some 1 := by kernel_rfl
@[simp] theorem Try.aggT100 : aggT Try.prog 100 = some false := by kernel_rfl
@[simp] theorem Try.zeroT100 : zeroT Try.prog 100 = some [.nilfn] := by kernel_rfl
@[simp] theorem Try.szT101 : szT Try.prog 101 = some 1 := by kernel_rfl
@[simp] theorem Try.aggT101 : aggT Try.prog 101 = some false := by kernel_rfl
@[simp] theorem Try.zeroT101 : zeroT Try.prog 101 = some [.nilfn] := by kernel_rfl
@[simp] theorem Try.szT102 : szT Try.prog 102 = some 1 := by kernel_rfl
@[simp] theorem Try.aggT102 : aggT Try.prog 102 = some false := by kernel_rfl
@[simp] theorem Try.zeroT102 : zeroT Try.prog 102 = some [.nilfn] := by kernel_rfl
@[simp] theorem Try.szT103 : szT Try.prog 103 = some 1 := by kernel_rfl
@[simp] theorem Try.aggT103 : aggT Try.prog 103 = some false := by kernel_rfl
@[simp] theorem Try.zeroT103 : zeroT Try.prog 103 = some [.nilfn] := by kernel_rfl
@[simp] theorem Try.szT104 : szT Try.prog 104 = some 1 := by kernel_rfl
@[simp] theorem Try.aggT104 : aggT Try.prog 104 = some false := by kernel_rfl
@[simp] theorem Try.zeroT104 : zeroT Try.prog 104 = some [.nilfn] := by kernel_rfl
@[simp] theorem Try.szT105 : szT Try.prog 105 = some 1 := by kernel_rfl
@[simp] theorem Try.aggT105 : aggT Try.prog 105 = some false := by kernel_rfl
@[simp] theorem Try.zeroT105 : zeroT Try.prog 105 = some [.nilfn] := by kernel_rfl
@[simp] theorem Try.szT106 : szT Try.prog 106 = some 1 := by kernel_rfl
@[simp] theorem Try.aggT106 : aggT Try.prog 106 = some false := by kernel_rfl
@[simp] theorem Try.zeroT106 : zeroT Try.prog 106 = some [.nilfn] := by kernel_rfl
@[simp] theorem Try.szT107 : szT Try.prog 107 = some 1 := by kernel_rfl
@[simp] theorem Try.aggT107 : aggT Try.prog 107 = some false := by kernel_rfl
@[simp] theorem Try.zeroT107 : zeroT Try.prog 107 = some [.nilptr] := by kernel_rfl
@[simp] theorem Try.szT108 : szT Try.prog 108 = some 3 := by kernel_rfl
@[simp] theorem Try.aggT108 : aggT Try.prog 108 = some true := by kernel_rfl
@[simp] theorem Try.zeroT108 : zeroT Try.prog 108 = some [.int .i64 0, .int .i64 0, .int .i64 0] := by kernel_rfl
@[simp] theorem Try.foT108_0 : foT Try.prog 108 0 = some (0, 3) := by kernel_rfl
@[simp] theorem Try.foT108_1 : foT Try.prog 108 1 = some (1, 3) := by kernel_rfl
@[simp] theorem Try.foT108_2 : foT Try.prog 108 2 = some (2, 2) := by kernel_rfl
@[simp] theorem Try.placesL108 : placesL Try.prog 108 = some [(0, 1), (1, 1), (2, 1)] := by kernel_rfl
@[simp] theorem Try.szT109 : szT Try.prog 109 = some 3 := by kernel_rfl
@[simp] theorem Try.aggT109 : aggT Try.prog 109 = some true := by kernel_rfl
@[simp] theorem Try.zeroT109 : zeroT Try.prog 109 = some [.int .i64 0, .int .i64 0, .int .i64 0] := by kernel_rfl
@[simp] theorem Try.foT109_0 : foT Try.prog 109 0 = some (0, 3) := by kernel_rfl
@[simp] theorem Try.foT109_1 : foT Try.prog 109 1 = some (1, 3) := by kernel_rfl
@[simp] theorem Try.foT109_2 : foT Try.prog 109 2 = some (2, 2) := by kernel_rfl
@[simp] theorem Try.placesL109 : placesL Try.prog 109 = some [(0, 1), (1, 1), (2, 1)] := by kernel_rfl
@[simp] theorem Try.szT110 : szT Try.prog 110 = some 3 := by kernel_rfl
@[simp] theorem Try.aggT110 : aggT Try.prog 110 = some true := by kernel_rfl
@[simp] theorem Try.zeroT110 : zeroT Try.prog 110 = some [.int .i64 0, .int .i64 0, .int .i64 0] := by kernel_rfl
@[simp] theorem Try.foT110_0 : foT Try.prog 110 0 = some (0, 3) := by kernel_rfl
@[simp] theorem Try.foT110_1 : foT Try.prog 110 1 = some (1, 3) := by kernel_rfl
@[simp] theorem Try.foT110_2 : foT Try.prog 110 2 = some (2, 2) := by kernel_rfl
@[simp] theorem Try.placesL110 : placesL Try.prog 110 = some [(0, 1), (1, 1), (2, 1)] := by kernel_rfl
@[simp] theorem Try.szT111 : szT Try.prog 111 = some 1 := by kernel_rfl
@[simp] theorem Try.aggT111 : aggT Try.prog 111 = some false := by kernel_rfl
@[simp] theorem Try.zeroT111 : zeroT Try.prog 111 = some [.nilfn] := by kernel_rfl
@[simp] theorem Try.szT112 : szT Try.prog 112 = some 1 := by kernel_rfl
@[simp] theorem Try.aggT112 : aggT Try.prog 112 = some false := by kernel_rfl
@[simp] theorem Try.zeroT112 : zeroT Try.prog 112 = some [.nilptr] := by kernel_rfl
@[simp] theorem Try.szT113 : szT Try.prog 113 = some 1 := by kernel_rfl
@[simp] theorem Try.aggT113 : aggT Try.prog 113 = some false := by kernel_rfl
@[simp] theorem Try.zeroT113 : zeroT Try.prog 113 = some [.nilfn] := by kernel_rfl
@[simp] theorem Try.szT114 : szT Try.prog 114 = some 1 := by kernel_rfl
@[simp] theorem Try.aggT114 : aggT Try.prog 114 = some false := by kernel_rfl
@[simp] theorem Try.zeroT114 : zeroT Try.prog 114 = some [.nilfn] := by kernel_rfl
@[simp] theorem Try.szT115 : szT Try.prog 115 = some 400 := by kernel_rfl
@[simp] theorem Try.aggT115 : aggT Try.prog 115 = some true := by kernel_rfl
@[simp] theorem Try.zeroT115 : zeroT Try.prog 115 = some [.int .i64 0, .int .i64 0, .int .i64 0, .int .i64 0, .int .i64 0, .int .i64 0, .int .i64 0, .int .i64 0, .int .i64 0, .int .i64 0, .int .i64 0, .int .i64 0, .int .i64 0, .int .i64 0, .int .i64 0, .int .i64 0, .int .i64 0, .int .i64 0, .int .i64 0, .int .i64 0, .int .i64 0, .int .i64 0, .int .i64 0, .int .i64 0, .int .i64 0, .int .i64 0, .int .i64 0, .int .i64 0, .int .i64 0, .int .i64 0, .int .i64 0, .int .i64 0, .int .i64 0, .int .i64 0, .int .i64 0, .int .i64 0, .int .i64 0, .int .i64 0, .int .i64 0, .int .i64 0, .int .i64 0, .int .i64 0, .int .i64 0, .int .i64 0, .int .i64 0, .int .i64 0, .int .i64 0, .int .i64 0, .int .i64 0, .int .i64 0, .int .i64 0, .int .i64 0, .int .i64 0, .int .i64 0, .int .i64 0, .int .i64 0, .int .i64 0, .int .i64 0, .int .i64 0, .int .i64 0, .int .i64 0, .int .i64 0, .int .i64 0, .int .i64 0, .int .i64 0, .int .i64 0, .int .i64 0, .int .i64 0, .int .i64 0, .int .i64 0, .int .i64 0, .int .i64 0, .int .i64 0, .int .i64 0, .int .i64 0, .int .i64 0, .int .i64 0, .int .i64 0, .int .i64 0, .int .i64 0, .int .i64 0, .int .i64 0, .int .i64 0, .int .i64 0, .int .i64 0, .int .i64 0, .int .i64 0, .int .i64 0, .int .i64 0, .int .i64 0, .int .i64 0, .int .i64 0, .int .i64 0, .int .i64 0, .int .i64 0, .int .i64 0, .int .i64 0, .int .i64 0, .int .i64 0, .int .i64 0, .int .i64 0, .int .i64 0, .int .i64 0, .int .i64 0, .int .i64 0, .int .i64 0, .int .i64 0, .int .i64 0, .int .i64 0, .int .i64 0, .int .i64 0, .int .i64 0, .int .i64 0, .int .i64 0, .int .i64 0, .int .i64 0, .int .i64 0, .int .i64 0, .int .i64 0, .int .i64 0, .int .i64 0, .int .i64 0, .int .i64 0, .int .i64 0, .int .i64 0, .int .i64 0, .int .i64 0, .int .i64 0, .int .i64 0, .int .i64 0, .int .i64 0, .int .i64 0, .int .i64 0, .int .i64 0, .int .i64 0, .int .i64 0, .int .i64 0, .int .i64 0, .int .i64 0, .int .i64 0, .int .i64 0, .int .i64 0, .int .i64 0, .int .i64 0, .int .i64 0, .int .i64 0, .int .i64 0, .int .i64 0, .int .i64 0, .int .i64 0, .int .i64 0, .int .i64 0, .int .i64 0, .int .i64 0, .int .i64 0, .int .i64 0, .int .i64 0, .int .i64 0, .int .i64 0, .int .i64 0, .int .i64 0, .int .i64 0, .int .i64 0, .int .i64 0, .int .i64 0, .int .i64 0, .int .i64 0, .int .i64 0, .int .i64 0, .int .i64 0, .int .i64 0, .int .i64 0, .int .i64 0, .int .i64 0, .int .i64 0, .int .i64 0, .int .i64 0, .int .i64 0, .int .i64 0, .int .i64 0, .int .i64 0, .int .i64 0, .int .i64 0, .int .i64 0, .int .i64 0, .int .i64 0, .int .i64 0, .int .i64 0, .int .i64 0, .int .i64 0, .int .i64 0, .int .i64 0, .int .i64 0, .int .i64 0, .int .i64 0, .int .i64 0, .int .i64 0, .int .i64 0, .int .i64 0, .int .i64 0, .int .i64 0, .int .i64 0, .int .i64 0, .int .i64 0, .int .i64 0, .int .i64 0, .int .i64 0, .int .i64 0, .int .i64 0, .int .i64 0, .int .i64 0, .int .i64 0, .int .i64 0, .int .i64 0, .int .i64 0, .int .i64 0, .int .i64 0, .int .i64 0, .int .i64 0, .int .i64 0, .int .i64 0, .int .i64 0, .int .i64 0, .int .i64 0, .int .i64 0, .int .i64 0, .int .i64 0, .int .i64 0, .int .i64 0, .int .i64 0, .int .i64 0, .int .i64 0, .int .i64 0, .int .i64 0, .int .i64 0, .int .i64 0, .int .i64 0, .int .i64 0, .int .i64 0, .int .i64 0, .int .i64 0, .int .i64 0, .int .i64 0, .int .i64 0, .int .i64 0, .int .i64 0, .int .i64 0, .int .i64 0, .int .i64 0, .int .i64 0, .int .i64 0, .int .i64 0, .int .i64 0, .int .i64 0, .int .i64 0, .int .i64 0, .int .i64 0, .int .i64 0, .int .i64 0, .int .i64 0, .int .i64 0, .int .i64 0, .int .i64 0, .int .i64 0, .int .i64 0, .int .i64 0, .int .i64 0, .int .i64 0, .int .i64 0, .int .i64 0, .int .i64 0, .int .i64 0, .int .i64 0, .int .i64 0, .int .i64 0, .int .i64 0, .int .i64 0, .int .i64 0, .int .i64 0, .int .i64 0, .int .i64 0, .int .i64 0, .int .i64 0, .int .i64 0, .int .i64 0, .int .i64 0, .int .i64 0, .int .i64 0, .int .i64 0, .int .i64 0, .int .i64 0, .int .i64 0, .int .i64 0, .int .i64 0, .int .i64 0, .int .i64 0, .int .i64 0, .int .i64 0, .int .i64 0, .int .i64 0, .int .i64 0, .int .i64 0, .int .i64 0, .int .i64 0, .int .i64 0, .int .i64 0, .int .i64 0, .int .i64 0, .int .i64 0, .int .i64 0, .int .i64 0, .int .i64 0, .int .i64 0, .int .i64 0, .int .i64 0, .int .i64 0, .int .i64 0, .int .i64 0, .int .i64 0, .int .i64 0, .int .i64 0, .int .i64 0, .int .i64 0, .int .i64 0, .int .i64 0, .int .i64 0, .int .i64 0, .int .i64 0, .int .i64 0, .int .i64 0, .int .i64 0, .int .i64 0, .int .i64 0, .int .i64 0, .int .i64 0, .int .i64 0, .int .i64 0, .int .i64 0, .int .i64 0, .int .i64 0, .int .i64 0, .int .i64 0, .int .i64 0, .int .i64 0, .int .i64 0, .int .i64 0, .int .i64 0, .int .i64 0, .int .i64 0, .int .i64 0, .int .i64 0, .int .i64 0, .int .i64 0, .int .i64 0, .int .i64 0, .int .i64 0, .int .i64 0, .int .i64 0, .int .i64 0, .int .i64 0, .int .i64 0, .int .i64 0, .int .i64 0, .int .i64 0, .int .i64 0, .int .i64 0, .int .i64 0, .int .i64 0, .int .i64 0, .int .i64 0, .int .i64 0, .int .i64 0, .int .i64 0, .int .i64 0, .int .i64 0, .int .i64 0, .int .i64 0, .int .i64 0, .int .i64 0, .int .i64 0, .int .i64 0, .int .i64 0, .int .i64 0, .int .i64 0, .int .i64 0, .int .i64 0, .int .i64 0, .int .i64 0, .int .i64 0, .int .i64 0, .int .i64 0, .int .i64 0, .int .i64 0, .int .i64 0, .int .i64 0, .int .i64 0, .int .i64 0, .int .i64 0, .int .i64 0, .int .i64 0] := by kernel_rfl
@[simp] theorem Try.szT116 : szT Try.prog 116 = some 400 := by kernel_rfl
@[simp] theorem Try.aggT116 : aggT Try.prog 116 = some true := by kernel_rfl
@[simp] theorem Try.zeroT116 : zeroT Try.prog 116 = some [.int .i64 0, .int .i64 0, .int .i64 0, .int .i64 0, .int .i64 0, .int .i64 0, .int .i64 0, .int .i64 0, .int .i64 0, .int .i64 0, .int .i64 0, .int .i64 0, .int .i64 0, .int .i64 0, .int .i64 0, .int .i64 0, .int .i64 0, .int .i64 0, .int .i64 0, .int .i64 0, .int .i64 0, .int .i64 0, .int .i64 0, .int .i64 0, .int .i64 0, .int .i64 0, .int .i64 0, .int .i64 0, .int .i64 0, .int .i64 0, .int .i64 0, .int .i64 0, .int .i64 0, .int .i64 0, .int .i64 0, .int .i64 0, .int .i64 0, .int .i64 0, .int .i64 0, .int .i64 0, .int .i64 0, .int .i64 0, .int .i64 0, .int .i64 0, .int .i64 0, .int .i64 0, .int .i64 0, .int .i64 0, .int .i64 0, .int .i64 0, .int .i64 0, .int .i64 0, .int .i64 0, .int .i64 0, .int .i64 0, .int .i64 0, .int .i64 0, .int .i64 0, .int .i64 0, .int .i64 0, .int .i64 0, .int .i64 0, .int .i64 0, .int .i64 0, .int .i64 0, .int .i64 0, .int .i64 0, .int .i64 0, .int .i64 0, .int .i64 0, .int .i64 0, .int .i64 0, .int .i64 0, .int .i64 0, .int .i64 0, .int .i64 0, .int .i64 0, .int .i64 0, .int .i64 0, .int .i64 0, .int .i64 0, .int .i64 0, .int .i64 0, .int .i64 0, .int .i64 0, .int .i64 0, .int .i64 0, .int .i64 0, .int .i64 0, .int .i64 0, .int .i64 0, .int .i64 0, .int .i64 0, .int .i64 0, .int .i64 0, .int .i64 0, .int .i64 0, .int .i64 0, .int .i64 0, .int .i64 0, .int .i64 0, .int .i64 0, .int .i64 0, .int .i64 0, .int .i64 0, .int .i64 0, .int .i64 0, .int .i64 0, .int .i64 0, .int .i64 0, .int .i64 0, .int .i64 0, .int .i64 0, .int .i64 0, .int .i64 0, .int .i64 0, .int .i64 0, .int .i64 0, .int .i64 0, .int .i64 0, .int .i64 0, .int .i64 0, .int .i64 0, .int .i64 0, .int .i64 0, .int .i64 0, .int .i64 0, .int .i64 0, .int .i64 0, .int .i64 0, .int .i64 0, .int .i64 0, .int .i64 0, .int .i64 0, .int .i64 0, .int .i64 0, .int .i64 0, .int .i64 0, .int .i64 0, .int .i64 0, .int .i64 0, .int .i64 0, .int .i64 0, .int .i64 0, .int .i64 0, .int .i64 0, .int .i64 0, .int .i64 0, .int .i64 0, .int .i64 0, .int .i64 0, .int .i64 0, .int .i64 0, .int .i64 0, .int .i64 0, .int .i64 0, .int .i64 0, .int .i64 0, .int .i64 0, .int .i64 0, .int .i64 0, .int .i64 0, .int .i64 0, .int .i64 0, .int .i64 0, .int .i64 0, .int .i64 0, .int .i64 0, .int .i64 0, .int .i64 0, .int .i64 0, .int .i64 0, .int .i64 0, .int .i64 0, .int .i64 0, .int .i64 0, .int .i64 0, .int .i64 0, .int .i64 0, .int .i64 0, .int .i64 0, .int .i64 0, .int .i64 0, .int .i64 0, .int .i64 0, .int .i64 0, .int .i64 0, .int .i64 0, .int .i64 0, .int .i64 0, .int .i64 0, .int .i64 0, .int .i64 0, .int .i64 0, .int .i64 0, .int .i64 0, .int .i64 0, .int .i64 0, .int .i64 0, .int .i64 0, .int .i64 0, .int .i64 0, .int .i64 0, .int .i64 0, .int .i64 0, .int .i64 0, .int .i64 0, .int .i64 0, .int .i64 0, .int .i64 0, .int .i64 0, .int .i64 0, .int .i64 0, .int .i64 0, .int .i64 0, .int .i64 0, .int .i64 0, .int .i64 0, .int .i64 0, .int .i64 0, .int .i64 0, .int .i64 0, .int .i64 0, .int .i64 0, .int .i64 0, .int .i64 0, .int .i64 0, .int .i64 0, .int .i64 0, .int .i64 0, .int .i64 0, .int .i64 0, .int .i64 0, .int .i64 0, .int .i64 0, .int .i64 0, .int .i64 0, .int .i64 0, .int .i64 0, .int .i64 0, .int .i64 0, .int .i64 0, .int .i64 0, .int .i64 0, .int .i64 0, .int .i64 0, .int .i64 0, .int .i64 0, .int .i64 0, .int .i64 0, .int .i64 0, .int .i64 0, .int .i64 0, .int .i64 0, .int .i64 0, .int .i64 0, .int .i64 0, .int .i64 0, .int .i64 0, .int .i64 0, .int .i64 0, .int .i64 0, .int .i64 0, .int .i64 0, .int .i64 0, .int .i64 0, .int .i64 0, .int .i64 0, .int .i64 0, .int .i64 0, .int .i64 0, .int .i64 0, .int .i64 0, .int .i64 0, .int .i64 0, .int .i64 0, .int .i64 0, .int .i64 0, .int .i64 0, .int .i64 0, .int .i64 0, .int .i64 0, .int .i64 0, .int .i64 0, .int .i64 0, .int .i64 0, .int .i64 0, .int .i64 0, .int .i64 0, .int .i64 0, .int .i64 0, .int .i64 0, .int .i64 0, .int .i64 0, .int .i64 0, .int .i64 0, .int .i64 0, .int .i64 0, .int .i64 0, .int .i64 0, .int .i64 0, .int .i64 0, .int .i64 0, .int .i64 0, .int .i64 0, .int .i64 0, .int .i64 0, .int .i64 0, .int .i64 0, .int .i64 0, .int .i64 0, .int .i64 0, .int .i64 0, .int .i64 0, .int .i64 0, .int .i64 0, .int .i64 0, .int .i64 0, .int .i64 0, .int .i64 0, .int .i64 0, .int .i64 0, .int .i64 0, .int .i64 0, .int .i64 0, .int .i64 0, .int .i64 0, .int .i64 0, .int .i64 0, .int .i64 0, .int .i64 0, .int .i64 0, .int .i64 0, .int .i64 0, .int .i64 0, .int .i64 0, .int .i64 0, .int .i64 0, .int .i64 0, .int .i64 0, .int .i64 0, .int .i64 0, .int .i64 0, .int .i64 0, .int .i64 0, .int .i64 0, .int .i64 0, .int .i64 0, .int .i64 0, .int .i64 0, .int .i64 0, .int .i64 0, .int .i64 0, .int .i64 0, .int .i64 0, .int .i64 0, .int .i64 0, .int .i64 0, .int .i64 0, .int .i64 0, .int .i64 0, .int .i64 0, .int .i64 0, .int .i64 0, .int .i64 0, .int .i64 0, .int .i64 0, .int .i64 0, .int .i64 0, .int .i64 0, .int .i64 0, .int .i64 0, .int .i64 0, .int .i64 0, .int .i64 0, .int .i64 0, .int .i64 0, .int .i64 0, .int .i64 0, .int .i64 0, .int .i64 0, .int .i64 0, .int .i64 0, .int .i64 0, .int .i64 0, .int .i64 0, .int .i64 0, .int .i64 0, .int .i64 0, .int .i64 0, .int .i64 0, .int .i64 0, .int .i64 0, .int .i64 0, .int .i64 0, .int .i64 0, .int .i64 0, .int .i64 0, .int .i64 0, .int .i64 0] := by kernel_rfl
@[simp] theorem Try.szT117 : szT Try.prog 117 = some 24 := by kernel_rfl
@[simp] theorem Try.aggT117 : aggT Try.prog 117 = some true := by kernel_rfl
@[simp] theorem Try.zeroT117 : zeroT Try.prog 117 = some [.nilsl, .nilsl, .nilsl, .nilsl, .nilsl, .nilsl, .nilsl, .nilsl, .nilsl, .nilsl, .nilsl, .nilsl, .nilsl, .nilsl, .nilsl, .nilsl, .nilsl, .nilsl, .nilsl, .nilsl, .nilsl, .nilsl, .nilsl, .nilsl] := by kernel_rfl
@[simp] theorem Try.placesL117 : placesL Try.prog 117 = some [(0, 1), (1, 1), (2, 1), (3, 1), (4, 1), (5, 1), (6, 1), (7, 1), (8, 1), (9, 1), (10, 1), (11, 1), (12, 1), (13, 1), (14, 1), (15, 1), (16, 1), (17, 1), (18, 1), (19, 1), (20, 1), (21, 1), (22, 1), (23, 1)] := by kernel_rfl
@[simp] theorem Try.szT118 : szT Try.prog 118 = some 825 := by kernel_rfl
@[simp] theorem Try.aggT118 : aggT Try.prog 118 = some true := by kernel_rfl
@[simp] theorem Try.zeroT118 : zeroT Try.prog 118 = some [.int .i64 0, .int .i64 0, .int .i64 0, .int .i64 0, .int .i64 0, .int .i64 0, .int .i64 0, .int .i64 0, .int .i64 0, .int .i64 0, .int .i64 0, .int .i64 0, .int .i64 0, .int .i64 0, .int .i64 0, .int .i64 0, .int .i64 0, .int .i64 0, .int .i64 0, .int .i64 0, .int .i64 0, .int .i64 0, .int .i64 0, .int .i64 0, .int .i64 0, .int .i64 0, .int .i64 0, .int .i64 0, .int .i64 0, .int .i64 0, .int .i64 0, .int .i64 0, .int .i64 0, .int .i64 0, .int .i64 0, .int .i64 0, .int .i64 0, .int .i64 0, .int .i64 0, .int .i64 0, .int .i64 0, .int .i64 0, .int .i64 0, .int .i64 0, .int .i64 0, .int .i64 0, .int .i64 0, .int .i64 0, .int .i64 0, .int .i64 0, .int .i64 0, .int .i64 0, .int .i64 0, .int .i64 0, .int .i64 0, .int .i64 0, .int .i64 0, .int .i64 0, .int .i64 0, .int .i64 0, .int .i64 0, .int .i64 0, .int .i64 0, .int .i64 0, .int .i64 0, .int .i64 0, .int .i64 0, .int .i64 0, .int .i64 0, .int .i64 0, .int .i64 0, .int .i64 0, .int .i64 0, .int .i64 0, .int .i64 0, .int .i64 0, .int .i64 0, .int .i64 0, .int .i64 0, .int .i64 0, .int .i64 0, .int .i64 0, .int .i64 0, .int .i64 0, .int .i64 0, .int .i64 0, .int .i64 0, .int .i64 0, .int .i64 0, .int .i64 0, .int .i64 0, .int .i64 0, .int .i64 0, .int .i64 0, .int .i64 0, .int .i64 0, .int .i64 0, .int .i64 0, .int .i64 0, .int .i64 0, .int .i64 0, .int .i64 0, .int .i64 0, .int .i64 0, .int .i64 0, .int .i64 0, .int .i64 0, .int .i64 0, .int .i64 0, .int .i64 0, .int .i64 0, .int .i64 0, .int .i64 0, .int .i64 0, .int .i64 0, .int .i64 0, .int .i64 0, .int .i64 0, .int .i64 0, .int .i64 0, .int .i64 0, .int .i64 0, .int .i64 0, .int .i64 0, .int .i64 0, .int .i64 0, .int .i64 0, .int .i64 0, .int .i64 0, .int .i64 0, .int .i64 0, .int .i64 0, .int .i64 0, .int .i64 0, .int .i64 0, .int .i64 0, .int .i64 0, .int .i64 0, .int .i64 0, .int .i64 0, .int .i64 0, .int .i64 0, .int .i64 0, .int .i64 0, .int .i64 0, .int .i64 0, .int .i64 0, .int .i64 0, .int .i64 0, .int .i64 0, .int .i64 0, .int .i64 0, .int .i64 0, .int .i64 0, .int .i64 0, .int .i64 0, .int .i64 0, .int .i64 0, .int .i64 0, .int .i64 0, .int .i64 0, .int .i64 0, .int .i64 0, .int .i64 0, .int .i64 0, .int .i64 0, .int .i64 0, .int .i64 0, .int .i64 0, .int .i64 0, .int .i64 0, .int .i64 0, .int .i64 0, .int .i64 0, .int .i64 0, .int .i64 0, .int .i64 0, .int .i64 0, .int .i64 0, .int .i64 0, .int .i64 0, .int .i64 0, .int .i64 0, .int .i64 0, .int .i64 0, .int .i64 0, .int .i64 0, .int .i64 0, .int .i64 0, .int .i64 0, .int .i64 0, .int .i64 0, .int .i64 0, .int .i64 0, .int .i64 0, .int .i64 0, .int .i64 0, .int .i64 0, .int .i64 0, .int .i64 0, .int .i64 0, .int .i64 0, .int .i64 0, .int .i64 0, .int .i64 0, .int .i64 0, .int .i64 0, .int .i64 0, .int .i64 0, .int .i64 0, .int .i64 0, .int .i64 0, .int .i64 0, .int .i64 0, .int .i64 0, .int .i64 0, .int .i64 0, .int .i64 0, .int .i64 0, .int .i64 0, .int .i64 0, .int .i64 0, .int .i64 0, .int .i64 0, .int .i64 0, .int .i64 0, .int .i64 0, .int .i64 0, .int .i64 0, .int .i64 0, .int .i64 0, .int .i64 0, .int .i64 0, .int .i64 0, .int .i64 0, .int .i64 0, .int .i64 0, .int .i64 0, .int .i64 0, .int .i64 0, .int .i64 0, .int .i64 0, .int .i64 0, .int .i64 0, .int .i64 0, .int .i64 0, .int .i64 0, .int .i64 0, .int .i64 0, .int .i64 0, .int .i64 0, .int .i64 0, .int .i64 0, .int .i64 0, .int .i64 0, .int .i64 0, .int .i64 0, .int .i64 0, .int .i64 0, .int .i64 0, .int .i64 0, .int .i64 0, .int .i64 0, .int .i64 0, .int .i64 0, .int .i64 0, .int .i64 0, .int .i64 0, .int .i64 0, .int .i64 0, .int .i64 0, .int .i64 0, .int .i64 0, .int .i64 0, .int .i64 0, .int .i64 0, .int .i64 0, .int .i64 0, .int .i64 0, .int .i64 0, .int .i64 0, .int .i64 0, .int .i64 0, .int .i64 0, .int .i64 0, .int .i64 0, .int .i64 0, .int .i64 0, .int .i64 0, .int .i64 0, .int .i64 0, .int .i64 0, .int .i64 0, .int .i64 0, .int .i64 0, .int .i64 0, .int .i64 0, .int .i64 0, .int .i64 0, .int .i64 0, .int .i64 0, .int .i64 0, .int .i64 0, .int .i64 0, .int .i64 0, .int .i64 0, .int .i64 0, .int .i64 0, .int .i64 0, .int .i64 0, .int .i64 0, .int .i64 0, .int .i64 0, .int .i64 0, .int .i64 0, .int .i64 0, .int .i64 0, .int .i64 0, .int .i64 0, .int .i64 0, .int .i64 0, .int .i64 0, .int .i64 0, .int .i64 0, .int .i64 0, .int .i64 0, .int .i64 0, .int .i64 0, .int .i64 0, .int .i64 0, .int .i64 0, .int .i64 0, .int .i64 0, .int .i64 0, .int .i64 0, .int .i64 0, .int .i64 0, .int .i64 0, .int .i64 0, .int .i64 0, .int .i64 0, .int .i64 0, .int .i64 0, .int .i64 0, .int .i64 0, .int .i64 0, .int .i64 0, .int .i64 0, .int .i64 0, .int .i64 0, .int .i64 0, .int .i64 0, .int .i64 0, .int .i64 0, .int .i64 0, .int .i64 0, .int .i64 0, .int .i64 0, .int .i64 0, .int .i64 0, .int .i64 0, .int .i64 0, .int .i64 0, .int .i64 0, .int .i64 0, .int .i64 0, .int .i64 0, .int .i64 0, .int .i64 0, .int .i64 0, .int .i64 0, .int .i64 0, .int .i64 0, .int .i64 0, .int .i64 0, .int .i64 0, .int .i64 0, .int .i64 0, .int .i64 0, .int .i64 0, .int .i64 0, .int .i64 0, .int .i64 0, .int .i64 0, .int .i64 0, .int .i64 0, .int .i64 0, .int .i64 0, .int .i64 0, .int .i64 0, .int .i64 0, .int .i64 0, .int .i64 0, .int .i64 0, .int .i64 0, .int .i64 0, .int .i64 0, .int .i64 0, .int .i64 0, .int .i64 0, .int .i64 0, .int .i64 0, .int .i64 0, .int .i64 0, .int .i64 0, .int .i64 0, .int .i64 0, .int .i64 0, .int .i64 0, .int .i64 0, .int .i64 0, .int .i64 0, .int .i64 0, .int .i64 0, .int .i64 0, .int .i64 0, .int .i64 0, .int .i64 0, .int .i64 0, .int .i64 0, .int .i64 0, .int .i64 0, .int .i64 0, .int .i64 0, .int .i64 0, .int .i64 0, .int .i64 0, .int .i64 0, .int .i64 0, .int .i64 0, .int .i64 0, .int .i64 0, .int .i64 0, .int .i64 0, .int .i64 0, .int .i64 0, .int .i64 0, .int .i64 0, .int .i64 0, .int .i64 0, .int .i64 0, .int .i64 0, .int .i64 0, .int .i64 0, .int .i64 0, .int .i64 0, .int .i64 0, .int .i64 0, .int .i64 0, .int .i64 0, .int .i64 0, .int .i64 0, .int .i64 0, .int .i64 0, .int .i64 0, .int .i64 0, .int .i64 0, .int .i64 0, .int .i64 0, .int .i64 0, .int .i64 0, .int .i64 0, .int .i64 0, .int .i64 0, .int .i64 0, .int .i64 0, .int .i64 0, .int .i64 0, .int .i64 0, .int .i64 0, .int .i64 0, .int .i64 0, .int .i64 0, .int .i64 0, .int .i64 0, .int .i64 0, .int .i64 0, .int .i64 0, .int .i64 0, .int .i64 0, .int .i64 0, .int .i64 0, .int .i64 0, .int .i64 0, .int .i64 0, .int .i64 0, .int .i64 0, .int .i64 0, .int .i64 0, .int .i64 0, .int .i64 0, .int .i64 0, .int .i64 0, .int .i64 0, .int .i64 0, .int .i64 0, .int .i64 0, .int .i64 0, .int .i64 0, .int .i64 0, .int .i64 0, .int .i64 0, .int .i64 0, .int .i64 0, .int .i64 0, .int .i64 0, .int .i64 0, .int .i64 0, .int .i64 0, .int .i64 0, .int .i64 0, .int .i64 0, .int .i64 0, .int .i64 0, .int .i64 0, .int .i64 0, .int .i64 0, .int .i64 0, .int .i64 0, .int .i64 0, .int .i64 0, .int .i64 0, .int .i64 0, .int .i64 0, .int .i64 0, .int .i64 0, .int .i64 0, .int .i64 0, .int .i64 0, .int .i64 0, .int .i64 0, .int .i64 0, .int .i64 0, .int .i64 0, .int .i64 0, .int .i64 0, .int .i64 0, .int .i64 0, .int .i64 0, .int .i64 0, .int .i64 0, .int .i64 0, .int .i64 0, .int .i64 0, .int .i64 0, .int .i64 0, .int .i64 0, .int .i64 0, .int .i64 0, .int .i64 0, .int .i64 0, .int .i64 0, .int .i64 0, .int .i64 0, .int .i64 0, .int .i64 0, .int .i64 0, .int .i64 0, .int .i64 0, .int .i64 0, .int .i64 0, .int .i64 0, .int .i64 0, .int .i64 0, .int .i64 0, .int .i64 0, .int .i64 0, .int .i64 0, .int .i64 0, .int .i64 0, .int .i64 0, .int .i64 0, .int .i64 0, .int .i64 0, .int .i64 0, .int .i64 0, .int .i64 0, .int .i64 0, .int .i64 0, .int .i64 0, .int .i64 0, .int .i64 0, .int .i64 0, .int .i64 0, .int .i64 0, .int .i64 0, .int .i64 0, .int .i64 0, .int .i64 0, .int .i64 0, .int .i64 0, .int .i64 0, .int .i64 0, .int .i64 0, .int .i64 0, .int .i64 0, .int .i64 0, .int .i64 0, .int .i64 0, .int .i64 0, .int .i64 0, .int .i64 0, .int .i64 0, .int .i64 0, .int .i64 0, .int .i64 0, .int .i64 0, .int .i64 0, .int .i64 0, .int .i64 0, .int .i64 0, .int .i64 0, .int .i64 0, .int .i64 0, .int .i64 0, .int .i64 0, .int .i64 0, .int .i64 0, .int .i64 0, .int .i64 0, .int .i64 0, .int .i64 0, .int .i64 0, .int .i64 0, .int .i64 0, .int .i64 0, .int .i64 0, .int .i64 0, .int .i64 0, .int .i64 0, .int .i64 0, .int .i64 0, .int .i64 0, .int .i64 0, .int .i64 0, .int .i64 0, .int .i64 0, .int .i64 0, .int .i64 0, .int .i64 0, .int .i64 0, .int .i64 0, .int .i64 0, .int .i64 0, .int .i64 0, .int .i64 0, .int .i64 0, .int .i64 0, .int .i64 0, .int .i64 0, .int .i64 0, .int .i64 0, .int .i64 0, .int .i64 0, .int .i64 0, .int .i64 0, .int .i64 0, .int .i64 0, .int .i64 0, .int .i64 0, .int .i64 0, .int .i64 0, .int .i64 0, .int .i64 0, .int .i64 0, .int .i64 0, .int .i64 0, .int .i64 0, .int .i64 0, .int .i64 0, .int .i64 0, .int .i64 0, .int .i64 0, .int .i64 0, .int .i64 0, .int .i64 0, .int .i64 0, .int .i64 0, .int .i64 0, .int .i64 0, .int .i64 0, .int .i64 0, .int .i64 0, .int .i64 0, .int .i64 0, .int .i64 0, .int .i64 0, .int .i64 0, .int .i64 0, .int .i64 0, .int .i64 0, .int .i64 0, .int .i64 0, .int .i64 0, .int .i64 0, .int .i64 0, .int .i64 0, .int .i64 0, .int .i64 0, .int .i64 0, .int .i64 0, .int .i64 0, .int .i64 0, .int .i64 0, .int .i64 0, .int .i64 0, .int .i64 0, .int .i64 0, .int .i64 0, .int .i64 0, .int .i64 0, .int .i64 0, .int .i64 0, .int .i64 0, .int .i64 0, .int .i64 0, .int .i64 0, .int .i64 0, .int .i64 0, .int .i64 0, .int .i64 0, .int .i64 0, .int .i64 0, .int .i64 0, .int .i64 0, .int .i64 0, .int .i64 0, .int .i64 0, .int .i64 0, .int .i64 0, .int .i64 0, .int .i64 0, .int .i64 0, .int .i64 0, .int .i64 0, .int .i64 0, .int .i64 0, .int .i64 0, .int .i64 0, .int .i64 0, .int .i64 0, .int .i64 0, .int .i64 0, .int .i64 0, .int .i64 0, .int .i64 0, .int .i64 0, .int .i64 0, .int .i64 0, .int .i64 0, .int .i64 0, .int .i64 0, .int .i64 0, .int .i64 0, .int .i64 0, .int .i64 0, .int .i64 0, .int .i64 0, .int .i64 0, .int .i64 0, .int .i64 0, .int .i64 0, .int .i64 0, .int .i64 0, .int .i64 0, .int .i64 0, .int .i64 0, .int .i64 0, .int .i64 0, .int .i64 0, .int .i64 0, .int .i64 0, .int .i64 0, .int .i64 0, .int .i64 0, .int .i64 0, .int .i64 0, .int .i64 0, .int .i64 0, .int .i64 0, .int .i64 0, .int .i64 0, .int .i64 0, .int .i64 0, .int .i64 0, .int .i64 0, .int .i64 0, .int .i64 0, .int .i64 0, .int .i64 0, .int .i64 0, .int .i64 0, .int .i64 0, .int .i64 0, .int .i64 0, .int .i64 0, .int .i64 0, .int .i64 0, .int .i64 0, .int .i64 0, .int .i64 0, .nilsl, .nilsl, .nilsl, .nilsl, .nilsl, .nilsl, .nilsl, .nilsl, .nilsl, .nilsl, .nilsl, .nilsl, .nilsl, .nilsl, .nilsl, .nilsl, .nilsl, .nilsl, .nilsl, .nilsl, .nilsl, .nilsl, .nilsl, .nilsl] := by kernel_rfl
@[simp] theorem Try.foT118_0 : foT Try.prog 118 0 = some (0, 3) := by kernel_rfl
@[simp] theorem Try.foT118_1 : foT Try.prog 118 1 = some (1, 115) := by kernel_rfl
@[simp] theorem Try.foT118_2 : foT Try.prog 118 2 = some (401, 116) := by kernel_rfl
@[simp] theorem Try.foT118_3 : foT Try.prog 118 3 = some (801, 117) := by kernel_rfl
@[simp] theorem Try.placesL118 : placesL Try.prog 118 = some [(0, 1), (1, 400), (401, 400), (801, 24)] := by kernel_rfl
@[simp] theorem Try.szT119 : szT Try.prog 119 = some 825 := by kernel_rfl
@[simp] theorem Try.aggT119 : aggT Try.prog 119 = some true := by kernel_rfl
@[simp] theorem Try.zeroT119 : zeroT Try.prog 119 = some [.int .i64 0, .int .i64 0, .int .i64 0, .int .i64 0, .int .i64 0, .int .i64 0, .int .i64 0, .int .i64 0, .int .i64 0, .int .i64 0, .int .i64 0, .int .i64 0, .int .i64 0, .int .i64 0, .int .i64 0, .int .i64 0, .int .i64 0, .int .i64 0, .int .i64 0, .int .i64 0, .int .i64 0, .int .i64 0, .int .i64 0, .int .i64 0, .int .i64 0, .int .i64 0, .int .i64 0, .int .i64 0, .int .i64 0, .int .i64 0, .int .i64 0, .int .i64 0, .int .i64 0, .int .i64 0, .int .i64 0, .int .i64 0, .int .i64 0, .int .i64 0, .int .i64 0, .int .i64 0, .int .i64 0, .int .i64 0, .int .i64 0, .int .i64 0, .int .i64 0, .int .i64 0, .int .i64 0, .int .i64 0, .int .i64 0, .int .i64 0, .int .i64 0, .int .i64 0, .int .i64 0, .int .i64 0, .int .i64 0, .int .i64 0, .int .i64 0, .int .i64 0, .int .i64 0, .int .i64 0, .int .i64 0, .int .i64 0, .int .i64 0, .int .i64 0, .int .i64 0, .int .i64 0, .int .i64 0, .int .i64 0, .int .i64 0, .int .i64 0, .int .i64 0, .int .i64 0, .int .i64 0, .int .i64 0, .int .i64 0, .int .i64 0, .int .i64 0, .int .i64 0, .int .i64 0, .int .i64 0, .int .i64 0, .int .i64 0, .int .i64 0, .int .i64 0, .int .i64 0, .int .i64 0, .int .i64 0, .int .i64 0, .int .i64 0, .int .i64 0, .int .i64 0, .int .i64 0, .int .i64 0, .int .i64 0, .int .i64 0, .int .i64 0, .int .i64 0, .int .i64 0, .int .i64 0, .int .i64 0, .int .i64 0, .int .i64 0, .int .i64 0, .int .i64 0, .int .i64 0, .int .i64 0, .int .i64 0, .int .i64 0, .int .i64 0, .int .i64 0, .int .i64 0, .int .i64 0, .int .i64 0, .int .i64 0, .int .i64 0, .int .i64 0, .int .i64 0, .int .i64 0, .int .i64 0, .int .i64 0, .int .i64 0, .int .i64 0, .int .i64 0, .int .i64 0, .int .i64 0, .int .i64 0, .int .i64 0, .int .i64 0, .int .i64 0, .int .i64 0, .int .i64 0, .int .i64 0, .int .i64 0, .int .i64 0, .int .i64 0, .int .i64 0, .int .i64 0, .int .i64 0, .int .i64 0, .int .i64 0, .int .i64 0, .int .i64 0, .int .i64 0, .int .i64 0, .int .i64 0, .int .i64 0, .int .i64 0, .int .i64 0, .int .i64 0, .int .i64 0, .int .i64 0, .int .i64 0, .int .i64 0, .int .i64 0, .int .i64 0, .int .i64 0, .int .i64 0, .int .i64 0, .int .i64 0, .int .i64 0, .int .i64 0, .int .i64 0, .int .i64 0, .int .i64 0, .int .i64 0, .int .i64 0, .int .i64 0, .int .i64 0, .int .i64 0, .int .i64 0, .int .i64 0, .int .i64 0, .int .i64 0, .int .i64 0, .int .i64 0, .int .i64 0, .int .i64 0, .int .i64 0, .int .i64 0, .int .i64 0, .int .i64 0, .int .i64 0, .int .i64 0, .int .i64 0, .int .i64 0, .int .i64 0, .int .i64 0, .int .i64 0, .int .i64 0, .int .i64 0, .int .i64 0, .int .i64 0, .int .i64 0, .int .i64 0, .int .i64 0, .int .i64 0, .int .i64 0, .int .i64 0, .int .i64 0, .int .i64 0, .int .i64 0, .int .i64 0, .int .i64 0, .int .i64 0, .int .i64 0, .int .i64 0, .int .i64 0, .int .i64 0, .int .i64 0, .int .i64 0, .int .i64 0, .int .i64 0, .int .i64 0, .int .i64 0, .int .i64 0, .int .i64 0, .int .i64 0, .int .i64 0, .int .i64 0, .int .i64 0, .int .i64 0, .int .i64 0, .int .i64 0, .int .i64 0, .int .i64 0, .int .i64 0, .int .i64 0, .int .i64 0, .int .i64 0, .int .i64 0, .int .i64 0, .int .i64 0, .int .i64 0, .int .i64 0, .int .i64 0, .int .i64 0, .int .i64 0, .int .i64 0, .int .i64 0, .int .i64 0, .int .i64 0, .int .i64 0, .int .i64 0, .int .i64 0, .int .i64 0, .int .i64 0, .int .i64 0, .int .i64 0, .int .i64 0, .int .i64 0, .int .i64 0, .int .i64 0, .int .i64 0, .int .i64 0, .int .i64 0, .int .i64 0, .int .i64 0, .int .i64 0, .int .i64 0, .int .i64 0, .int .i64 0, .int .i64 0, .int .i64 0, .int .i64 0, .int .i64 0, .int .i64 0, .int .i64 0, .int .i64 0, .int .i64 0, .int .i64 0, .int .i64 0, .int .i64 0, .int .i64 0, .int .i64 0, .int .i64 0, .int .i64 0, .int .i64 0, .int .i64 0, .int .i64 0, .int .i64 0, .int .i64 0, .int .i64 0, .int .i64 0, .int .i64 0, .int .i64 0, .int .i64 0, .int .i64 0, .int .i64 0, .int .i64 0, .int .i64 0, .int .i64 0, .int .i64 0, .int .i64 0, .int .i64 0, .int .i64 0, .int .i64 0, .int .i64 0, .int .i64 0, .int .i64 0, .int .i64 0, .int .i64 0, .int .i64 0, .int .i64 0, .int .i64 0, .int .i64 0, .int .i64 0, .int .i64 0, .int .i64 0, .int .i64 0, .int .i64 0, .int .i64 0, .int .i64 0, .int .i64 0, .int .i64 0, .int .i64 0, .int .i64 0, .int .i64 0, .int .i64 0, .int .i64 0, .int .i64 0, .int .i64 0, .int .i64 0, .int .i64 0, .int .i64 0, .int .i64 0, .int .i64 0, .int .i64 0, .int .i64 0, .int .i64 0, .int .i64 0, .int .i64 0, .int .i64 0, .int .i64 0, .int .i64 0, .int .i64 0, .int .i64 0, .int .i64 0, .int .i64 0, .int .i64 0, .int .i64 0, .int .i64 0, .int .i64 0, .int .i64 0, .int .i64 0, .int .i64 0, .int .i64 0, .int .i64 0, .int .i64 0, .int .i64 0, .int .i64 0, .int .i64 0, .int .i64 0, .int .i64 0, .int .i64 0, .int .i64 0, .int .i64 0, .int .i64 0, .int .i64 0, .int .i64 0, .int .i64 0, .int .i64 0, .int .i64 0, .int .i64 0, .int .i64 0, .int .i64 0, .int .i64 0, .int .i64 0, .int .i64 0, .int .i64 0, .int .i64 0, .int .i64 0, .int .i64 0, .int .i64 0, .int .i64 0, .int .i64 0, .int .i64 0, .int .i64 0, .int .i64 0, .int .i64 0, .int .i64 0, .int .i64 0, .int .i64 0, .int .i64 0, .int .i64 0, .int .i64 0, .int .i64 0, .int .i64 0, .int .i64 0, .int .i64 0, .int .i64 0, .int .i64 0, .int .i64 0, .int .i64 0, .int .i64 0, .int .i64 0, .int .i64 0, .int .i64 0, .int .i64 0, .int .i64 0, .int .i64 0, .int .i64 0, .int .i64 0, .int .i64 0, .int .i64 0, .int .i64 0, .int .i64 0, .int .i64 0, .int .i64 0, .int .i64 0, .int .i64 0, .int .i64 0, .int .i64 0, .int .i64 0, .int .i64 0, .int .i64 0, .int .i64 0, .int .i64 0, .int .i64 0, .int .i64 0, .int .i64 0, .int .i64 0, .int .i64 0, .int .i64 0, .int .i64 0, .int .i64 0, .int .i64 0, .int .i64 0, .int .i64 0, .int .i64 0, .int .i64 0, .int .i64 0, .int .i64 0, .int .i64 0, .int .i64 0, .int .i64 0, .int .i64 0, .int .i64 0, .int .i64 0, .int .i64 0, .int .i64 0, .int .i64 0, .int .i64 0, .int .i64 0, .int .i64 0, .int .i64 0, .int .i64 0, .int .i64 0, .int .i64 0, .int .i64 0, .int .i64 0, .int .i64 0, .int .i64 0, .int .i64 0, .int .i64 0, .int .i64 0, .int .i64 0, .int .i64 0, .int .i64 0, .int .i64 0, .int .i64 0, .int .i64 0, .int .i64 0, .int .i64 0, .int .i64 0, .int .i64 0, .int .i64 0, .int .i64 0, .int .i64 0, .int .i64 0, .int .i64 0, .int .i64 0, .int .i64 0, .int .i64 0, .int .i64 0, .int .i64 0, .int .i64 0, .int .i64 0, .int .i64 0, .int .i64 0, .int .i64 0, .int .i64 0, .int .i64 0, .int .i64 0, .int .i64 0, .int .i64 0, .int .i64 0, .int .i64 0, .int .i64 0, .int .i64 0, .int .i64 0, .int .i64 0, .int .i64 0, .int .i64 0, .int .i64 0, .int .i64 0, .int .i64 0, .int .i64 0, .int .i64 0, .int .i64 0, .int .i64 0, .int .i64 0, .int .i64 0, .int .i64 0, .int .i64 0, .int .i64 0, .int .i64 0, .int .i64 0, .int .i64 0, .int .i64 0, .int .i64 0, .int .i64 0, .int .i64 0, .int .i64 0, .int .i64 0, .int .i64 0, .int .i64 0, .int .i64 0, .int .i64 0, .int .i64 0, .int .i64 0, .int .i64 0, .int .i64 0, .int .i64 0, .int .i64 0, .int .i64 0, .int .i64 0, .int .i64 0, .int .i64 0, .int .i64 0, .int .i64 0, .int .i64 0, .int .i64 0, .int .i64 0, .int .i64 0, .int .i64 0, .int .i64 0, .int .i64 0, .int .i64 0, .int .i64 0, .int .i64 0, .int .i64 0, .int .i64 0, .int .i64 0, .int .i64 0, .int .i64 0, .int .i64 0, .int .i64 0, .int .i64 0, .int .i64 0, .int .i64 0, .int .i64 0, .int .i64 0, .int .i64 0, .int .i64 0, .int .i64 0, .int .i64 0, .int .i64 0, .int .i64 0, .int .i64 0, .int .i64 0, .int .i64 0, .int .i64 0, .int .i64 0, .int .i64 0, .int .i64 0, .int .i64 0, .int .i64 0, .int .i64 0, .int .i64 0, .int .i64 0, .int .i64 0, .int .i64 0, .int .i64 0, .int .i64 0, .int .i64 0, .int .i64 0, .int .i64 0, .int .i64 0, .int .i64 0, .int .i64 0, .int .i64 0, .int .i64 0, .int .i64 0, .int .i64 0, .int .i64 0, .int .i64 0, .int .i64 0, .int .i64 0, .int .i64 0, .int .i64 0, .int .i64 0, .int .i64 0, .int .i64 0, .int .i64 0, .int .i64 0, .int .i64 0, .int .i64 0, .int .i64 0, .int .i64 0, .int .i64 0, .int .i64 0, .int .i64 0, .int .i64 0, .int .i64 0, .int .i64 0, .int .i64 0, .int .i64 0, .int .i64 0, .int .i64 0, .int .i64 0, .int .i64 0, .int .i64 0, .int .i64 0, .int .i64 0, .int .i64 0, .int .i64 0, .int .i64 0, .int .i64 0, .int .i64 0, .int .i64 0, .int .i64 0, .int .i64 0, .int .i64 0, .int .i64 0, .int .i64 0, .int .i64 0, .int .i64 0, .int .i64 0, .int .i64 0, .int .i64 0, .int .i64 0, .int .i64 0, .int .i64 0, .int .i64 0, .int .i64 0, .int .i64 0, .int .i64 0, .int .i64 0, .int .i64 0, .int .i64 0, .int .i64 0, .int .i64 0, .int .i64 0, .int .i64 0, .int .i64 0, .int .i64 0, .int .i64 0, .int .i64 0, .int .i64 0, .int .i64 0, .int .i64 0, .int .i64 0, .int .i64 0, .int .i64 0, .int .i64 0, .int .i64 0, .int .i64 0, .int .i64 0, .int .i64 0, .int .i64 0, .int .i64 0, .int .i64 0, .int .i64 0, .int .i64 0, .int .i64 0, .int .i64 0, .int .i64 0, .int .i64 0, .int .i64 0, .int .i64 0, .int .i64 0, .int .i64 0, .int .i64 0, .int .i64 0, .int .i64 0, .int .i64 0, .int .i64 0, .int .i64 0, .int .i64 0, .int .i64 0, .int .i64 0, .int .i64 0, .int .i64 0, .int .i64 0, .int .i64 0, .int .i64 0, .int .i64 0, .int .i64 0, .int .i64 0, .int .i64 0, .int .i64 0, .int .i64 0, .int .i64 0, .int .i64 0, .int .i64 0, .int .i64 0, .int .i64 0, .int .i64 0, .int .i64 0, .int .i64 0, .int .i64 0, .int .i64 0, .int .i64 0, .int .i64 0, .int .i64 0, .int .i64 0, .int .i64 0, .int .i64 0, .int .i64 0, .int .i64 0, .int .i64 0, .int .i64 0, .int .i64 0, .int .i64 0, .int .i64 0, .int .i64 0, .int .i64 0, .int .i64 0, .int .i64 0, .int .i64 0, .int .i64 0, .int .i64 0, .int .i64 0, .int .i64 0, .int .i64 0, .int .i64 0, .int .i64 0, .int .i64 0, .int .i64 0, .int .i64 0, .int .i64 0, .int .i64 0, .int .i64 0, .int .i64 0, .int .i64 0, .int .i64 0, .int .i64 0, .int .i64 0, .int .i64 0, .int .i64 0, .int .i64 0, .int .i64 0, .int .i64 0, .int .i64 0, .int .i64 0, .int .i64 0, .int .i64 0, .int .i64 0, .int .i64 0, .int .i64 0, .int .i64 0, .int .i64 0, .int .i64 0, .int .i64 0, .int .i64 0, .int .i64 0, .int .i64 0, .int .i64 0, .int .i64 0, .int .i64 0, .int .i64 0, .int .i64 0, .int .i64 0, .int .i64 0, .int .i64 0, .int .i64 0, .int .i64 0, .int .i64 0, .int .i64 0, .int .i64 0, .int .i64 0, .int .i64 0, .int .i64 0, .int .i64 0, .int .i64 0, .int .i64 0, .int .i64 0, .int .i64 0, .int .i64 0, .int .i64 0, .int .i64 0, .int .i64 0, .int .i64 0, .int .i64 0, .int .i64 0, .int .i64 0, .int .i64 0, .int .i64 0, .int .i64 0, .int .i64 0, .int .i64 0, .int .i64 0, .int .i64 0, .int .i64 0, .int .i64 0, .int .i64 0, .int .i64 0, .int .i64 0, .int .i64 0, .int .i64 0, .int .i64 0, .nilsl, .nilsl, .nilsl, .nilsl, .nilsl, .nilsl, .nilsl, .nilsl, .nilsl, .nilsl, .nilsl, .nilsl, .nilsl, .nilsl, .nilsl, .nilsl, .nilsl, .nilsl, .nilsl, .nilsl, .nilsl, .nilsl, .nilsl, .nilsl] := by kernel_rfl
@[simp] theorem Try.foT119_0 : foT Try.prog 119 0 = some (0, 3) := by kernel_rfl
@[simp] theorem Try.foT119_1 : foT Try.prog 119 1 = some (1, 115) := by kernel_rfl
@[simp] theorem Try.foT119_2 : foT Try.prog 119 2 = some (401, 116) := by kernel_rfl
@[simp] theorem Try.foT119_3 : foT Try.prog 119 3 = some (801, 117) := by kernel_rfl
@[simp] theorem Try.placesL119 : placesL Try.prog 119 = some [(0, 1), (1, 400), (401, 400), (801, 24)] := by kernel_rfl
@[simp] theorem Try.szT120 : szT Try.prog 120 = some 1 := by kernel_rfl
@[simp] theorem Try.aggT120 : aggT Try.prog 120 = some false := by kernel_rfl
@[simp] theorem Try.zeroT120 : zeroT Try.prog 120 = some [.nilfn] := by kernel_rfl
@[simp] theorem Try.szT121 : szT Try.prog 121 = some 1 := by kernel_rfl
@[simp] theorem Try.aggT121 : aggT Try.prog 121 = some false := by kernel_rfl
@[simp] theorem Try.zeroT121 : zeroT Try.prog 121 = some [.nilfn] := by kernel_rfl
@[simp] theorem Try.szT122 : szT Try.prog 122 = some 1 := by kernel_rfl
@[simp] theorem Try.aggT122 : aggT Try.prog 122 = some false := by kernel_rfl
@[simp] theorem Try.zeroT122 : zeroT Try.prog 122 = some [.nilfn] := by kernel_rfl
@[simp] theorem Try.szT123 : szT Try.prog 123 = some 24 := by kernel_rfl
@[simp] theorem Try.aggT123 : aggT Try.prog 123 = some true := by kernel_rfl
@[simp] theorem Try.zeroT123 : zeroT Try.prog 123 = some [.int .i64 0, .int .i64 0, .int .i64 0, .int .i64 0, .int .i64 0, .int .i64 0, .int .i64 0, .int .i64 0, .int .i64 0, .int .i64 0, .int .i64 0, .int .i64 0, .int .i64 0, .int .i64 0, .int .i64 0, .int .i64 0, .int .i64 0, .int .i64 0, .int .i64 0, .int .i64 0, .int .i64 0, .int .i64 0, .int .i64 0, .int .i64 0] := by kernel_rfl
@[simp] theorem Try.placesL123 : placesL Try.prog 123 = some [(0, 1), (1, 1), (2, 1), (3, 1), (4, 1), (5, 1), (6, 1), (7, 1), (8, 1), (9, 1), (10, 1), (11, 1), (12, 1), (13, 1), (14, 1), (15, 1), (16, 1), (17, 1), (18, 1), (19, 1), (20, 1), (21, 1), (22, 1), (23, 1)] := by kernel_rfl
@[simp] theorem Try.szT124 : szT Try.prog 124 = some 1 := by kernel_rfl
@[simp] theorem Try.aggT124 : aggT Try.prog 124 = some false := by kernel_rfl
@[simp] theorem Try.zeroT124 : zeroT Try.prog 124 = some [.nilsl] := by kernel_rfl
@[simp] theorem Try.elemT124 : elemT Try.prog 124 = some (4, 1, 1, [.bool false]) := by kernel_rfl
@[simp] theorem Try.rowT124 : rowT Try.prog 124 = true := by kernel_rfl
@[simp] theorem Try.szT125 : szT Try.prog 125 = some 1 := by kernel_rfl
@[simp] theorem Try.aggT125 : aggT Try.prog 125 = some false := by kernel_rfl
@[simp] theorem Try.zeroT125 : zeroT Try.prog 125 = some [.nilfn] := by kernel_rfl
@[simp] theorem Try.szT126 : szT Try.prog 126 = some 1 := by kernel_rfl
@[simp] theorem Try.aggT126 : aggT Try.prog 126 = some false := by kernel_rfl
@[simp] theorem Try.zeroT126 : zeroT Try.prog 126 = some [.nilmap] := by kernel_rfl
@[simp] theorem Try.mapT126 : mapT Try.prog 126 = some (.one (.i .i64), some (.bool false)) := by kernel_rfl
@[simp] theorem Try.szT127 : szT Try.prog 127 = some 3 := by kernel_rfl
@[simp] theorem Try.aggT127 : aggT Try.prog 127 = some true := by kernel_rfl
@[simp] theorem Try.zeroT127 : zeroT Try.prog 127 = some [.int .i64 0, .int .i64 0, .int .i64 0] := by kernel_rfl
@[simp] theorem Try.foT127_0 : foT Try.prog 127 0 = some (0, 3) := by kernel_rfl
@[simp] theorem Try.foT127_1 : foT Try.prog 127 1 = some (1, 3) := by kernel_rfl
@[simp] theorem Try.foT127_2 : foT Try.prog 127 2 = some (2, 2) := by kernel_rfl
@[simp] theorem Try.placesL127 : placesL Try.prog 127 = some [(0, 1), (1, 1), (2, 1)] := by kernel_rfl
@[simp] theorem Try.szT128 : szT Try.prog 128 = some 1 := by kernel_rfl
@[simp] theorem Try.aggT128 : aggT Try.prog 128 = some false := by kernel_rfl
@[simp] theorem Try.zeroT128 : zeroT Try.prog 128 = some [.nilfn] := by kernel_rfl
@[simp] theorem Try.szT129 : szT Try.prog 129 = some 1 := by kernel_rfl
@[simp] theorem Try.aggT129 : aggT Try.prog 129 = some false := by kernel_rfl
@[simp] theorem Try.zeroT129 : zeroT Try.prog 129 = some [.nilfn] := by kernel_rfl
@[simp] theorem Try.szT130 : szT Try.prog 130 = some 1 := by kernel_rfl
@[simp] theorem Try.aggT130 : aggT Try.prog 130 = some false := by kernel_rfl
@[simp] theorem Try.zeroT130 : zeroT Try.prog 130 = some [.nilfn] := by kernel_rfl
@[simp] theorem Try.szT131 : szT Try.prog 131 = some 1 := by kernel_rfl
@[simp] theorem Try.aggT131 : aggT Try.prog 131 = some false := by kernel_rfl
@[simp] theorem Try.zeroT131 : zeroT Try.prog 131 = some [.nilfn] := by kernel_rfl
@[simp] theorem Try.szT132 : szT Try.prog 132 = some 1 := by kernel_rfl
@[simp] theorem Try.aggT132 : aggT Try.prog 132 = some false := by kernel_rfl
@[simp] theorem Try.zeroT132 : zeroT Try.prog 132 = some [.nilfn] := by kernel_rfl
@[simp] theorem Try.szT133 : szT Try.prog 133 = some 1 := by kernel_rfl
@[simp] theorem Try.aggT133 : aggT Try.prog 133 = some false := by kernel_rfl
@[simp] theorem Try.zeroT133 : zeroT Try.prog 133 = some [.nilfn] := by kernel_rfl
@[simp] theorem Try.szT134 : szT Try.prog 134 = some 1 := by kernel_rfl
@[simp] theorem Try.aggT134 : aggT Try.prog 134 = some false := by kernel_rfl
@[simp] theorem Try.zeroT134 : zeroT Try.prog 134 = some [.nilfn] := by kernel_rfl
@[simp] theorem Try.szT135 : szT Try.prog 135 = some 1 := by kernel_rfl
@[simp] theorem Try.aggT135 : aggT Try.prog 135 = some false := by kernel_rfl
@[simp] theorem Try.zeroT135 : zeroT Try.prog 135 = some [.nilfn] := by kernel_rfl
@[simp] theorem Try.szT136 : szT Try.prog 136 = some 1 := by kernel_rfl
@[simp] theorem Try.aggT136 : aggT Try.prog 136 = some false := by kernel_rfl
@[simp] theorem Try.zeroT136 : zeroT Try.prog 136 = some [.nilfn] := by kernel_rfl
@[simp] theorem Try.szT137 : szT Try.prog 137 = some 1 := by kernel_rfl
@[simp] theorem Try.aggT137 : aggT Try.prog 137 = some false := by kernel_rfl
@[simp] theorem Try.zeroT137 : zeroT Try.prog 137 = some [.nilfn] := by kernel_rfl
@[simp] theorem Try.szT138 : szT Try.prog 138 = some 1 := by kernel_rfl
@[simp] theorem Try.aggT138 : aggT Try.prog 138 = some false := by kernel_rfl
@[simp] theorem Try.zeroT138 : zeroT Try.prog 138 = some [.nilfn] := by kernel_rfl
@[simp] theorem Try.szT139 : szT Try.prog 139 = some 1 := by kernel_rfl
@[simp] theorem Try.aggT139 : aggT Try.prog 139 = some false := by kernel_rfl
@[simp] theorem Try.zeroT139 : zeroT Try.prog 139 = some [.nilfn] := by kernel_rfl
@[simp] theorem Try.szT140 : szT Try.prog 140 = some 1 := by kernel_rfl
@[simp] theorem Try.aggT140 : aggT Try.prog 140 = some false := by kernel_rfl
@[simp] theorem Try.zeroT140 : zeroT Try.prog 140 = some [.nilfn] := by kernel_rfl
@[simp] theorem Try.szT141 : szT Try.prog 141 = some 1 := by kernel_rfl
@[simp] theorem Try.aggT141 : aggT Try.prog 141 = some false := by kernel_rfl
@[simp] theorem Try.zeroT141 : zeroT Try.prog 141 = some [.nilfn] := by kernel_rfl
@[simp] theorem Try.szT142 : szT Try.prog 142 = some 1 := by kernel_rfl
@[simp] theorem Try.aggT142 : aggT Try.prog 142 = some false := by kernel_rfl
@[simp] theorem Try.zeroT142 : zeroT Try.prog 142 = some [.nilif] := by kernel_rfl
@[simp] theorem Try.szT143 : szT Try.prog 143 = some 1 := by kernel_rfl
@[simp] theorem Try.aggT143 : aggT Try.prog 143 = some false := by kernel_rfl
@[simp] theorem Try.zeroT143 : zeroT Try.prog 143 = some [.nilif] := by kernel_rfl
@[simp] theorem Try.szT144 : szT Try.prog 144 = some 1 := by kernel_rfl
@[simp] theorem Try.aggT144 : aggT Try.prog 144 = some false := by kernel_rfl
@[simp] theorem Try.zeroT144 : zeroT Try.prog 144 = some [.nilfn] := by kernel_rfl
@[simp] theorem Try.szT145 : szT Try.prog 145 = some 1 := by kernel_rfl
@[simp] theorem Try.aggT145 : aggT Try.prog 145 = some false := by kernel_rfl
@[simp] theorem Try.zeroT145 : zeroT Try.prog 145 = some [.nilfn] := by kernel_rfl
@[simp] theorem Try.szT146 : szT Try.prog 146 = some 1 := by kernel_rfl
@[simp] theorem Try.aggT146 : aggT Try.prog 146 = some false := by kernel_rfl
@[simp] theorem Try.zeroT146 : zeroT Try.prog 146 = some [.nilfn] := by kernel_rfl
@[simp] theorem Try.szT147 : szT Try.prog 147 = some 1 := by kernel_rfl
@[simp] theorem Try.aggT147 : aggT Try.prog 147 = some false := by kernel_rfl
@[simp] theorem Try.zeroT147 : zeroT Try.prog 147 = some [.nilfn] := by kernel_rfl
@[simp] theorem Try.szT148 : szT Try.prog 148 = some 24 := by kernel_rfl
@[simp] theorem Try.aggT148 : aggT Try.prog 148 = some true := by kernel_rfl
@[simp] theorem Try.zeroT148 : zeroT Try.prog 148 = some [.int .i64 0, .int .i64 0, .int .i64 0, .int .i64 0, .int .i64 0, .int .i64 0, .int .i64 0, .int .i64 0, .int .i64 0, .int .i64 0, .int .i64 0, .int .i64 0, .int .i64 0, .int .i64 0, .int .i64 0, .int .i64 0, .int .i64 0, .int .i64 0, .int .i64 0, .int .i64 0, .int .i64 0, .int .i64 0, .int .i64 0, .int .i64 0] := by kernel_rfl
@[simp] theorem Try.placesL148 : placesL Try.prog 148 = some [(0, 1), (1, 1), (2, 1), (3, 1), (4, 1), (5, 1), (6, 1), (7, 1), (8, 1), (9, 1), (10, 1), (11, 1), (12, 1), (13, 1), (14, 1), (15, 1), (16, 1), (17, 1), (18, 1), (19, 1), (20, 1), (21, 1), (22, 1), (23, 1)] := by kernel_rfl
@[simp] theorem Try.szT149 : szT Try.prog 149 = some 1 := by kernel_rfl
@[simp] theorem Try.aggT149 : aggT Try.prog 149 = some false := by kernel_rfl
@[simp] theorem Try.zeroT149 : zeroT Try.prog 149 = some [.nilfn] := by kernel_rfl
@[simp] theorem Try.szT150 : szT Try.prog 150 = some 1 := by kernel_rfl
@[simp] theorem Try.aggT150 : aggT Try.prog 150 = some false := by kernel_rfl
@[simp] theorem Try.zeroT150 : zeroT Try.prog 150 = some [.nilfn] := by kernel_rfl
@[simp] theorem Try.szT151 : szT Try.prog 151 = some 1 := by kernel_rfl
@[simp] theorem Try.aggT151 : aggT Try.prog 151 = some false := by kernel_rfl
@[simp] theorem Try.zeroT151 : zeroT Try.prog 151 = some [.nilfn] := by kernel_rfl
@[simp] theorem Try.szT152 : szT Try.prog 152 = some 1 := by kernel_rfl
@[simp] theorem Try.aggT152 : aggT Try.prog 152 = some false := by kernel_rfl
@[simp] theorem Try.zeroT152 : zeroT Try.prog 152 = some [.nilfn] := by kernel_rfl
@[simp] theorem Try.szT153 : szT Try.prog 153 = some 1 := by kernel_rfl
@[simp] theorem Try.aggT153 : aggT Try.prog 153 = some false := by kernel_rfl
@[simp] theorem Try.zeroT153 : zeroT Try.prog 153 = some [.nilfn] := by kernel_rfl
@[simp] theorem Try.szT154 : szT Try.prog 154 = some 1 := by kernel_rfl
@[simp] theorem Try.aggT154 : aggT Try.prog 154 = some false := by kernel_rfl
@[simp] theorem Try.zeroT154 : zeroT Try.prog 154 = some [.nilfn] := by kernel_rfl
@[simp] theorem Try.szT155 : szT Try.prog 155 = some 1 := by kernel_rfl
@[simp] theorem Try.aggT155 : aggT Try.prog 155 = some false := by kernel_rfl
@[simp] theorem Try.zeroT155 : zeroT Try.prog 155 = some [.nilfn] := by kernel_rfl
@[simp] theorem Try.szT156 : szT Try.prog 156 = some 1 := by kernel_rfl
@[simp] theorem Try.aggT156 : aggT Try.prog 156 = some false := by kernel_rfl
@[simp] theorem Try.zeroT156 : zeroT Try.prog 156 = some [.nilfn] := by kernel_rfl
@[simp] theorem Try.szT157 : szT Try.prog 157 = some 1 := by kernel_rfl
@[simp] theorem Try.aggT157 : aggT Try.prog 157 = some false := by kernel_rfl
@[simp] theorem Try.zeroT157 : zeroT Try.prog 157 = some [.nilfn] := by kernel_rfl
@[simp] theorem Try.szT158 : szT Try.prog 158 = some 1 := by kernel_rfl
@[simp] theorem Try.aggT158 : aggT Try.prog 158 = some false := by kernel_rfl
@[simp] theorem Try.zeroT158 : zeroT Try.prog 158 = some [.nilfn] := by kernel_rfl
@[simp] theorem Try.szT159 : szT Try.prog 159 = some 1 := by kernel_rfl
@[simp] theorem Try.aggT159 : aggT Try.prog 159 = some false := by kernel_rfl
@[simp] theorem Try.zeroT159 : zeroT Try.prog 159 = some [.nilfn] := by kernel_rfl
@[simp] theorem Try.szT160 : szT Try.prog 160 = some 1 := by kernel_rfl
@[simp] theorem Try.aggT160 : aggT Try.prog 160 = some false := by kernel_rfl
@[simp] theorem Try.zeroT160 : zeroT Try.prog 160 = some [.nilfn] := by kernel_rfl
@[simp] theorem Try.szT161 : szT Try.prog 161 = some 1 := by kernel_rfl
@[simp] theorem Try.aggT161 : aggT Try.prog 161 = some false := by kernel_rfl
@[simp] theorem Try.zeroT161 : zeroT Try.prog 161 = some [.nilfn] := by kernel_rfl
@[simp] theorem Try.szT162 : szT Try.prog 162 = some 1 := by kernel_rfl
@[simp] theorem Try.aggT162 : aggT Try.prog 162 = some false := by kernel_rfl
@[simp] theorem Try.zeroT162 : zeroT Try.prog 162 = some [.nilfn] := by kernel_rfl
@[simp] theorem Try.szT163 : szT Try.prog 163 = some 1 := by kernel_rfl
@[simp] theorem Try.aggT163 : aggT Try.prog 163 = some false := by kernel_rfl
@[simp] theorem Try.zeroT163 : zeroT Try.prog 163 = some [.int .i64 0] := by kernel_rfl
@[simp] theorem Try.szT165 : szT Try.prog 165 = some 1 := by kernel_rfl
@[simp] theorem Try.aggT165 : aggT Try.prog 165 = some false := by kernel_rfl
@[simp] theorem Try.zeroT165 : zeroT Try.prog 165 = some [.nilfn] := by kernel_rfl
@[simp] theorem Try.szT166 : szT Try.prog 166 = some 1 := by kernel_rfl
@[simp] theorem Try.aggT166 : aggT Try.prog 166 = some false := by kernel_rfl
@[simp] theorem Try.zeroT166 : zeroT Try.prog 166 = some [.nilfn] := by kernel_rfl
@[simp] theorem Try.szT167 : szT Try.prog 167 = some 1 := by kernel_rfl
@[simp] theorem Try.aggT167 : aggT Try.prog 167 = some false := by kernel_rfl
@[simp] theorem Try.zeroT167 : zeroT Try.prog 167 = some [.nilfn] := by kernel_rfl
@[simp] theorem Try.szT168 : szT Try.prog 168 = some 1 := by kernel_rfl
@[simp] theorem Try.aggT168 : aggT Try.prog 168 = some false := by kernel_rfl
@[simp] theorem Try.zeroT168 : zeroT Try.prog 168 = some [.nilfn] := by kernel_rfl
@[simp] theorem Try.szT170 : szT Try.prog 170 = some 1 := by kernel_rfl
@[simp] theorem Try.aggT170 : aggT Try.prog 170 = some false := by kernel_rfl
@[simp] theorem Try.zeroT170 : zeroT Try.prog 170 = some [.nilfn] := by kernel_rfl
@[simp] theorem Try.szT171 : szT Try.prog 171 = some 1 := by kernel_rfl
@[simp] theorem Try.aggT171 : aggT Try.prog 171 = some false := by kernel_rfl
@[simp] theorem Try.zeroT171 : zeroT Try.prog 171 = some [.nilfn] := by kernel_rfl
@[simp] theorem Try.szT172 : szT Try.prog 172 = some 1 := by kernel_rfl
@[simp] theorem Try.aggT172 : aggT Try.prog 172 = some false := by kernel_rfl
@[simp] theorem Try.zeroT172 : zeroT Try.prog 172 = some [.int .u32 0] := by kernel_rfl
@[simp] theorem Try.szT173 : szT Try.prog 173 = some 1 := by kernel_rfl
@[simp] theorem Try.aggT173 : aggT Try.prog 173 = some false := by kernel_rfl
@[simp] theorem Try.zeroT173 : zeroT Try.prog 173 = some [.nilfn] := by kernel_rfl
@[simp] theorem Try.szT174 : szT Try.prog 174 = some 1 := by kernel_rfl
@[simp] theorem Try.aggT174 : aggT Try.prog 174 = some false := by kernel_rfl
@[simp] theorem Try.zeroT174 : zeroT Try.prog 174 = some [.int .u64 0] := by kernel_rfl
@[simp] theorem Try.szT175 : szT Try.prog 175 = some 1 := by kernel_rfl
@[simp] theorem Try.aggT175 : aggT Try.prog 175 = some false := by kernel_rfl
@[simp] theorem Try.zeroT175 : zeroT Try.prog 175 = some [.nilfn] := by kernel_rfl
@[simp] theorem Try.szT176 : szT Try.prog 176 = some 1 := by kernel_rfl
@[simp] theorem Try.aggT176 : aggT Try.prog 176 = some false := by kernel_rfl
@[simp] theorem Try.zeroT176 : zeroT Try.prog 176 = some [.nilfn] := by kernel_rfl
@[simp] theorem Try.szT177 : szT Try.prog 177 = some 1 := by kernel_rfl
@[simp] theorem Try.aggT177 : aggT Try.prog 177 = some false := by kernel_rfl
@[simp] theorem Try.zeroT177 : zeroT Try.prog 177 = some [.nilfn] := by kernel_rfl
@[simp] theorem Try.szT178 : szT Try.prog 178 = some 1 := by kernel_rfl
@[simp] theorem Try.aggT178 : aggT Try.prog 178 = some false := by kernel_rfl
@[simp] theorem Try.zeroT178 : zeroT Try.prog 178 = some [.nilptr] := by kernel_rfl
@[simp] theorem Try.szT179 : szT Try.prog 179 = some 1 := by kernel_rfl
@[simp] theorem Try.aggT179 : aggT Try.prog 179 = some false := by kernel_rfl
@[simp] theorem Try.zeroT179 : zeroT Try.prog 179 = some [.nilfn] := by kernel_rfl
@[simp] theorem Try.szT180 : szT Try.prog 180 = some 1 := by kernel_rfl
@[simp] theorem Try.aggT180 : aggT Try.prog 180 = some false := by kernel_rfl
@[simp] theorem Try.zeroT180 : zeroT Try.prog 180 = some [.nilfn] := by kernel_rfl
@[simp] theorem Try.szT181 : szT Try.prog 181 = some 1 := by kernel_rfl
@[simp] theorem Try.aggT181 : aggT Try.prog 181 = some false := by kernel_rfl
@[simp] theorem Try.zeroT181 : zeroT Try.prog 181 = some [.nilptr] := by kernel_rfl
@[simp] theorem Try.szT182 : szT Try.prog 182 = some 1 := by kernel_rfl
@[simp] theorem Try.aggT182 : aggT Try.prog 182 = some false := by kernel_rfl
@[simp] theorem Try.zeroT182 : zeroT Try.prog 182 = some [.nilfn] := by kernel_rfl
@[simp] theorem Try.szT183 : szT Try.prog 183 = some 1 := by kernel_rfl
@[simp] theorem Try.aggT183 : aggT Try.prog 183 = some false := by kernel_rfl
@[simp] theorem Try.zeroT183 : zeroT Try.prog 183 = some [.nilfn] := by kernel_rfl
@[simp] theorem Try.szT184 : szT Try.prog 184 = some 4 := by kernel_rfl
@[simp] theorem Try.aggT184 : aggT Try.prog 184 = some true := by kernel_rfl
@[simp] theorem Try.zeroT184 : zeroT Try.prog 184 = some [.nilptr, .nilptr, .nilptr, .str []] := by kernel_rfl
@[simp] theorem Try.foT184_0 : foT Try.prog 184 0 = some (0, 17) := by kernel_rfl
@[simp] theorem Try.foT184_1 : foT Try.prog 184 1 = some (1, 17) := by kernel_rfl
@[simp] theorem Try.foT184_2 : foT Try.prog 184 2 = some (2, 17) := by kernel_rfl
@[simp] theorem Try.foT184_3 : foT Try.prog 184 3 = some (3, 9) := by kernel_rfl
@[simp] theorem Try.placesL184 : placesL Try.prog 184 = some [(0, 1), (1, 1), (2, 1), (3, 1)] := by kernel_rfl
@[simp] theorem Try.szT185 : szT Try.prog 185 = some 4 := by kernel_rfl
@[simp] theorem Try.aggT185 : aggT Try.prog 185 = some true := by kernel_rfl
@[simp] theorem Try.zeroT185 : zeroT Try.prog 185 = some [.nilptr, .nilptr, .nilptr, .str []] := by kernel_rfl
@[simp] theorem Try.foT185_0 : foT Try.prog 185 0 = some (0, 17) := by kernel_rfl
@[simp] theorem Try.foT185_1 : foT Try.prog 185 1 = some (1, 17) := by kernel_rfl
@[simp] theorem Try.foT185_2 : foT Try.prog 185 2 = some (2, 17) := by kernel_rfl
@[simp] theorem Try.foT185_3 : foT Try.prog 185 3 = some (3, 9) := by kernel_rfl
@[simp] theorem Try.placesL185 : placesL Try.prog 185 = some [(0, 1), (1, 1), (2, 1), (3, 1)] := by kernel_rfl
@[simp] theorem Try.szT186 : szT Try.prog 186 = some 0 := by kernel_rfl
@[simp] theorem Try.aggT186 : aggT Try.prog 186 = some true := by kernel_rfl
@[simp] theorem Try.zeroT186 : zeroT Try.prog 186 = some [] := by kernel_rfl
@[simp] theorem Try.placesL186 : placesL Try.prog 186 = some [] := by kernel_rfl
@[simp] theorem Try.szT187 : szT Try.prog 187 = some 0 := by kernel_rfl
@[simp] theorem Try.aggT187 : aggT Try.prog 187 = some true := by kernel_rfl
@[simp] theorem Try.zeroT187 : zeroT Try.prog 187 = some [] := by kernel_rfl
@[simp] theorem Try.foT187_0 : foT Try.prog 187 0 = some (0, 186) := by kernel_rfl
@[simp] theorem Try.placesL187 : placesL Try.prog 187 = some [(0, 0)] := by kernel_rfl
@[simp] theorem Try.szT188 : szT Try.prog 188 = some 0 := by kernel_rfl
@[simp] theorem Try.aggT188 : aggT Try.prog 188 = some true := by kernel_rfl
@[simp] theorem Try.zeroT188 : zeroT Try.prog 188 = some [] := by kernel_rfl
@[simp] theorem Try.foT188_0 : foT Try.prog 188 0 = some (0, 186) := by kernel_rfl
@[simp] theorem Try.placesL188 : placesL Try.prog 188 = some [(0, 0)] := by kernel_rfl
@[simp] theorem Try.szT189 : szT Try.prog 189 = some 1 := by kernel_rfl
@[simp] theorem Try.aggT189 : aggT Try.prog 189 = some false := by kernel_rfl
@[simp] theorem Try.zeroT189 : zeroT Try.prog 189 = some [.int .u8 0] := by kernel_rfl
@[simp] theorem Try.szT190 : szT Try.prog 190 = some 1 := by kernel_rfl
@[simp] theorem Try.aggT190 : aggT Try.prog 190 = some false := by kernel_rfl
@[simp] theorem Try.zeroT190 : zeroT Try.prog 190 = some [.int .u8 0] := by kernel_rfl
@[simp] theorem Try.szT191 : szT Try.prog 191 = some 1 := by kernel_rfl
@[simp] theorem Try.aggT191 : aggT Try.prog 191 = some false := by kernel_rfl
@[simp] theorem Try.zeroT191 : zeroT Try.prog 191 = some [.nilfn] := by kernel_rfl
@[simp] theorem Try.szT192 : szT Try.prog 192 = some 1 := by kernel_rfl
@[simp] theorem Try.aggT192 : aggT Try.prog 192 = some false := by kernel_rfl
@[simp] theorem Try.zeroT192 : zeroT Try.prog 192 = some [.nilptr] := by kernel_rfl
@[simp] theorem Try.szT193 : szT Try.prog 193 = some 1 := by kernel_rfl
@[simp] theorem Try.aggT193 : aggT Try.prog 193 = some false := by kernel_rfl
@[simp] theorem Try.zeroT193 : zeroT Try.prog 193 = some [.int .i32 0] := by kernel_rfl
@[simp] theorem Try.szT194 : szT Try.prog 194 = some 1 := by kernel_rfl
@[simp] theorem Try.aggT194 : aggT Try.prog 194 = some false := by kernel_rfl
@[simp] theorem Try.zeroT194 : zeroT Try.prog 194 = some [.int .i32 0] := by kernel_rfl
@[simp] theorem Try.szT195 : szT Try.prog 195 = some 11 := by kernel_rfl
@[simp] theorem Try.aggT195 : aggT Try.prog 195 = some true := by kernel_rfl
@[simp] theorem Try.zeroT195 : zeroT Try.prog 195 = some [.int .u64 0, .int .u64 0, .int .u32 0, .int .u8 0, .int .u8 0, .int .u8 0, .int .u8 0, .nilfn, .nilptr, .int .i32 0, .int .i32 0] := by kernel_rfl
@[simp] theorem Try.foT195_0 : foT Try.prog 195 0 = some (0, 12) := by kernel_rfl
@[simp] theorem Try.foT195_1 : foT Try.prog 195 1 = some (1, 12) := by kernel_rfl
@[simp] theorem Try.foT195_2 : foT Try.prog 195 2 = some (2, 172) := by kernel_rfl
@[simp] theorem Try.foT195_3 : foT Try.prog 195 3 = some (3, 189) := by kernel_rfl
@[simp] theorem Try.foT195_4 : foT Try.prog 195 4 = some (4, 5) := by kernel_rfl
@[simp] theorem Try.foT195_5 : foT Try.prog 195 5 = some (5, 5) := by kernel_rfl
@[simp] theorem Try.foT195_6 : foT Try.prog 195 6 = some (6, 190) := by kernel_rfl
@[simp] theorem Try.foT195_7 : foT Try.prog 195 7 = some (7, 191) := by kernel_rfl
@[simp] theorem Try.foT195_8 : foT Try.prog 195 8 = some (8, 192) := by kernel_rfl
@[simp] theorem Try.foT195_9 : foT Try.prog 195 9 = some (9, 193) := by kernel_rfl
@[simp] theorem Try.foT195_10 : foT Try.prog 195 10 = some (10, 194) := by kernel_rfl
@[simp] theorem Try.placesL195 : placesL Try.prog 195 = some [(0, 1), (1, 1), (2, 1), (3, 1), (4, 1), (5, 1), (6, 1), (7, 1), (8, 1), (9, 1), (10, 1)] := by kernel_rfl
@[simp] theorem Try.szT196 : szT Try.prog 196 = some 11 := by kernel_rfl
@[simp] theorem Try.aggT196 : aggT Try.prog 196 = some true := by kernel_rfl
@[simp] theorem Try.zeroT196 : zeroT Try.prog 196 = some [.int .u64 0, .int .u64 0, .int .u32 0, .int .u8 0, .int .u8 0, .int .u8 0, .int .u8 0, .nilfn, .nilptr, .int .i32 0, .int .i32 0] := by kernel_rfl
@[simp] theorem Try.foT196_0 : foT Try.prog 196 0 = some (0, 12) := by kernel_rfl
@[simp] theorem Try.foT196_1 : foT Try.prog 196 1 = some (1, 12) := by kernel_rfl
@[simp] theorem Try.foT196_2 : foT Try.prog 196 2 = some (2, 172) := by kernel_rfl
@[simp] theorem Try.foT196_3 : foT Try.prog 196 3 = some (3, 189) := by kernel_rfl
@[simp] theorem Try.foT196_4 : foT Try.prog 196 4 = some (4, 5) := by kernel_rfl
@[simp] theorem Try.foT196_5 : foT Try.prog 196 5 = some (5, 5) := by kernel_rfl
@[simp] theorem Try.foT196_6 : foT Try.prog 196 6 = some (6, 190) := by kernel_rfl
@[simp] theorem Try.foT196_7 : foT Try.prog 196 7 = some (7, 191) := by kernel_rfl
@[simp] theorem Try.foT196_8 : foT Try.prog 196 8 = some (8, 192) := by kernel_rfl
@[simp] theorem Try.foT196_9 : foT Try.prog 196 9 = some (9, 193) := by kernel_rfl
@[simp] theorem Try.foT196_10 : foT Try.prog 196 10 = some (10, 194) := by kernel_rfl
@[simp] theorem Try.placesL196 : placesL Try.prog 196 = some [(0, 1), (1, 1), (2, 1), (3, 1), (4, 1), (5, 1), (6, 1), (7, 1), (8, 1), (9, 1), (10, 1)] := by kernel_rfl
@[simp] theorem Try.szT197 : szT Try.prog 197 = some 1 := by kernel_rfl
@[simp] theorem Try.aggT197 : aggT Try.prog 197 = some false := by kernel_rfl
@[simp] theorem Try.zeroT197 : zeroT Try.prog 197 = some [.nilfn] := by kernel_rfl
attribute [simp] Try.underlying1 Try.underlying2 Try.underlying3 Try.underlying4 Try.underlying5 Try.underlying6 Try.underlying9 Try.underlying10 Try.underlying11 Try.underlying12 Try.underlying15 Try.underlying16 Try.underlying17 Try.underlying20 Try.underlying21 Try.underlying22 Try.underlying25 Try.underlying26 Try.underlying27 Try.underlying29 Try.underlying30 Try.underlying33 Try.underlying34 Try.underlying35 Try.underlying36 Try.underlying37 Try.underlying38 Try.underlying40 Try.underlying41 Try.underlying43 Try.underlying45 Try.underlying47 Try.underlying49 Try.underlying50 Try.underlying51 Try.underlying52 Try.underlying53 Try.underlying56 Try.underlying57 Try.underlying58 Try.underlying59 Try.underlying60 Try.underlying61 Try.underlying63 Try.underlying64 Try.underlying65 Try.underlying66 Try.underlying67 Try.underlying68 Try.underlying69 Try.underlying70 Try.underlying73 Try.underlying74 Try.underlying75 Try.underlying79 Try.underlying80 Try.underlying83 Try.underlying84 Try.underlying85 Try.underlying86 Try.underlying87 Try.underlying88 Try.underlying89 Try.underlying90 Try.underlying92 Try.underlying94 Try.underlying95 Try.underlying96 Try.underlying97 Try.underlying98 Try.underlying99 Try.underlying100 Try.underlying101 Try.underlying102 Try.underlying103 Try.underlying104 Try.underlying105 Try.underlying106 Try.underlying107 Try.underlying111 Try.underlying112 Try.underlying113 Try.underlying114 Try.underlying115 Try.underlying116 Try.underlying117 Try.underlying120 Try.underlying121 Try.underlying122 Try.underlying123 Try.underlying124 Try.underlying125 Try.underlying126 Try.underlying128 Try.underlying129 Try.underlying130 Try.underlying131 Try.underlying132 Try.underlying133 Try.underlying134 Try.underlying135 Try.underlying136 Try.underlying137 Try.underlying138 Try.underlying139 Try.underlying140 Try.underlying141 Try.underlying142 Try.underlying143 Try.underlying144 Try.underlying145 Try.underlying146 Try.underlying147 Try.underlying148 Try.underlying149 Try.underlying150 Try.underlying151 Try.underlying152 Try.underlying153 Try.underlying154 Try.underlying155 Try.underlying156 Try.underlying157 Try.underlying158 Try.underlying159 Try.underlying160 Try.underlying161 Try.underlying162 Try.underlying163 Try.underlying165 Try.underlying166 Try.underlying167 Try.underlying168 Try.underlying170 Try.underlying171 Try.underlying172 Try.underlying173 Try.underlying174 Try.underlying175 Try.underlying176 Try.underlying177 Try.underlying178 Try.underlying179 Try.underlying180 Try.underlying181 Try.underlying182 Try.underlying183 Try.underlying186 Try.underlying189 Try.underlying190 Try.underlying191 Try.underlying192 Try.underlying193 Try.underlying194 Try.underlying197
end Go.Proofs
