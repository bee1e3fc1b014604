/-
  Facts on the types and functions of the dump, by a program of this repo (genty.py): each is told by the kernel.
-/
import Derived.Test.YteendcbmoagdfaaProg
import Derived.Test.YteendcbmoagdfaaEngC
set_option linter.defProp false
set_option linter.unusedSimpArgs false
namespace Go.Proofs.Yteendcbmoagdfaa
open Go Go.Eng
theorem ty1 : tyI Try.prog 1 = some ⟨false, 1, [.nilFunc], .other⟩ := by kernel_rfl
theorem ty2 : tyI Try.prog 2 = some ⟨false, 1, [.int .i64 0], .other⟩ := by kernel_rfl
theorem ty3 : tyI Try.prog 3 = some ⟨false, 1, [.int .i64 0], .other⟩ := by kernel_rfl
theorem ty4 : tyI Try.prog 4 = some ⟨false, 1, [.bool false], .other⟩ := by kernel_rfl
theorem ty5 : tyI Try.prog 5 = some ⟨false, 1, [.int .u8 0], .other⟩ := by kernel_rfl
theorem ty6 : tyI Try.prog 6 = some ⟨false, 1, [.int .u8 0], .other⟩ := by kernel_rfl
theorem ty7 : tyI Try.prog 7 = some ⟨true, 4, [.int .i64 0, .int .i64 0, .bool false, .int .u8 0], .struct [(0,1), (1,1), (2,1), (3,1)]⟩ := by kernel_rfl
theorem ty8 : tyI Try.prog 8 = some ⟨true, 4, [.int .i64 0, .int .i64 0, .bool false, .int .u8 0], .struct [(0,1), (1,1), (2,1), (3,1)]⟩ := by kernel_rfl
theorem ty9 : tyI Try.prog 9 = some ⟨false, 1, [.string ⟨#[]⟩], .other⟩ := by kernel_rfl
theorem ty10 : tyI Try.prog 10 = some ⟨false, 1, [.string ⟨#[]⟩], .other⟩ := by kernel_rfl
theorem ty11 : tyI Try.prog 11 = some ⟨false, 1, [.string ⟨#[]⟩], .other⟩ := by kernel_rfl
theorem ty12 : tyI Try.prog 12 = some ⟨false, 1, [.int .u64 0], .other⟩ := by kernel_rfl
theorem ty13 : tyI Try.prog 13 = some ⟨true, 2, [.string ⟨#[]⟩, .int .u64 0], .struct [(0,1), (1,1)]⟩ := by kernel_rfl
theorem ty14 : tyI Try.prog 14 = some ⟨true, 2, [.string ⟨#[]⟩, .int .u64 0], .struct [(0,1), (1,1)]⟩ := by kernel_rfl
theorem ty15 : tyI Try.prog 15 = some ⟨false, 1, [.pointer none], .other⟩ := by kernel_rfl
theorem ty16 : tyI Try.prog 16 = some ⟨false, 1, [.pointer none], .other⟩ := by kernel_rfl
theorem ty17 : tyI Try.prog 17 = some ⟨false, 1, [.pointer none], .other⟩ := by kernel_rfl
theorem ty18 : tyI Try.prog 18 = some ⟨true, 1, [.pointer none], .struct [(0,1)]⟩ := by kernel_rfl
theorem ty19 : tyI Try.prog 19 = some ⟨true, 1, [.pointer none], .struct [(0,1)]⟩ := by kernel_rfl
theorem ty20 : tyI Try.prog 20 = some ⟨false, 1, [.nilIface], .other⟩ := by kernel_rfl
theorem ty21 : tyI Try.prog 21 = some ⟨false, 1, [.int .i32 0], .other⟩ := by kernel_rfl
theorem ty22 : tyI Try.prog 22 = some ⟨false, 1, [.slice none 0 0], .slice 4⟩ := by kernel_rfl
theorem ty23 : tyI Try.prog 23 = some ⟨false, 1, [.nilFunc], .other⟩ := by kernel_rfl
theorem ty24 : tyI Try.prog 24 = some ⟨false, 1, [.pointer none], .other⟩ := by kernel_rfl
theorem ty25 : tyI Try.prog 25 = some ⟨false, 1, [.nilFunc], .other⟩ := by kernel_rfl
theorem ty26 : tyI Try.prog 26 = some ⟨false, 1, [.pointer none], .other⟩ := by kernel_rfl
theorem ty27 : tyI Try.prog 27 = some ⟨false, 1, [.nilFunc], .other⟩ := by kernel_rfl
theorem ty28 : tyI Try.prog 28 = some ⟨false, 1, [.int .i64 0], .other⟩ := by kernel_rfl
theorem ty29 : tyI Try.prog 29 = some ⟨false, 1, [.nilFunc], .other⟩ := by kernel_rfl
theorem ty30 : tyI Try.prog 30 = some ⟨false, 1, [.nilFunc], .other⟩ := by kernel_rfl
theorem ty31 : tyI Try.prog 31 = some ⟨false, 1, [.int .i64 0], .other⟩ := by kernel_rfl
theorem ty32 : tyI Try.prog 32 = some ⟨false, 1, [.nilFunc], .other⟩ := by kernel_rfl
theorem ty33 : tyI Try.prog 33 = some ⟨false, 1, [.nilFunc], .other⟩ := by kernel_rfl
theorem ty34 : tyI Try.prog 34 = some ⟨false, 1, [.nilFunc], .other⟩ := by kernel_rfl
theorem ty35 : tyI Try.prog 35 = some ⟨false, 1, [.nilFunc], .other⟩ := by kernel_rfl
theorem ty36 : tyI Try.prog 36 = some ⟨false, 1, [.int .i64 0], .other⟩ := by kernel_rfl
theorem ty37 : tyI Try.prog 37 = some ⟨false, 1, [.int .i64 0], .other⟩ := by kernel_rfl
theorem ty38 : tyI Try.prog 38 = some ⟨true, 2, [.int .i64 0, .int .i64 0], .struct [(0,1), (1,1)]⟩ := by kernel_rfl
theorem ty39 : tyI Try.prog 39 = some ⟨true, 2, [.int .i64 0, .int .i64 0], .struct [(0,1), (1,1)]⟩ := by kernel_rfl
theorem ty40 : tyI Try.prog 40 = some ⟨true, 4, [.int .i64 0, .bool false, .int .i64 0, .int .i64 0], .struct [(0,1), (1,1), (2,2)]⟩ := by kernel_rfl
theorem ty41 : tyI Try.prog 41 = some ⟨true, 4, [.int .i64 0, .bool false, .int .i64 0, .int .i64 0], .struct [(0,1), (1,1), (2,2)]⟩ := by kernel_rfl
theorem ty43 : tyI Try.prog 43 = some ⟨false, 1, [.nilFunc], .other⟩ := by kernel_rfl
theorem ty45 : tyI Try.prog 45 = some ⟨false, 1, [.nilFunc], .other⟩ := by kernel_rfl
theorem ty46 : tyI Try.prog 46 = some ⟨false, 1, [.nilFunc], .other⟩ := by kernel_rfl
theorem ty47 : tyI Try.prog 47 = some ⟨false, 1, [.nilFunc], .other⟩ := by kernel_rfl
theorem ty48 : tyI Try.prog 48 = some ⟨false, 1, [.nilFunc], .other⟩ := by kernel_rfl
theorem ty49 : tyI Try.prog 49 = some ⟨false, 1, [.slice none 0 0], .slice 1⟩ := by kernel_rfl
theorem ty50 : tyI Try.prog 50 = some ⟨false, 1, [.slice none 0 0], .slice 1⟩ := by kernel_rfl
theorem ty51 : tyI Try.prog 51 = some ⟨false, 1, [.nilFunc], .other⟩ := by kernel_rfl
theorem ty53 : tyI Try.prog 53 = some ⟨false, 1, [.nilFunc], .other⟩ := by kernel_rfl
theorem ty54 : tyI Try.prog 54 = some ⟨false, 1, [.nilFunc], .other⟩ := by kernel_rfl
theorem ty55 : tyI Try.prog 55 = some ⟨false, 1, [.nilFunc], .other⟩ := by kernel_rfl
theorem ty56 : tyI Try.prog 56 = some ⟨false, 1, [.slice none 0 0], .slice 6⟩ := by kernel_rfl
theorem ty57 : tyI Try.prog 57 = some ⟨true, 3, [.pointer none, .slice none 0 0, .slice none 0 0], .struct [(0,1), (1,1), (2,1)]⟩ := by kernel_rfl
theorem ty58 : tyI Try.prog 58 = some ⟨true, 3, [.pointer none, .slice none 0 0, .slice none 0 0], .struct [(0,1), (1,1), (2,1)]⟩ := by kernel_rfl
theorem ty59 : tyI Try.prog 59 = some ⟨true, 3, [.pointer none, .pointer none, .pointer none], .arr 3 1⟩ := by kernel_rfl
theorem ty60 : tyI Try.prog 60 = some ⟨false, 1, [.nilFunc], .other⟩ := by kernel_rfl
theorem ty61 : tyI Try.prog 61 = some ⟨false, 1, [.nilFunc], .other⟩ := by kernel_rfl
theorem ty62 : tyI Try.prog 62 = some ⟨false, 1, [.map none], .other⟩ := by kernel_rfl
theorem ty63 : tyI Try.prog 63 = some ⟨false, 1, [.slice none 0 0], .slice 6⟩ := by kernel_rfl
theorem ty64 : tyI Try.prog 64 = some ⟨false, 1, [.slice none 0 0], .slice 2⟩ := by kernel_rfl
theorem ty65 : tyI Try.prog 65 = some ⟨true, 3, [.slice none 0 0, .slice none 0 0, .map none], .struct [(0,1), (1,1), (2,1)]⟩ := by kernel_rfl
theorem ty66 : tyI Try.prog 66 = some ⟨true, 3, [.slice none 0 0, .slice none 0 0, .map none], .struct [(0,1), (1,1), (2,1)]⟩ := by kernel_rfl
theorem ty67 : tyI Try.prog 67 = some ⟨false, 1, [.nilFunc], .other⟩ := by kernel_rfl
theorem ty68 : tyI Try.prog 68 = some ⟨true, 6, [.int .i64 0, .slice none 0 0, .slice none 0 0, .int .i64 0, .bool false, .slice none 0 0], .struct [(0,1), (1,1), (2,1), (3,1), (4,1), (5,1)]⟩ := by kernel_rfl
theorem ty69 : tyI Try.prog 69 = some ⟨true, 6, [.int .i64 0, .slice none 0 0, .slice none 0 0, .int .i64 0, .bool false, .slice none 0 0], .struct [(0,1), (1,1), (2,1), (3,1), (4,1), (5,1)]⟩ := by kernel_rfl
theorem ty70 : tyI Try.prog 70 = some ⟨false, 1, [.pointer none], .other⟩ := by kernel_rfl
theorem ty71 : tyI Try.prog 71 = some ⟨false, 1, [.nilFunc], .other⟩ := by kernel_rfl
theorem ty72 : tyI Try.prog 72 = some ⟨false, 1, [.nilFunc], .other⟩ := by kernel_rfl
theorem ty73 : tyI Try.prog 73 = some ⟨false, 1, [.nilFunc], .other⟩ := by kernel_rfl
theorem ty74 : tyI Try.prog 74 = some ⟨false, 1, [.nilFunc], .other⟩ := by kernel_rfl
theorem ty75 : tyI Try.prog 75 = some ⟨false, 1, [.nilFunc], .other⟩ := by kernel_rfl
theorem ty76 : tyI Try.prog 76 = some ⟨false, 1, [.nilFunc], .other⟩ := by kernel_rfl
theorem ty77 : tyI Try.prog 77 = some ⟨false, 1, [.nilFunc], .other⟩ := by kernel_rfl
theorem ty78 : tyI Try.prog 78 = some ⟨false, 1, [.slice none 0 0], .slice 4⟩ := by kernel_rfl
theorem ty79 : tyI Try.prog 79 = some ⟨false, 1, [.nilFunc], .other⟩ := by kernel_rfl
theorem ty80 : tyI Try.prog 80 = some ⟨false, 1, [.nilFunc], .other⟩ := by kernel_rfl
theorem ty81 : tyI Try.prog 81 = some ⟨false, 1, [.nilFunc], .other⟩ := by kernel_rfl
theorem ty82 : tyI Try.prog 82 = some ⟨false, 1, [.nilFunc], .other⟩ := by kernel_rfl
theorem ty83 : tyI Try.prog 83 = some ⟨false, 1, [.nilFunc], .other⟩ := by kernel_rfl
theorem ty84 : tyI Try.prog 84 = some ⟨false, 1, [.slice none 0 0], .slice 2⟩ := by kernel_rfl
theorem ty85 : tyI Try.prog 85 = some ⟨false, 1, [.int .i64 0], .other⟩ := by kernel_rfl
theorem ty86 : tyI Try.prog 86 = some ⟨false, 1, [.slice none 0 0], .slice 6⟩ := by kernel_rfl
theorem ty87 : tyI Try.prog 87 = some ⟨true, 4, [.int .i64 0, .slice none 0 0, .slice none 0 0, .slice none 0 0], .struct [(0,1), (1,1), (2,1), (3,1)]⟩ := by kernel_rfl
theorem ty88 : tyI Try.prog 88 = some ⟨true, 4, [.int .i64 0, .slice none 0 0, .slice none 0 0, .slice none 0 0], .struct [(0,1), (1,1), (2,1), (3,1)]⟩ := by kernel_rfl
theorem ty89 : tyI Try.prog 89 = some ⟨true, 6, [.bool false, .slice none 0 0, .int .i64 0, .slice none 0 0, .slice none 0 0, .slice none 0 0], .struct [(0,1), (1,1), (2,4)]⟩ := by kernel_rfl
theorem ty90 : tyI Try.prog 90 = some ⟨true, 6, [.bool false, .slice none 0 0, .int .i64 0, .slice none 0 0, .slice none 0 0, .slice none 0 0], .struct [(0,1), (1,1), (2,4)]⟩ := by kernel_rfl
theorem ty92 : tyI Try.prog 92 = some ⟨false, 1, [.nilFunc], .other⟩ := by kernel_rfl
theorem ty93 : tyI Try.prog 93 = some ⟨false, 1, [.nilFunc], .other⟩ := by kernel_rfl
theorem ty94 : tyI Try.prog 94 = some ⟨false, 1, [.nilFunc], .other⟩ := by kernel_rfl
theorem ty95 : tyI Try.prog 95 = some ⟨false, 1, [.nilFunc], .other⟩ := by kernel_rfl
theorem ty96 : tyI Try.prog 96 = some ⟨false, 1, [.nilFunc], .other⟩ := by kernel_rfl
theorem ty97 : tyI Try.prog 97 = some ⟨true, 2, [.int .i64 0, .int .i64 0], .struct [(0,1), (1,1)]⟩ := by kernel_rfl
theorem ty98 : tyI Try.prog 98 = some ⟨true, 2, [.int .i64 0, .int .i64 0], .struct [(0,1), (1,1)]⟩ := by kernel_rfl
theorem ty99 : tyI Try.prog 99 = some ⟨false, 1, [.nilFunc], .other⟩ := by kernel_rfl
theorem ty100 : tyI Try.prog 100 = some ⟨false, 1, [.nilFunc], .other⟩ := by kernel_rfl
theorem ty101 : tyI Try.prog 101 = some ⟨false, 1, [.nilFunc], .other⟩ := by kernel_rfl
theorem ty102 : tyI Try.prog 102 = some ⟨false, 1, [.nilFunc], .other⟩ := by kernel_rfl
theorem ty103 : tyI Try.prog 103 = some ⟨false, 1, [.nilFunc], .other⟩ := by kernel_rfl
theorem ty104 : tyI Try.prog 104 = some ⟨true, 5, [.int .i64 0, .int .i64 0, .bool false, .int .i64 0, .int .i64 0], .struct [(0,1), (1,4)]⟩ := by kernel_rfl
theorem ty105 : tyI Try.prog 105 = some ⟨true, 5, [.int .i64 0, .int .i64 0, .bool false, .int .i64 0, .int .i64 0], .struct [(0,1), (1,4)]⟩ := by kernel_rfl
theorem ty106 : tyI Try.prog 106 = some ⟨true, 6, [.int .i64 0, .int .i64 0, .bool false, .int .i64 0, .int .i64 0, .bool false], .struct [(0,5), (5,1)]⟩ := by kernel_rfl
theorem ty107 : tyI Try.prog 107 = some ⟨true, 6, [.int .i64 0, .int .i64 0, .bool false, .int .i64 0, .int .i64 0, .bool false], .struct [(0,5), (5,1)]⟩ := by kernel_rfl
theorem ty108 : tyI Try.prog 108 = some ⟨false, 1, [.nilFunc], .other⟩ := by kernel_rfl
theorem ty109 : tyI Try.prog 109 = some ⟨false, 1, [.nilFunc], .other⟩ := by kernel_rfl
theorem ty110 : tyI Try.prog 110 = some ⟨false, 1, [.map none], .other⟩ := by kernel_rfl
theorem ty112 : tyI Try.prog 112 = some ⟨false, 1, [.nilFunc], .other⟩ := by kernel_rfl
theorem ty113 : tyI Try.prog 113 = some ⟨false, 1, [.nilFunc], .other⟩ := by kernel_rfl
theorem ty114 : tyI Try.prog 114 = some ⟨false, 1, [.nilFunc], .other⟩ := by kernel_rfl
theorem ty115 : tyI Try.prog 115 = some ⟨false, 1, [.nilFunc], .other⟩ := by kernel_rfl
theorem ty116 : tyI Try.prog 116 = some ⟨true, 4, [.pointer none, .pointer none, .pointer none, .string ⟨#[]⟩], .struct [(0,1), (1,1), (2,1), (3,1)]⟩ := by kernel_rfl
theorem ty117 : tyI Try.prog 117 = some ⟨true, 4, [.pointer none, .pointer none, .pointer none, .string ⟨#[]⟩], .struct [(0,1), (1,1), (2,1), (3,1)]⟩ := by kernel_rfl
theorem ty118 : tyI Try.prog 118 = some ⟨true, 0, [], .arr 0 1⟩ := by kernel_rfl
theorem ty119 : tyI Try.prog 119 = some ⟨true, 0, [], .struct [(0,0)]⟩ := by kernel_rfl
theorem ty120 : tyI Try.prog 120 = some ⟨true, 0, [], .struct [(0,0)]⟩ := by kernel_rfl
theorem ty121 : tyI Try.prog 121 = some ⟨false, 1, [.int .u32 0], .other⟩ := by kernel_rfl
theorem ty122 : tyI Try.prog 122 = some ⟨false, 1, [.int .u8 0], .other⟩ := by kernel_rfl
theorem ty123 : tyI Try.prog 123 = some ⟨false, 1, [.int .u8 0], .other⟩ := by kernel_rfl
theorem ty124 : tyI Try.prog 124 = some ⟨false, 1, [.nilFunc], .other⟩ := by kernel_rfl
theorem ty125 : tyI Try.prog 125 = some ⟨false, 1, [.pointer none], .other⟩ := by kernel_rfl
theorem ty126 : tyI Try.prog 126 = some ⟨false, 1, [.int .i32 0], .other⟩ := by kernel_rfl
theorem ty127 : tyI Try.prog 127 = some ⟨false, 1, [.int .i32 0], .other⟩ := by kernel_rfl
theorem ty128 : tyI Try.prog 128 = some ⟨true, 11, [.int .u64 0, .int .u64 0, .int .u32 0, .int .u8 0, .int .u8 0, .int .u8 0, .int .u8 0, .nilFunc, .pointer none, .int .i32 0, .int .i32 0], .struct [(0,1), (1,1), (2,1), (3,1), (4,1), (5,1), (6,1), (7,1), (8,1), (9,1), (10,1)]⟩ := by kernel_rfl
theorem ty129 : tyI Try.prog 129 = some ⟨true, 11, [.int .u64 0, .int .u64 0, .int .u32 0, .int .u8 0, .int .u8 0, .int .u8 0, .int .u8 0, .nilFunc, .pointer none, .int .i32 0, .int .i32 0], .struct [(0,1), (1,1), (2,1), (3,1), (4,1), (5,1), (6,1), (7,1), (8,1), (9,1), (10,1)]⟩ := by kernel_rfl
theorem fl7_0 : fldI Try.prog 7 0 = some (0, none) := by kernel_rfl
theorem fl7_1 : fldI Try.prog 7 1 = some (1, none) := by kernel_rfl
theorem fl7_2 : fldI Try.prog 7 2 = some (2, none) := by kernel_rfl
theorem fl7_3 : fldI Try.prog 7 3 = some (3, none) := by kernel_rfl
theorem fl8_0 : fldI Try.prog 8 0 = some (0, none) := by kernel_rfl
theorem fl8_1 : fldI Try.prog 8 1 = some (1, none) := by kernel_rfl
theorem fl8_2 : fldI Try.prog 8 2 = some (2, none) := by kernel_rfl
theorem fl8_3 : fldI Try.prog 8 3 = some (3, none) := by kernel_rfl
theorem fl13_0 : fldI Try.prog 13 0 = some (0, none) := by kernel_rfl
theorem fl13_1 : fldI Try.prog 13 1 = some (1, none) := by kernel_rfl
theorem fl14_0 : fldI Try.prog 14 0 = some (0, none) := by kernel_rfl
theorem fl14_1 : fldI Try.prog 14 1 = some (1, none) := by kernel_rfl
theorem fl18_0 : fldI Try.prog 18 0 = some (0, none) := by kernel_rfl
theorem fl19_0 : fldI Try.prog 19 0 = some (0, none) := by kernel_rfl
theorem fl38_0 : fldI Try.prog 38 0 = some (0, none) := by kernel_rfl
theorem fl38_1 : fldI Try.prog 38 1 = some (1, none) := by kernel_rfl
theorem fl39_0 : fldI Try.prog 39 0 = some (0, none) := by kernel_rfl
theorem fl39_1 : fldI Try.prog 39 1 = some (1, none) := by kernel_rfl
theorem fl40_0 : fldI Try.prog 40 0 = some (0, none) := by kernel_rfl
theorem fl40_1 : fldI Try.prog 40 1 = some (1, none) := by kernel_rfl
theorem fl40_2 : fldI Try.prog 40 2 = some (2, some 2) := by kernel_rfl
theorem fl41_0 : fldI Try.prog 41 0 = some (0, none) := by kernel_rfl
theorem fl41_1 : fldI Try.prog 41 1 = some (1, none) := by kernel_rfl
theorem fl41_2 : fldI Try.prog 41 2 = some (2, some 2) := by kernel_rfl
theorem fl57_0 : fldI Try.prog 57 0 = some (0, none) := by kernel_rfl
theorem fl57_1 : fldI Try.prog 57 1 = some (1, none) := by kernel_rfl
theorem fl57_2 : fldI Try.prog 57 2 = some (2, none) := by kernel_rfl
theorem fl58_0 : fldI Try.prog 58 0 = some (0, none) := by kernel_rfl
theorem fl58_1 : fldI Try.prog 58 1 = some (1, none) := by kernel_rfl
theorem fl58_2 : fldI Try.prog 58 2 = some (2, none) := by kernel_rfl
theorem fl65_0 : fldI Try.prog 65 0 = some (0, none) := by kernel_rfl
theorem fl65_1 : fldI Try.prog 65 1 = some (1, none) := by kernel_rfl
theorem fl65_2 : fldI Try.prog 65 2 = some (2, none) := by kernel_rfl
theorem fl66_0 : fldI Try.prog 66 0 = some (0, none) := by kernel_rfl
theorem fl66_1 : fldI Try.prog 66 1 = some (1, none) := by kernel_rfl
theorem fl66_2 : fldI Try.prog 66 2 = some (2, none) := by kernel_rfl
theorem fl68_0 : fldI Try.prog 68 0 = some (0, none) := by kernel_rfl
theorem fl68_1 : fldI Try.prog 68 1 = some (1, none) := by kernel_rfl
theorem fl68_2 : fldI Try.prog 68 2 = some (2, none) := by kernel_rfl
theorem fl68_3 : fldI Try.prog 68 3 = some (3, none) := by kernel_rfl
theorem fl68_4 : fldI Try.prog 68 4 = some (4, none) := by kernel_rfl
theorem fl68_5 : fldI Try.prog 68 5 = some (5, none) := by kernel_rfl
theorem fl69_0 : fldI Try.prog 69 0 = some (0, none) := by kernel_rfl
theorem fl69_1 : fldI Try.prog 69 1 = some (1, none) := by kernel_rfl
theorem fl69_2 : fldI Try.prog 69 2 = some (2, none) := by kernel_rfl
theorem fl69_3 : fldI Try.prog 69 3 = some (3, none) := by kernel_rfl
theorem fl69_4 : fldI Try.prog 69 4 = some (4, none) := by kernel_rfl
theorem fl69_5 : fldI Try.prog 69 5 = some (5, none) := by kernel_rfl
theorem fl87_0 : fldI Try.prog 87 0 = some (0, none) := by kernel_rfl
theorem fl87_1 : fldI Try.prog 87 1 = some (1, none) := by kernel_rfl
theorem fl87_2 : fldI Try.prog 87 2 = some (2, none) := by kernel_rfl
theorem fl87_3 : fldI Try.prog 87 3 = some (3, none) := by kernel_rfl
theorem fl88_0 : fldI Try.prog 88 0 = some (0, none) := by kernel_rfl
theorem fl88_1 : fldI Try.prog 88 1 = some (1, none) := by kernel_rfl
theorem fl88_2 : fldI Try.prog 88 2 = some (2, none) := by kernel_rfl
theorem fl88_3 : fldI Try.prog 88 3 = some (3, none) := by kernel_rfl
theorem fl89_0 : fldI Try.prog 89 0 = some (0, none) := by kernel_rfl
theorem fl89_1 : fldI Try.prog 89 1 = some (1, none) := by kernel_rfl
theorem fl89_2 : fldI Try.prog 89 2 = some (2, some 4) := by kernel_rfl
theorem fl90_0 : fldI Try.prog 90 0 = some (0, none) := by kernel_rfl
theorem fl90_1 : fldI Try.prog 90 1 = some (1, none) := by kernel_rfl
theorem fl90_2 : fldI Try.prog 90 2 = some (2, some 4) := by kernel_rfl
theorem fl97_0 : fldI Try.prog 97 0 = some (0, none) := by kernel_rfl
theorem fl97_1 : fldI Try.prog 97 1 = some (1, none) := by kernel_rfl
theorem fl98_0 : fldI Try.prog 98 0 = some (0, none) := by kernel_rfl
theorem fl98_1 : fldI Try.prog 98 1 = some (1, none) := by kernel_rfl
theorem fl104_0 : fldI Try.prog 104 0 = some (0, none) := by kernel_rfl
theorem fl104_1 : fldI Try.prog 104 1 = some (1, some 4) := by kernel_rfl
theorem fl105_0 : fldI Try.prog 105 0 = some (0, none) := by kernel_rfl
theorem fl105_1 : fldI Try.prog 105 1 = some (1, some 4) := by kernel_rfl
theorem fl106_0 : fldI Try.prog 106 0 = some (0, some 5) := by kernel_rfl
theorem fl106_1 : fldI Try.prog 106 1 = some (5, none) := by kernel_rfl
theorem fl107_0 : fldI Try.prog 107 0 = some (0, some 5) := by kernel_rfl
theorem fl107_1 : fldI Try.prog 107 1 = some (5, none) := by kernel_rfl
theorem fl116_0 : fldI Try.prog 116 0 = some (0, none) := by kernel_rfl
theorem fl116_1 : fldI Try.prog 116 1 = some (1, none) := by kernel_rfl
theorem fl116_2 : fldI Try.prog 116 2 = some (2, none) := by kernel_rfl
theorem fl116_3 : fldI Try.prog 116 3 = some (3, none) := by kernel_rfl
theorem fl117_0 : fldI Try.prog 117 0 = some (0, none) := by kernel_rfl
theorem fl117_1 : fldI Try.prog 117 1 = some (1, none) := by kernel_rfl
theorem fl117_2 : fldI Try.prog 117 2 = some (2, none) := by kernel_rfl
theorem fl117_3 : fldI Try.prog 117 3 = some (3, none) := by kernel_rfl
theorem fl119_0 : fldI Try.prog 119 0 = some (0, some 0) := by kernel_rfl
theorem fl120_0 : fldI Try.prog 120 0 = some (0, some 0) := by kernel_rfl
theorem fl128_0 : fldI Try.prog 128 0 = some (0, none) := by kernel_rfl
theorem fl128_1 : fldI Try.prog 128 1 = some (1, none) := by kernel_rfl
theorem fl128_2 : fldI Try.prog 128 2 = some (2, none) := by kernel_rfl
theorem fl128_3 : fldI Try.prog 128 3 = some (3, none) := by kernel_rfl
theorem fl128_4 : fldI Try.prog 128 4 = some (4, none) := by kernel_rfl
theorem fl128_5 : fldI Try.prog 128 5 = some (5, none) := by kernel_rfl
theorem fl128_6 : fldI Try.prog 128 6 = some (6, none) := by kernel_rfl
theorem fl128_7 : fldI Try.prog 128 7 = some (7, none) := by kernel_rfl
theorem fl128_8 : fldI Try.prog 128 8 = some (8, none) := by kernel_rfl
theorem fl128_9 : fldI Try.prog 128 9 = some (9, none) := by kernel_rfl
theorem fl128_10 : fldI Try.prog 128 10 = some (10, none) := by kernel_rfl
theorem fl129_0 : fldI Try.prog 129 0 = some (0, none) := by kernel_rfl
theorem fl129_1 : fldI Try.prog 129 1 = some (1, none) := by kernel_rfl
theorem fl129_2 : fldI Try.prog 129 2 = some (2, none) := by kernel_rfl
theorem fl129_3 : fldI Try.prog 129 3 = some (3, none) := by kernel_rfl
theorem fl129_4 : fldI Try.prog 129 4 = some (4, none) := by kernel_rfl
theorem fl129_5 : fldI Try.prog 129 5 = some (5, none) := by kernel_rfl
theorem fl129_6 : fldI Try.prog 129 6 = some (6, none) := by kernel_rfl
theorem fl129_7 : fldI Try.prog 129 7 = some (7, none) := by kernel_rfl
theorem fl129_8 : fldI Try.prog 129 8 = some (8, none) := by kernel_rfl
theorem fl129_9 : fldI Try.prog 129 9 = some (9, none) := by kernel_rfl
theorem fl129_10 : fldI Try.prog 129 10 = some (10, none) := by kernel_rfl
theorem nt0 : nilTy Try.prog 0 = 0 := by kernel_rfl
theorem nt1 : nilTy Try.prog 1 = 3 := by kernel_rfl
theorem nt2 : nilTy Try.prog 2 = 0 := by kernel_rfl
theorem nt3 : nilTy Try.prog 3 = 0 := by kernel_rfl
theorem nt4 : nilTy Try.prog 4 = 0 := by kernel_rfl
theorem nt5 : nilTy Try.prog 5 = 0 := by kernel_rfl
theorem nt6 : nilTy Try.prog 6 = 0 := by kernel_rfl
theorem nt7 : nilTy Try.prog 7 = 0 := by kernel_rfl
theorem nt8 : nilTy Try.prog 8 = 0 := by kernel_rfl
theorem nt9 : nilTy Try.prog 9 = 0 := by kernel_rfl
theorem nt10 : nilTy Try.prog 10 = 0 := by kernel_rfl
theorem nt11 : nilTy Try.prog 11 = 0 := by kernel_rfl
theorem nt12 : nilTy Try.prog 12 = 0 := by kernel_rfl
theorem nt13 : nilTy Try.prog 13 = 0 := by kernel_rfl
theorem nt14 : nilTy Try.prog 14 = 0 := by kernel_rfl
theorem nt15 : nilTy Try.prog 15 = 1 := by kernel_rfl
theorem nt16 : nilTy Try.prog 16 = 1 := by kernel_rfl
theorem nt17 : nilTy Try.prog 17 = 1 := by kernel_rfl
theorem nt18 : nilTy Try.prog 18 = 0 := by kernel_rfl
theorem nt19 : nilTy Try.prog 19 = 0 := by kernel_rfl
theorem nt20 : nilTy Try.prog 20 = 0 := by kernel_rfl
theorem nt21 : nilTy Try.prog 21 = 0 := by kernel_rfl
theorem nt22 : nilTy Try.prog 22 = 2 := by kernel_rfl
theorem nt23 : nilTy Try.prog 23 = 3 := by kernel_rfl
theorem nt24 : nilTy Try.prog 24 = 1 := by kernel_rfl
theorem nt25 : nilTy Try.prog 25 = 3 := by kernel_rfl
theorem nt26 : nilTy Try.prog 26 = 1 := by kernel_rfl
theorem nt27 : nilTy Try.prog 27 = 3 := by kernel_rfl
theorem nt28 : nilTy Try.prog 28 = 0 := by kernel_rfl
theorem nt29 : nilTy Try.prog 29 = 3 := by kernel_rfl
theorem nt30 : nilTy Try.prog 30 = 3 := by kernel_rfl
theorem nt31 : nilTy Try.prog 31 = 0 := by kernel_rfl
theorem nt32 : nilTy Try.prog 32 = 3 := by kernel_rfl
theorem nt33 : nilTy Try.prog 33 = 3 := by kernel_rfl
theorem nt34 : nilTy Try.prog 34 = 3 := by kernel_rfl
theorem nt35 : nilTy Try.prog 35 = 3 := by kernel_rfl
theorem nt36 : nilTy Try.prog 36 = 0 := by kernel_rfl
theorem nt37 : nilTy Try.prog 37 = 0 := by kernel_rfl
theorem nt38 : nilTy Try.prog 38 = 0 := by kernel_rfl
theorem nt39 : nilTy Try.prog 39 = 0 := by kernel_rfl
theorem nt40 : nilTy Try.prog 40 = 0 := by kernel_rfl
theorem nt41 : nilTy Try.prog 41 = 0 := by kernel_rfl
theorem nt42 : nilTy Try.prog 42 = 0 := by kernel_rfl
theorem nt43 : nilTy Try.prog 43 = 3 := by kernel_rfl
theorem nt44 : nilTy Try.prog 44 = 0 := by kernel_rfl
theorem nt45 : nilTy Try.prog 45 = 3 := by kernel_rfl
theorem nt46 : nilTy Try.prog 46 = 3 := by kernel_rfl
theorem nt47 : nilTy Try.prog 47 = 3 := by kernel_rfl
theorem nt48 : nilTy Try.prog 48 = 3 := by kernel_rfl
theorem nt49 : nilTy Try.prog 49 = 2 := by kernel_rfl
theorem nt50 : nilTy Try.prog 50 = 2 := by kernel_rfl
theorem nt51 : nilTy Try.prog 51 = 3 := by kernel_rfl
theorem nt52 : nilTy Try.prog 52 = 0 := by kernel_rfl
theorem nt53 : nilTy Try.prog 53 = 3 := by kernel_rfl
theorem nt54 : nilTy Try.prog 54 = 3 := by kernel_rfl
theorem nt55 : nilTy Try.prog 55 = 3 := by kernel_rfl
theorem nt56 : nilTy Try.prog 56 = 2 := by kernel_rfl
theorem nt57 : nilTy Try.prog 57 = 0 := by kernel_rfl
theorem nt58 : nilTy Try.prog 58 = 0 := by kernel_rfl
theorem nt59 : nilTy Try.prog 59 = 0 := by kernel_rfl
theorem nt60 : nilTy Try.prog 60 = 3 := by kernel_rfl
theorem nt61 : nilTy Try.prog 61 = 3 := by kernel_rfl
theorem nt62 : nilTy Try.prog 62 = 4 := by kernel_rfl
theorem nt63 : nilTy Try.prog 63 = 2 := by kernel_rfl
theorem nt64 : nilTy Try.prog 64 = 2 := by kernel_rfl
theorem nt65 : nilTy Try.prog 65 = 0 := by kernel_rfl
theorem nt66 : nilTy Try.prog 66 = 0 := by kernel_rfl
theorem nt67 : nilTy Try.prog 67 = 3 := by kernel_rfl
theorem nt68 : nilTy Try.prog 68 = 0 := by kernel_rfl
theorem nt69 : nilTy Try.prog 69 = 0 := by kernel_rfl
theorem nt70 : nilTy Try.prog 70 = 1 := by kernel_rfl
theorem nt71 : nilTy Try.prog 71 = 3 := by kernel_rfl
theorem nt72 : nilTy Try.prog 72 = 3 := by kernel_rfl
theorem nt73 : nilTy Try.prog 73 = 3 := by kernel_rfl
theorem nt74 : nilTy Try.prog 74 = 3 := by kernel_rfl
theorem nt75 : nilTy Try.prog 75 = 3 := by kernel_rfl
theorem nt76 : nilTy Try.prog 76 = 3 := by kernel_rfl
theorem nt77 : nilTy Try.prog 77 = 3 := by kernel_rfl
theorem nt78 : nilTy Try.prog 78 = 2 := by kernel_rfl
theorem nt79 : nilTy Try.prog 79 = 3 := by kernel_rfl
theorem nt80 : nilTy Try.prog 80 = 3 := by kernel_rfl
theorem nt81 : nilTy Try.prog 81 = 3 := by kernel_rfl
theorem nt82 : nilTy Try.prog 82 = 3 := by kernel_rfl
theorem nt83 : nilTy Try.prog 83 = 3 := by kernel_rfl
theorem nt84 : nilTy Try.prog 84 = 2 := by kernel_rfl
theorem nt85 : nilTy Try.prog 85 = 0 := by kernel_rfl
theorem nt86 : nilTy Try.prog 86 = 2 := by kernel_rfl
theorem nt87 : nilTy Try.prog 87 = 0 := by kernel_rfl
theorem nt88 : nilTy Try.prog 88 = 0 := by kernel_rfl
theorem nt89 : nilTy Try.prog 89 = 0 := by kernel_rfl
theorem nt90 : nilTy Try.prog 90 = 0 := by kernel_rfl
theorem nt91 : nilTy Try.prog 91 = 0 := by kernel_rfl
theorem nt92 : nilTy Try.prog 92 = 3 := by kernel_rfl
theorem nt93 : nilTy Try.prog 93 = 3 := by kernel_rfl
theorem nt94 : nilTy Try.prog 94 = 3 := by kernel_rfl
theorem nt95 : nilTy Try.prog 95 = 3 := by kernel_rfl
theorem nt96 : nilTy Try.prog 96 = 3 := by kernel_rfl
theorem nt97 : nilTy Try.prog 97 = 0 := by kernel_rfl
theorem nt98 : nilTy Try.prog 98 = 0 := by kernel_rfl
theorem nt99 : nilTy Try.prog 99 = 3 := by kernel_rfl
theorem nt100 : nilTy Try.prog 100 = 3 := by kernel_rfl
theorem nt101 : nilTy Try.prog 101 = 3 := by kernel_rfl
theorem nt102 : nilTy Try.prog 102 = 3 := by kernel_rfl
theorem nt103 : nilTy Try.prog 103 = 3 := by kernel_rfl
theorem nt104 : nilTy Try.prog 104 = 0 := by kernel_rfl
theorem nt105 : nilTy Try.prog 105 = 0 := by kernel_rfl
theorem nt106 : nilTy Try.prog 106 = 0 := by kernel_rfl
theorem nt107 : nilTy Try.prog 107 = 0 := by kernel_rfl
theorem nt108 : nilTy Try.prog 108 = 3 := by kernel_rfl
theorem nt109 : nilTy Try.prog 109 = 3 := by kernel_rfl
theorem nt110 : nilTy Try.prog 110 = 4 := by kernel_rfl
theorem nt111 : nilTy Try.prog 111 = 0 := by kernel_rfl
theorem nt112 : nilTy Try.prog 112 = 3 := by kernel_rfl
theorem nt113 : nilTy Try.prog 113 = 3 := by kernel_rfl
theorem nt114 : nilTy Try.prog 114 = 3 := by kernel_rfl
theorem nt115 : nilTy Try.prog 115 = 3 := by kernel_rfl
theorem nt116 : nilTy Try.prog 116 = 0 := by kernel_rfl
theorem nt117 : nilTy Try.prog 117 = 0 := by kernel_rfl
theorem nt118 : nilTy Try.prog 118 = 0 := by kernel_rfl
theorem nt119 : nilTy Try.prog 119 = 0 := by kernel_rfl
theorem nt120 : nilTy Try.prog 120 = 0 := by kernel_rfl
theorem nt121 : nilTy Try.prog 121 = 0 := by kernel_rfl
theorem nt122 : nilTy Try.prog 122 = 0 := by kernel_rfl
theorem nt123 : nilTy Try.prog 123 = 0 := by kernel_rfl
theorem nt124 : nilTy Try.prog 124 = 3 := by kernel_rfl
theorem nt125 : nilTy Try.prog 125 = 1 := by kernel_rfl
theorem nt126 : nilTy Try.prog 126 = 0 := by kernel_rfl
theorem nt127 : nilTy Try.prog 127 = 0 := by kernel_rfl
theorem nt128 : nilTy Try.prog 128 = 0 := by kernel_rfl
theorem nt129 : nilTy Try.prog 129 = 0 := by kernel_rfl
theorem nt130 : nilTy Try.prog 130 = 0 := by kernel_rfl
theorem ap22 : appI Try.prog 22 = some (41, 4, 32) := by kernel_rfl
theorem ap49 : appI Try.prog 49 = some (3, 1, 8) := by kernel_rfl
theorem ap50 : appI Try.prog 50 = some (22, 1, 24) := by kernel_rfl
theorem ap56 : appI Try.prog 56 = some (69, 6, 96) := by kernel_rfl
theorem ap63 : appI Try.prog 63 = some (90, 6, 112) := by kernel_rfl
theorem ap64 : appI Try.prog 64 = some (98, 2, 16) := by kernel_rfl
theorem ap78 : appI Try.prog 78 = some (41, 4, 32) := by kernel_rfl
theorem ap84 : appI Try.prog 84 = some (39, 2, 16) := by kernel_rfl
theorem ap86 : appI Try.prog 86 = some (107, 6, 48) := by kernel_rfl
theorem fnok2 : fnOK Try.prog 2 = true := by kernel_rfl
theorem fnok3 : fnOK Try.prog 3 = true := by kernel_rfl
theorem fnok4 : fnOK Try.prog 4 = true := by kernel_rfl
theorem fnok5 : fnOK Try.prog 5 = true := by kernel_rfl
theorem fnok6 : fnOK Try.prog 6 = true := by kernel_rfl
theorem fnok7 : fnOK Try.prog 7 = true := by kernel_rfl
theorem fnok8 : fnOK Try.prog 8 = true := by kernel_rfl
theorem fnok9 : fnOK Try.prog 9 = true := by kernel_rfl
theorem fnok10 : fnOK Try.prog 10 = true := by kernel_rfl
theorem fnok11 : fnOK Try.prog 11 = true := by kernel_rfl
theorem fnok12 : fnOK Try.prog 12 = true := by kernel_rfl
theorem fnok13 : fnOK Try.prog 13 = true := by kernel_rfl
theorem fnok14 : fnOK Try.prog 14 = true := by kernel_rfl
theorem fnok15 : fnOK Try.prog 15 = true := by kernel_rfl
theorem fnok16 : fnOK Try.prog 16 = true := by kernel_rfl
theorem fnok17 : fnOK Try.prog 17 = true := by kernel_rfl
theorem fnok18 : fnOK Try.prog 18 = true := by kernel_rfl
theorem fnok19 : fnOK Try.prog 19 = true := by kernel_rfl
theorem fnok20 : fnOK Try.prog 20 = true := by kernel_rfl
theorem fnok21 : fnOK Try.prog 21 = true := by kernel_rfl
theorem fnok22 : fnOK Try.prog 22 = true := by kernel_rfl
theorem fnok23 : fnOK Try.prog 23 = true := by kernel_rfl
theorem fnok24 : fnOK Try.prog 24 = true := by kernel_rfl
theorem fnok25 : fnOK Try.prog 25 = true := by kernel_rfl
theorem fnok26 : fnOK Try.prog 26 = true := by kernel_rfl
theorem fnok27 : fnOK Try.prog 27 = true := by kernel_rfl
theorem fnok28 : fnOK Try.prog 28 = true := by kernel_rfl
theorem fnok29 : fnOK Try.prog 29 = true := by kernel_rfl
theorem fnok30 : fnOK Try.prog 30 = true := by kernel_rfl
theorem fnok31 : fnOK Try.prog 31 = true := by kernel_rfl
theorem fnok32 : fnOK Try.prog 32 = true := by kernel_rfl
theorem fnok33 : fnOK Try.prog 33 = true := by kernel_rfl
theorem fnok34 : fnOK Try.prog 34 = true := by kernel_rfl
theorem fnok35 : fnOK Try.prog 35 = true := by kernel_rfl
theorem fnok36 : fnOK Try.prog 36 = true := by kernel_rfl
theorem fnok37 : fnOK Try.prog 37 = true := by kernel_rfl
theorem fnok38 : fnOK Try.prog 38 = true := by kernel_rfl
theorem fnok39 : fnOK Try.prog 39 = true := by kernel_rfl
theorem fnok40 : fnOK Try.prog 40 = true := by kernel_rfl
theorem fnok41 : fnOK Try.prog 41 = true := by kernel_rfl
theorem fnok42 : fnOK Try.prog 42 = true := by kernel_rfl
theorem fnok43 : fnOK Try.prog 43 = true := by kernel_rfl
theorem fnok44 : fnOK Try.prog 44 = true := by kernel_rfl
theorem fnok45 : fnOK Try.prog 45 = true := by kernel_rfl
theorem fnok46 : fnOK Try.prog 46 = true := by kernel_rfl
theorem fnok47 : fnOK Try.prog 47 = true := by kernel_rfl
theorem fnok48 : fnOK Try.prog 48 = true := by kernel_rfl
theorem fnok49 : fnOK Try.prog 49 = true := by kernel_rfl
theorem fnok50 : fnOK Try.prog 50 = true := by kernel_rfl
theorem fnok51 : fnOK Try.prog 51 = true := by kernel_rfl
theorem fnok52 : fnOK Try.prog 52 = true := by kernel_rfl
theorem fnok53 : fnOK Try.prog 53 = true := by kernel_rfl
theorem fnok54 : fnOK Try.prog 54 = true := by kernel_rfl
theorem fnok55 : fnOK Try.prog 55 = true := by kernel_rfl
theorem fnok56 : fnOK Try.prog 56 = true := by kernel_rfl
theorem fnok57 : fnOK Try.prog 57 = true := by kernel_rfl
theorem fnok58 : fnOK Try.prog 58 = true := by kernel_rfl
theorem eqI38 (d : Nat) (w : World) (a0 b0 : Int) (a1 b1 : Int) : (Op.equalIn (d + 2) 38 (.agg #[.int .i64 a0, .int .i64 a1]) (.agg #[.int .i64 b0, .int .i64 b1])).run Try.prog w = .ok ((a0 == b0) && ((a1 == b1))) w := by
  refine (eqA_struct (d := d + 1) (r := (a0 == b0) && ((a1 == b1) && true)) Try.underlying38 (by kernel_rfl) ?_).trans (by simp only [Bool.and_true, Bool.and_assoc])
  refine eqF_cons (by decide) (part_one Try.underlying37 rfl w _ _ rfl) (part_one Try.underlying37 rfl w _ _ rfl) (eqL_int Try.underlying37 d w a0 b0) ?_
  refine eqF_cons (by decide) (part_one Try.underlying3 rfl w _ _ rfl) (part_one Try.underlying3 rfl w _ _ rfl) (eqL_int Try.underlying3 d w a1 b1) ?_
  exact eqF_nil w
theorem eq38 {a0 b0 : Int} {a1 b1 : Int} : EqT Try.prog 38 [.int .i64 a0, .int .i64 a1] [.int .i64 b0, .int .i64 b1] := fun b h => by
  simp only [eqVs, eqV, Option.some.injEq] at h
  subst h
  exact eqS_of (by kernel_rfl) fun d w => eqI38 (d + 6) w a0 b0 a1 b1
theorem eqI39 (d : Nat) (w : World) (a0 b0 : Int) (a1 b1 : Int) : (Op.equalIn (d + 2) 39 (.agg #[.int .i64 a0, .int .i64 a1]) (.agg #[.int .i64 b0, .int .i64 b1])).run Try.prog w = .ok ((a0 == b0) && ((a1 == b1))) w := by
  refine (eqA_struct (d := d + 1) (r := (a0 == b0) && ((a1 == b1) && true)) Try.underlying39 (by kernel_rfl) ?_).trans (by simp only [Bool.and_true, Bool.and_assoc])
  refine eqF_cons (by decide) (part_one Try.underlying37 rfl w _ _ rfl) (part_one Try.underlying37 rfl w _ _ rfl) (eqL_int Try.underlying37 d w a0 b0) ?_
  refine eqF_cons (by decide) (part_one Try.underlying3 rfl w _ _ rfl) (part_one Try.underlying3 rfl w _ _ rfl) (eqL_int Try.underlying3 d w a1 b1) ?_
  exact eqF_nil w
theorem eq39 {a0 b0 : Int} {a1 b1 : Int} : EqT Try.prog 39 [.int .i64 a0, .int .i64 a1] [.int .i64 b0, .int .i64 b1] := fun b h => by
  simp only [eqVs, eqV, Option.some.injEq] at h
  subst h
  exact eqS_of (by kernel_rfl) fun d w => eqI39 (d + 6) w a0 b0 a1 b1
theorem eqI40 (d : Nat) (w : World) (a0 b0 : Int) (a1 b1 : Bool) (a2 b2 : Int) (a3 b3 : Int) : (Op.equalIn (d + 3) 40 (.agg #[.int .i64 a0, .bool a1, .int .i64 a2, .int .i64 a3]) (.agg #[.int .i64 b0, .bool b1, .int .i64 b2, .int .i64 b3])).run Try.prog w = .ok ((a0 == b0) && ((a1 == b1) && ((a2 == b2) && ((a3 == b3))))) w := by
  refine (eqA_struct (d := d + 2) (r := (a0 == b0) && ((a1 == b1) && (((a2 == b2) && ((a3 == b3))) && true))) Try.underlying40 (by kernel_rfl) ?_).trans (by simp only [Bool.and_true, Bool.and_assoc])
  refine eqF_cons (by decide) (part_one Try.underlying36 rfl w _ _ rfl) (part_one Try.underlying36 rfl w _ _ rfl) (eqL_int Try.underlying36 (d + 1) w a0 b0) ?_
  refine eqF_cons (by decide) (part_one Try.underlying4 rfl w _ _ rfl) (part_one Try.underlying4 rfl w _ _ rfl) (eqL_bool Try.underlying4 (d + 1) w a1 b1) ?_
  refine eqF_cons (by decide) (part_agg (n := 2) Try.underlying39 rfl (by kernel_rfl) w _ _ #[.int .i64 a2, .int .i64 a3] (by kernel_rfl)) (part_agg (n := 2) Try.underlying39 rfl (by kernel_rfl) w _ _ #[.int .i64 b2, .int .i64 b3] (by kernel_rfl)) (eqI39 d w a2 b2 a3 b3) ?_
  exact eqF_nil w
theorem eq40 {a0 b0 : Int} {a1 b1 : Bool} {a2 b2 : Int} {a3 b3 : Int} : EqT Try.prog 40 [.int .i64 a0, .bool a1, .int .i64 a2, .int .i64 a3] [.int .i64 b0, .bool b1, .int .i64 b2, .int .i64 b3] := fun b h => by
  simp only [eqVs, eqV, Option.some.injEq] at h
  subst h
  exact eqS_of (by kernel_rfl) fun d w => eqI40 (d + 5) w a0 b0 a1 b1 a2 b2 a3 b3
theorem eqI41 (d : Nat) (w : World) (a0 b0 : Int) (a1 b1 : Bool) (a2 b2 : Int) (a3 b3 : Int) : (Op.equalIn (d + 3) 41 (.agg #[.int .i64 a0, .bool a1, .int .i64 a2, .int .i64 a3]) (.agg #[.int .i64 b0, .bool b1, .int .i64 b2, .int .i64 b3])).run Try.prog w = .ok ((a0 == b0) && ((a1 == b1) && ((a2 == b2) && ((a3 == b3))))) w := by
  refine (eqA_struct (d := d + 2) (r := (a0 == b0) && ((a1 == b1) && (((a2 == b2) && ((a3 == b3))) && true))) Try.underlying41 (by kernel_rfl) ?_).trans (by simp only [Bool.and_true, Bool.and_assoc])
  refine eqF_cons (by decide) (part_one Try.underlying36 rfl w _ _ rfl) (part_one Try.underlying36 rfl w _ _ rfl) (eqL_int Try.underlying36 (d + 1) w a0 b0) ?_
  refine eqF_cons (by decide) (part_one Try.underlying4 rfl w _ _ rfl) (part_one Try.underlying4 rfl w _ _ rfl) (eqL_bool Try.underlying4 (d + 1) w a1 b1) ?_
  refine eqF_cons (by decide) (part_agg (n := 2) Try.underlying39 rfl (by kernel_rfl) w _ _ #[.int .i64 a2, .int .i64 a3] (by kernel_rfl)) (part_agg (n := 2) Try.underlying39 rfl (by kernel_rfl) w _ _ #[.int .i64 b2, .int .i64 b3] (by kernel_rfl)) (eqI39 d w a2 b2 a3 b3) ?_
  exact eqF_nil w
theorem eq41 {a0 b0 : Int} {a1 b1 : Bool} {a2 b2 : Int} {a3 b3 : Int} : EqT Try.prog 41 [.int .i64 a0, .bool a1, .int .i64 a2, .int .i64 a3] [.int .i64 b0, .bool b1, .int .i64 b2, .int .i64 b3] := fun b h => by
  simp only [eqVs, eqV, Option.some.injEq] at h
  subst h
  exact eqS_of (by kernel_rfl) fun d w => eqI41 (d + 5) w a0 b0 a1 b1 a2 b2 a3 b3
theorem eqI97 (d : Nat) (w : World) (a0 b0 : Int) (a1 b1 : Int) : (Op.equalIn (d + 2) 97 (.agg #[.int .i64 a0, .int .i64 a1]) (.agg #[.int .i64 b0, .int .i64 b1])).run Try.prog w = .ok ((a0 == b0) && ((a1 == b1))) w := by
  refine (eqA_struct (d := d + 1) (r := (a0 == b0) && ((a1 == b1) && true)) Try.underlying97 (by kernel_rfl) ?_).trans (by simp only [Bool.and_true, Bool.and_assoc])
  refine eqF_cons (by decide) (part_one Try.underlying3 rfl w _ _ rfl) (part_one Try.underlying3 rfl w _ _ rfl) (eqL_int Try.underlying3 d w a0 b0) ?_
  refine eqF_cons (by decide) (part_one Try.underlying3 rfl w _ _ rfl) (part_one Try.underlying3 rfl w _ _ rfl) (eqL_int Try.underlying3 d w a1 b1) ?_
  exact eqF_nil w
theorem eq97 {a0 b0 : Int} {a1 b1 : Int} : EqT Try.prog 97 [.int .i64 a0, .int .i64 a1] [.int .i64 b0, .int .i64 b1] := fun b h => by
  simp only [eqVs, eqV, Option.some.injEq] at h
  subst h
  exact eqS_of (by kernel_rfl) fun d w => eqI97 (d + 6) w a0 b0 a1 b1
theorem eqI98 (d : Nat) (w : World) (a0 b0 : Int) (a1 b1 : Int) : (Op.equalIn (d + 2) 98 (.agg #[.int .i64 a0, .int .i64 a1]) (.agg #[.int .i64 b0, .int .i64 b1])).run Try.prog w = .ok ((a0 == b0) && ((a1 == b1))) w := by
  refine (eqA_struct (d := d + 1) (r := (a0 == b0) && ((a1 == b1) && true)) Try.underlying98 (by kernel_rfl) ?_).trans (by simp only [Bool.and_true, Bool.and_assoc])
  refine eqF_cons (by decide) (part_one Try.underlying3 rfl w _ _ rfl) (part_one Try.underlying3 rfl w _ _ rfl) (eqL_int Try.underlying3 d w a0 b0) ?_
  refine eqF_cons (by decide) (part_one Try.underlying3 rfl w _ _ rfl) (part_one Try.underlying3 rfl w _ _ rfl) (eqL_int Try.underlying3 d w a1 b1) ?_
  exact eqF_nil w
theorem eq98 {a0 b0 : Int} {a1 b1 : Int} : EqT Try.prog 98 [.int .i64 a0, .int .i64 a1] [.int .i64 b0, .int .i64 b1] := fun b h => by
  simp only [eqVs, eqV, Option.some.injEq] at h
  subst h
  exact eqS_of (by kernel_rfl) fun d w => eqI98 (d + 6) w a0 b0 a1 b1
theorem eqI104 (d : Nat) (w : World) (a0 b0 : Int) (a1 b1 : Int) (a2 b2 : Bool) (a3 b3 : Int) (a4 b4 : Int) : (Op.equalIn (d + 4) 104 (.agg #[.int .i64 a0, .int .i64 a1, .bool a2, .int .i64 a3, .int .i64 a4]) (.agg #[.int .i64 b0, .int .i64 b1, .bool b2, .int .i64 b3, .int .i64 b4])).run Try.prog w = .ok ((a0 == b0) && ((a1 == b1) && ((a2 == b2) && ((a3 == b3) && ((a4 == b4)))))) w := by
  refine (eqA_struct (d := d + 3) (r := (a0 == b0) && (((a1 == b1) && ((a2 == b2) && ((a3 == b3) && ((a4 == b4))))) && true)) Try.underlying104 (by kernel_rfl) ?_).trans (by simp only [Bool.and_true, Bool.and_assoc])
  refine eqF_cons (by decide) (part_one Try.underlying3 rfl w _ _ rfl) (part_one Try.underlying3 rfl w _ _ rfl) (eqL_int Try.underlying3 (d + 2) w a0 b0) ?_
  refine eqF_cons (by decide) (part_agg (n := 4) Try.underlying41 rfl (by kernel_rfl) w _ _ #[.int .i64 a1, .bool a2, .int .i64 a3, .int .i64 a4] (by kernel_rfl)) (part_agg (n := 4) Try.underlying41 rfl (by kernel_rfl) w _ _ #[.int .i64 b1, .bool b2, .int .i64 b3, .int .i64 b4] (by kernel_rfl)) (eqI41 d w a1 b1 a2 b2 a3 b3 a4 b4) ?_
  exact eqF_nil w
theorem eq104 {a0 b0 : Int} {a1 b1 : Int} {a2 b2 : Bool} {a3 b3 : Int} {a4 b4 : Int} : EqT Try.prog 104 [.int .i64 a0, .int .i64 a1, .bool a2, .int .i64 a3, .int .i64 a4] [.int .i64 b0, .int .i64 b1, .bool b2, .int .i64 b3, .int .i64 b4] := fun b h => by
  simp only [eqVs, eqV, Option.some.injEq] at h
  subst h
  exact eqS_of (by kernel_rfl) fun d w => eqI104 (d + 4) w a0 b0 a1 b1 a2 b2 a3 b3 a4 b4
theorem eqI105 (d : Nat) (w : World) (a0 b0 : Int) (a1 b1 : Int) (a2 b2 : Bool) (a3 b3 : Int) (a4 b4 : Int) : (Op.equalIn (d + 4) 105 (.agg #[.int .i64 a0, .int .i64 a1, .bool a2, .int .i64 a3, .int .i64 a4]) (.agg #[.int .i64 b0, .int .i64 b1, .bool b2, .int .i64 b3, .int .i64 b4])).run Try.prog w = .ok ((a0 == b0) && ((a1 == b1) && ((a2 == b2) && ((a3 == b3) && ((a4 == b4)))))) w := by
  refine (eqA_struct (d := d + 3) (r := (a0 == b0) && (((a1 == b1) && ((a2 == b2) && ((a3 == b3) && ((a4 == b4))))) && true)) Try.underlying105 (by kernel_rfl) ?_).trans (by simp only [Bool.and_true, Bool.and_assoc])
  refine eqF_cons (by decide) (part_one Try.underlying3 rfl w _ _ rfl) (part_one Try.underlying3 rfl w _ _ rfl) (eqL_int Try.underlying3 (d + 2) w a0 b0) ?_
  refine eqF_cons (by decide) (part_agg (n := 4) Try.underlying41 rfl (by kernel_rfl) w _ _ #[.int .i64 a1, .bool a2, .int .i64 a3, .int .i64 a4] (by kernel_rfl)) (part_agg (n := 4) Try.underlying41 rfl (by kernel_rfl) w _ _ #[.int .i64 b1, .bool b2, .int .i64 b3, .int .i64 b4] (by kernel_rfl)) (eqI41 d w a1 b1 a2 b2 a3 b3 a4 b4) ?_
  exact eqF_nil w
theorem eq105 {a0 b0 : Int} {a1 b1 : Int} {a2 b2 : Bool} {a3 b3 : Int} {a4 b4 : Int} : EqT Try.prog 105 [.int .i64 a0, .int .i64 a1, .bool a2, .int .i64 a3, .int .i64 a4] [.int .i64 b0, .int .i64 b1, .bool b2, .int .i64 b3, .int .i64 b4] := fun b h => by
  simp only [eqVs, eqV, Option.some.injEq] at h
  subst h
  exact eqS_of (by kernel_rfl) fun d w => eqI105 (d + 4) w a0 b0 a1 b1 a2 b2 a3 b3 a4 b4
theorem eqI106 (d : Nat) (w : World) (a0 b0 : Int) (a1 b1 : Int) (a2 b2 : Bool) (a3 b3 : Int) (a4 b4 : Int) (a5 b5 : Bool) : (Op.equalIn (d + 5) 106 (.agg #[.int .i64 a0, .int .i64 a1, .bool a2, .int .i64 a3, .int .i64 a4, .bool a5]) (.agg #[.int .i64 b0, .int .i64 b1, .bool b2, .int .i64 b3, .int .i64 b4, .bool b5])).run Try.prog w = .ok ((a0 == b0) && ((a1 == b1) && ((a2 == b2) && ((a3 == b3) && ((a4 == b4) && ((a5 == b5))))))) w := by
  refine (eqA_struct (d := d + 4) (r := ((a0 == b0) && ((a1 == b1) && ((a2 == b2) && ((a3 == b3) && ((a4 == b4)))))) && ((a5 == b5) && true)) Try.underlying106 (by kernel_rfl) ?_).trans (by simp only [Bool.and_true, Bool.and_assoc])
  refine eqF_cons (by decide) (part_agg (n := 5) Try.underlying105 rfl (by kernel_rfl) w _ _ #[.int .i64 a0, .int .i64 a1, .bool a2, .int .i64 a3, .int .i64 a4] (by kernel_rfl)) (part_agg (n := 5) Try.underlying105 rfl (by kernel_rfl) w _ _ #[.int .i64 b0, .int .i64 b1, .bool b2, .int .i64 b3, .int .i64 b4] (by kernel_rfl)) (eqI105 d w a0 b0 a1 b1 a2 b2 a3 b3 a4 b4) ?_
  refine eqF_cons (by decide) (part_one Try.underlying4 rfl w _ _ rfl) (part_one Try.underlying4 rfl w _ _ rfl) (eqL_bool Try.underlying4 (d + 3) w a5 b5) ?_
  exact eqF_nil w
theorem eq106 {a0 b0 : Int} {a1 b1 : Int} {a2 b2 : Bool} {a3 b3 : Int} {a4 b4 : Int} {a5 b5 : Bool} : EqT Try.prog 106 [.int .i64 a0, .int .i64 a1, .bool a2, .int .i64 a3, .int .i64 a4, .bool a5] [.int .i64 b0, .int .i64 b1, .bool b2, .int .i64 b3, .int .i64 b4, .bool b5] := fun b h => by
  simp only [eqVs, eqV, Option.some.injEq] at h
  subst h
  exact eqS_of (by kernel_rfl) fun d w => eqI106 (d + 3) w a0 b0 a1 b1 a2 b2 a3 b3 a4 b4 a5 b5
theorem eqI107 (d : Nat) (w : World) (a0 b0 : Int) (a1 b1 : Int) (a2 b2 : Bool) (a3 b3 : Int) (a4 b4 : Int) (a5 b5 : Bool) : (Op.equalIn (d + 5) 107 (.agg #[.int .i64 a0, .int .i64 a1, .bool a2, .int .i64 a3, .int .i64 a4, .bool a5]) (.agg #[.int .i64 b0, .int .i64 b1, .bool b2, .int .i64 b3, .int .i64 b4, .bool b5])).run Try.prog w = .ok ((a0 == b0) && ((a1 == b1) && ((a2 == b2) && ((a3 == b3) && ((a4 == b4) && ((a5 == b5))))))) w := by
  refine (eqA_struct (d := d + 4) (r := ((a0 == b0) && ((a1 == b1) && ((a2 == b2) && ((a3 == b3) && ((a4 == b4)))))) && ((a5 == b5) && true)) Try.underlying107 (by kernel_rfl) ?_).trans (by simp only [Bool.and_true, Bool.and_assoc])
  refine eqF_cons (by decide) (part_agg (n := 5) Try.underlying105 rfl (by kernel_rfl) w _ _ #[.int .i64 a0, .int .i64 a1, .bool a2, .int .i64 a3, .int .i64 a4] (by kernel_rfl)) (part_agg (n := 5) Try.underlying105 rfl (by kernel_rfl) w _ _ #[.int .i64 b0, .int .i64 b1, .bool b2, .int .i64 b3, .int .i64 b4] (by kernel_rfl)) (eqI105 d w a0 b0 a1 b1 a2 b2 a3 b3 a4 b4) ?_
  refine eqF_cons (by decide) (part_one Try.underlying4 rfl w _ _ rfl) (part_one Try.underlying4 rfl w _ _ rfl) (eqL_bool Try.underlying4 (d + 3) w a5 b5) ?_
  exact eqF_nil w
theorem eq107 {a0 b0 : Int} {a1 b1 : Int} {a2 b2 : Bool} {a3 b3 : Int} {a4 b4 : Int} {a5 b5 : Bool} : EqT Try.prog 107 [.int .i64 a0, .int .i64 a1, .bool a2, .int .i64 a3, .int .i64 a4, .bool a5] [.int .i64 b0, .int .i64 b1, .bool b2, .int .i64 b3, .int .i64 b4, .bool b5] := fun b h => by
  simp only [eqVs, eqV, Option.some.injEq] at h
  subst h
  exact eqS_of (by kernel_rfl) fun d w => eqI107 (d + 3) w a0 b0 a1 b1 a2 b2 a3 b3 a4 b4 a5 b5
/-- All of them. -/
theorem TY : type_of% (And.intro (And.intro (And.intro (And.intro (And.intro (And.intro (And.intro (And.intro @ty1 (And.intro @ty2 @ty3)) (And.intro @ty4 (And.intro @ty5 @ty6))) (And.intro (And.intro @ty7 (And.intro @ty8 @ty9)) (And.intro @ty10 (And.intro @ty11 @ty12)))) (And.intro (And.intro (And.intro @ty13 (And.intro @ty14 @ty15)) (And.intro @ty16 (And.intro @ty17 @ty18))) (And.intro (And.intro @ty19 (And.intro @ty20 @ty21)) (And.intro @ty22 (And.intro @ty23 @ty24))))) (And.intro (And.intro (And.intro (And.intro @ty25 (And.intro @ty26 @ty27)) (And.intro @ty28 (And.intro @ty29 @ty30))) (And.intro (And.intro @ty31 (And.intro @ty32 @ty33)) (And.intro @ty34 (And.intro @ty35 @ty36)))) (And.intro (And.intro (And.intro @ty37 (And.intro @ty38 @ty39)) (And.intro @ty40 (And.intro @ty41 @ty43))) (And.intro (And.intro @ty45 (And.intro @ty46 @ty47)) (And.intro @ty48 (And.intro @ty49 @ty50)))))) (And.intro (And.intro (And.intro (And.intro (And.intro @ty51 (And.intro @ty53 @ty54)) (And.intro @ty55 (And.intro @ty56 @ty57))) (And.intro (And.intro @ty58 (And.intro @ty59 @ty60)) (And.intro @ty61 (And.intro @ty62 @ty63)))) (And.intro (And.intro (And.intro @ty64 (And.intro @ty65 @ty66)) (And.intro @ty67 (And.intro @ty68 @ty69))) (And.intro (And.intro @ty70 (And.intro @ty71 @ty72)) (And.intro @ty73 (And.intro @ty74 @ty75))))) (And.intro (And.intro (And.intro (And.intro @ty76 (And.intro @ty77 @ty78)) (And.intro @ty79 (And.intro @ty80 @ty81))) (And.intro (And.intro @ty82 (And.intro @ty83 @ty84)) (And.intro @ty85 (And.intro @ty86 @ty87)))) (And.intro (And.intro (And.intro @ty88 (And.intro @ty89 @ty90)) (And.intro @ty92 (And.intro @ty93 @ty94))) (And.intro (And.intro @ty95 (And.intro @ty96 @ty97)) (And.intro @ty98 (And.intro @ty99 @ty100))))))) (And.intro (And.intro (And.intro (And.intro (And.intro (And.intro @ty101 (And.intro @ty102 @ty103)) (And.intro @ty104 (And.intro @ty105 @ty106))) (And.intro (And.intro @ty107 (And.intro @ty108 @ty109)) (And.intro @ty110 (And.intro @ty112 @ty113)))) (And.intro (And.intro (And.intro @ty114 (And.intro @ty115 @ty116)) (And.intro @ty117 (And.intro @ty118 @ty119))) (And.intro (And.intro @ty120 (And.intro @ty121 @ty122)) (And.intro @ty123 (And.intro @ty124 @ty125))))) (And.intro (And.intro (And.intro (And.intro @ty126 (And.intro @ty127 @ty128)) (And.intro @ty129 (And.intro @fl7_0 @fl7_1))) (And.intro (And.intro @fl7_2 (And.intro @fl7_3 @fl8_0)) (And.intro @fl8_1 (And.intro @fl8_2 @fl8_3)))) (And.intro (And.intro (And.intro @fl13_0 (And.intro @fl13_1 @fl14_0)) (And.intro @fl14_1 (And.intro @fl18_0 @fl19_0))) (And.intro (And.intro @fl38_0 (And.intro @fl38_1 @fl39_0)) (And.intro @fl39_1 (And.intro @fl40_0 @fl40_1)))))) (And.intro (And.intro (And.intro (And.intro (And.intro @fl40_2 (And.intro @fl41_0 @fl41_1)) (And.intro @fl41_2 (And.intro @fl57_0 @fl57_1))) (And.intro (And.intro @fl57_2 (And.intro @fl58_0 @fl58_1)) (And.intro @fl58_2 (And.intro @fl65_0 @fl65_1)))) (And.intro (And.intro (And.intro @fl65_2 (And.intro @fl66_0 @fl66_1)) (And.intro @fl66_2 (And.intro @fl68_0 @fl68_1))) (And.intro (And.intro @fl68_2 (And.intro @fl68_3 @fl68_4)) (And.intro @fl68_5 (And.intro @fl69_0 @fl69_1))))) (And.intro (And.intro (And.intro (And.intro @fl69_2 (And.intro @fl69_3 @fl69_4)) (And.intro @fl69_5 (And.intro @fl87_0 @fl87_1))) (And.intro (And.intro @fl87_2 (And.intro @fl87_3 @fl88_0)) (And.intro @fl88_1 (And.intro @fl88_2 @fl88_3)))) (And.intro (And.intro (And.intro @fl89_0 (And.intro @fl89_1 @fl89_2)) (And.intro @fl90_0 (And.intro @fl90_1 @fl90_2))) (And.intro (And.intro @fl97_0 (And.intro @fl97_1 @fl98_0)) (And.intro (And.intro @fl98_1 @fl104_0) (And.intro @fl104_1 @fl105_0)))))))) (And.intro (And.intro (And.intro (And.intro (And.intro (And.intro (And.intro @fl105_1 (And.intro @fl106_0 @fl106_1)) (And.intro @fl107_0 (And.intro @fl107_1 @fl116_0))) (And.intro (And.intro @fl116_1 (And.intro @fl116_2 @fl116_3)) (And.intro @fl117_0 (And.intro @fl117_1 @fl117_2)))) (And.intro (And.intro (And.intro @fl117_3 (And.intro @fl119_0 @fl120_0)) (And.intro @fl128_0 (And.intro @fl128_1 @fl128_2))) (And.intro (And.intro @fl128_3 (And.intro @fl128_4 @fl128_5)) (And.intro @fl128_6 (And.intro @fl128_7 @fl128_8))))) (And.intro (And.intro (And.intro (And.intro @fl128_9 (And.intro @fl128_10 @fl129_0)) (And.intro @fl129_1 (And.intro @fl129_2 @fl129_3))) (And.intro (And.intro @fl129_4 (And.intro @fl129_5 @fl129_6)) (And.intro @fl129_7 (And.intro @fl129_8 @fl129_9)))) (And.intro (And.intro (And.intro @fl129_10 (And.intro @nt0 @nt1)) (And.intro @nt2 (And.intro @nt3 @nt4))) (And.intro (And.intro @nt5 (And.intro @nt6 @nt7)) (And.intro @nt8 (And.intro @nt9 @nt10)))))) (And.intro (And.intro (And.intro (And.intro (And.intro @nt11 (And.intro @nt12 @nt13)) (And.intro @nt14 (And.intro @nt15 @nt16))) (And.intro (And.intro @nt17 (And.intro @nt18 @nt19)) (And.intro @nt20 (And.intro @nt21 @nt22)))) (And.intro (And.intro (And.intro @nt23 (And.intro @nt24 @nt25)) (And.intro @nt26 (And.intro @nt27 @nt28))) (And.intro (And.intro @nt29 (And.intro @nt30 @nt31)) (And.intro @nt32 (And.intro @nt33 @nt34))))) (And.intro (And.intro (And.intro (And.intro @nt35 (And.intro @nt36 @nt37)) (And.intro @nt38 (And.intro @nt39 @nt40))) (And.intro (And.intro @nt41 (And.intro @nt42 @nt43)) (And.intro @nt44 (And.intro @nt45 @nt46)))) (And.intro (And.intro (And.intro @nt47 (And.intro @nt48 @nt49)) (And.intro @nt50 (And.intro @nt51 @nt52))) (And.intro (And.intro @nt53 (And.intro @nt54 @nt55)) (And.intro @nt56 (And.intro @nt57 @nt58))))))) (And.intro (And.intro (And.intro (And.intro (And.intro (And.intro @nt59 (And.intro @nt60 @nt61)) (And.intro @nt62 (And.intro @nt63 @nt64))) (And.intro (And.intro @nt65 (And.intro @nt66 @nt67)) (And.intro @nt68 (And.intro @nt69 @nt70)))) (And.intro (And.intro (And.intro @nt71 (And.intro @nt72 @nt73)) (And.intro @nt74 (And.intro @nt75 @nt76))) (And.intro (And.intro @nt77 (And.intro @nt78 @nt79)) (And.intro @nt80 (And.intro @nt81 @nt82))))) (And.intro (And.intro (And.intro (And.intro @nt83 (And.intro @nt84 @nt85)) (And.intro @nt86 (And.intro @nt87 @nt88))) (And.intro (And.intro @nt89 (And.intro @nt90 @nt91)) (And.intro @nt92 (And.intro @nt93 @nt94)))) (And.intro (And.intro (And.intro @nt95 (And.intro @nt96 @nt97)) (And.intro @nt98 (And.intro @nt99 @nt100))) (And.intro (And.intro @nt101 (And.intro @nt102 @nt103)) (And.intro @nt104 (And.intro @nt105 @nt106)))))) (And.intro (And.intro (And.intro (And.intro (And.intro @nt107 (And.intro @nt108 @nt109)) (And.intro @nt110 (And.intro @nt111 @nt112))) (And.intro (And.intro @nt113 (And.intro @nt114 @nt115)) (And.intro @nt116 (And.intro @nt117 @nt118)))) (And.intro (And.intro (And.intro @nt119 (And.intro @nt120 @nt121)) (And.intro @nt122 (And.intro @nt123 @nt124))) (And.intro (And.intro @nt125 (And.intro @nt126 @nt127)) (And.intro @nt128 (And.intro @nt129 @nt130))))) (And.intro (And.intro (And.intro (And.intro @eq38 (And.intro @eq39 @eq40)) (And.intro @eq41 (And.intro @eq97 @eq98))) (And.intro (And.intro @eq104 (And.intro @eq105 @eq106)) (And.intro @eq107 (And.intro @Try.underlying4 @Try.underlying9)))) (And.intro (And.intro (And.intro @Try.underlying10 (And.intro @Try.underlying11 @Try.underlying22)) (And.intro @Try.underlying49 (And.intro @Try.underlying50 @Try.underlying56))) (And.intro (And.intro @Try.underlying62 (And.intro @Try.underlying63 @Try.underlying64)) (And.intro (And.intro @Try.underlying78 @Try.underlying84) (And.intro @Try.underlying86 @Try.underlying110))))))))) := (And.intro (And.intro (And.intro (And.intro (And.intro (And.intro (And.intro (And.intro @ty1 (And.intro @ty2 @ty3)) (And.intro @ty4 (And.intro @ty5 @ty6))) (And.intro (And.intro @ty7 (And.intro @ty8 @ty9)) (And.intro @ty10 (And.intro @ty11 @ty12)))) (And.intro (And.intro (And.intro @ty13 (And.intro @ty14 @ty15)) (And.intro @ty16 (And.intro @ty17 @ty18))) (And.intro (And.intro @ty19 (And.intro @ty20 @ty21)) (And.intro @ty22 (And.intro @ty23 @ty24))))) (And.intro (And.intro (And.intro (And.intro @ty25 (And.intro @ty26 @ty27)) (And.intro @ty28 (And.intro @ty29 @ty30))) (And.intro (And.intro @ty31 (And.intro @ty32 @ty33)) (And.intro @ty34 (And.intro @ty35 @ty36)))) (And.intro (And.intro (And.intro @ty37 (And.intro @ty38 @ty39)) (And.intro @ty40 (And.intro @ty41 @ty43))) (And.intro (And.intro @ty45 (And.intro @ty46 @ty47)) (And.intro @ty48 (And.intro @ty49 @ty50)))))) (And.intro (And.intro (And.intro (And.intro (And.intro @ty51 (And.intro @ty53 @ty54)) (And.intro @ty55 (And.intro @ty56 @ty57))) (And.intro (And.intro @ty58 (And.intro @ty59 @ty60)) (And.intro @ty61 (And.intro @ty62 @ty63)))) (And.intro (And.intro (And.intro @ty64 (And.intro @ty65 @ty66)) (And.intro @ty67 (And.intro @ty68 @ty69))) (And.intro (And.intro @ty70 (And.intro @ty71 @ty72)) (And.intro @ty73 (And.intro @ty74 @ty75))))) (And.intro (And.intro (And.intro (And.intro @ty76 (And.intro @ty77 @ty78)) (And.intro @ty79 (And.intro @ty80 @ty81))) (And.intro (And.intro @ty82 (And.intro @ty83 @ty84)) (And.intro @ty85 (And.intro @ty86 @ty87)))) (And.intro (And.intro (And.intro @ty88 (And.intro @ty89 @ty90)) (And.intro @ty92 (And.intro @ty93 @ty94))) (And.intro (And.intro @ty95 (And.intro @ty96 @ty97)) (And.intro @ty98 (And.intro @ty99 @ty100))))))) (And.intro (And.intro (And.intro (And.intro (And.intro (And.intro @ty101 (And.intro @ty102 @ty103)) (And.intro @ty104 (And.intro @ty105 @ty106))) (And.intro (And.intro @ty107 (And.intro @ty108 @ty109)) (And.intro @ty110 (And.intro @ty112 @ty113)))) (And.intro (And.intro (And.intro @ty114 (And.intro @ty115 @ty116)) (And.intro @ty117 (And.intro @ty118 @ty119))) (And.intro (And.intro @ty120 (And.intro @ty121 @ty122)) (And.intro @ty123 (And.intro @ty124 @ty125))))) (And.intro (And.intro (And.intro (And.intro @ty126 (And.intro @ty127 @ty128)) (And.intro @ty129 (And.intro @fl7_0 @fl7_1))) (And.intro (And.intro @fl7_2 (And.intro @fl7_3 @fl8_0)) (And.intro @fl8_1 (And.intro @fl8_2 @fl8_3)))) (And.intro (And.intro (And.intro @fl13_0 (And.intro @fl13_1 @fl14_0)) (And.intro @fl14_1 (And.intro @fl18_0 @fl19_0))) (And.intro (And.intro @fl38_0 (And.intro @fl38_1 @fl39_0)) (And.intro @fl39_1 (And.intro @fl40_0 @fl40_1)))))) (And.intro (And.intro (And.intro (And.intro (And.intro @fl40_2 (And.intro @fl41_0 @fl41_1)) (And.intro @fl41_2 (And.intro @fl57_0 @fl57_1))) (And.intro (And.intro @fl57_2 (And.intro @fl58_0 @fl58_1)) (And.intro @fl58_2 (And.intro @fl65_0 @fl65_1)))) (And.intro (And.intro (And.intro @fl65_2 (And.intro @fl66_0 @fl66_1)) (And.intro @fl66_2 (And.intro @fl68_0 @fl68_1))) (And.intro (And.intro @fl68_2 (And.intro @fl68_3 @fl68_4)) (And.intro @fl68_5 (And.intro @fl69_0 @fl69_1))))) (And.intro (And.intro (And.intro (And.intro @fl69_2 (And.intro @fl69_3 @fl69_4)) (And.intro @fl69_5 (And.intro @fl87_0 @fl87_1))) (And.intro (And.intro @fl87_2 (And.intro @fl87_3 @fl88_0)) (And.intro @fl88_1 (And.intro @fl88_2 @fl88_3)))) (And.intro (And.intro (And.intro @fl89_0 (And.intro @fl89_1 @fl89_2)) (And.intro @fl90_0 (And.intro @fl90_1 @fl90_2))) (And.intro (And.intro @fl97_0 (And.intro @fl97_1 @fl98_0)) (And.intro (And.intro @fl98_1 @fl104_0) (And.intro @fl104_1 @fl105_0)))))))) (And.intro (And.intro (And.intro (And.intro (And.intro (And.intro (And.intro @fl105_1 (And.intro @fl106_0 @fl106_1)) (And.intro @fl107_0 (And.intro @fl107_1 @fl116_0))) (And.intro (And.intro @fl116_1 (And.intro @fl116_2 @fl116_3)) (And.intro @fl117_0 (And.intro @fl117_1 @fl117_2)))) (And.intro (And.intro (And.intro @fl117_3 (And.intro @fl119_0 @fl120_0)) (And.intro @fl128_0 (And.intro @fl128_1 @fl128_2))) (And.intro (And.intro @fl128_3 (And.intro @fl128_4 @fl128_5)) (And.intro @fl128_6 (And.intro @fl128_7 @fl128_8))))) (And.intro (And.intro (And.intro (And.intro @fl128_9 (And.intro @fl128_10 @fl129_0)) (And.intro @fl129_1 (And.intro @fl129_2 @fl129_3))) (And.intro (And.intro @fl129_4 (And.intro @fl129_5 @fl129_6)) (And.intro @fl129_7 (And.intro @fl129_8 @fl129_9)))) (And.intro (And.intro (And.intro @fl129_10 (And.intro @nt0 @nt1)) (And.intro @nt2 (And.intro @nt3 @nt4))) (And.intro (And.intro @nt5 (And.intro @nt6 @nt7)) (And.intro @nt8 (And.intro @nt9 @nt10)))))) (And.intro (And.intro (And.intro (And.intro (And.intro @nt11 (And.intro @nt12 @nt13)) (And.intro @nt14 (And.intro @nt15 @nt16))) (And.intro (And.intro @nt17 (And.intro @nt18 @nt19)) (And.intro @nt20 (And.intro @nt21 @nt22)))) (And.intro (And.intro (And.intro @nt23 (And.intro @nt24 @nt25)) (And.intro @nt26 (And.intro @nt27 @nt28))) (And.intro (And.intro @nt29 (And.intro @nt30 @nt31)) (And.intro @nt32 (And.intro @nt33 @nt34))))) (And.intro (And.intro (And.intro (And.intro @nt35 (And.intro @nt36 @nt37)) (And.intro @nt38 (And.intro @nt39 @nt40))) (And.intro (And.intro @nt41 (And.intro @nt42 @nt43)) (And.intro @nt44 (And.intro @nt45 @nt46)))) (And.intro (And.intro (And.intro @nt47 (And.intro @nt48 @nt49)) (And.intro @nt50 (And.intro @nt51 @nt52))) (And.intro (And.intro @nt53 (And.intro @nt54 @nt55)) (And.intro @nt56 (And.intro @nt57 @nt58))))))) (And.intro (And.intro (And.intro (And.intro (And.intro (And.intro @nt59 (And.intro @nt60 @nt61)) (And.intro @nt62 (And.intro @nt63 @nt64))) (And.intro (And.intro @nt65 (And.intro @nt66 @nt67)) (And.intro @nt68 (And.intro @nt69 @nt70)))) (And.intro (And.intro (And.intro @nt71 (And.intro @nt72 @nt73)) (And.intro @nt74 (And.intro @nt75 @nt76))) (And.intro (And.intro @nt77 (And.intro @nt78 @nt79)) (And.intro @nt80 (And.intro @nt81 @nt82))))) (And.intro (And.intro (And.intro (And.intro @nt83 (And.intro @nt84 @nt85)) (And.intro @nt86 (And.intro @nt87 @nt88))) (And.intro (And.intro @nt89 (And.intro @nt90 @nt91)) (And.intro @nt92 (And.intro @nt93 @nt94)))) (And.intro (And.intro (And.intro @nt95 (And.intro @nt96 @nt97)) (And.intro @nt98 (And.intro @nt99 @nt100))) (And.intro (And.intro @nt101 (And.intro @nt102 @nt103)) (And.intro @nt104 (And.intro @nt105 @nt106)))))) (And.intro (And.intro (And.intro (And.intro (And.intro @nt107 (And.intro @nt108 @nt109)) (And.intro @nt110 (And.intro @nt111 @nt112))) (And.intro (And.intro @nt113 (And.intro @nt114 @nt115)) (And.intro @nt116 (And.intro @nt117 @nt118)))) (And.intro (And.intro (And.intro @nt119 (And.intro @nt120 @nt121)) (And.intro @nt122 (And.intro @nt123 @nt124))) (And.intro (And.intro @nt125 (And.intro @nt126 @nt127)) (And.intro @nt128 (And.intro @nt129 @nt130))))) (And.intro (And.intro (And.intro (And.intro @eq38 (And.intro @eq39 @eq40)) (And.intro @eq41 (And.intro @eq97 @eq98))) (And.intro (And.intro @eq104 (And.intro @eq105 @eq106)) (And.intro @eq107 (And.intro @Try.underlying4 @Try.underlying9)))) (And.intro (And.intro (And.intro @Try.underlying10 (And.intro @Try.underlying11 @Try.underlying22)) (And.intro @Try.underlying49 (And.intro @Try.underlying50 @Try.underlying56))) (And.intro (And.intro @Try.underlying62 (And.intro @Try.underlying63 @Try.underlying64)) (And.intro (And.intro @Try.underlying78 @Try.underlying84) (And.intro @Try.underlying86 @Try.underlying110)))))))))
theorem FN : type_of% (And.intro (And.intro (And.intro (And.intro (And.intro fnok2 (And.intro fnok3 fnok4)) (And.intro (And.intro fnok5 fnok6) (And.intro fnok7 fnok8))) (And.intro (And.intro fnok9 (And.intro fnok10 fnok11)) (And.intro (And.intro fnok12 fnok13) (And.intro fnok14 fnok15)))) (And.intro (And.intro (And.intro fnok16 (And.intro fnok17 fnok18)) (And.intro (And.intro fnok19 fnok20) (And.intro fnok21 fnok22))) (And.intro (And.intro fnok23 (And.intro fnok24 fnok25)) (And.intro (And.intro fnok26 fnok27) (And.intro fnok28 fnok29))))) (And.intro (And.intro (And.intro (And.intro fnok30 (And.intro fnok31 fnok32)) (And.intro (And.intro fnok33 fnok34) (And.intro fnok35 fnok36))) (And.intro (And.intro fnok37 (And.intro fnok38 fnok39)) (And.intro (And.intro fnok40 fnok41) (And.intro fnok42 fnok43)))) (And.intro (And.intro (And.intro fnok44 (And.intro fnok45 fnok46)) (And.intro (And.intro fnok47 fnok48) (And.intro fnok49 fnok50))) (And.intro (And.intro (And.intro fnok51 fnok52) (And.intro fnok53 fnok54)) (And.intro (And.intro fnok55 fnok56) (And.intro fnok57 fnok58)))))) := (And.intro (And.intro (And.intro (And.intro (And.intro fnok2 (And.intro fnok3 fnok4)) (And.intro (And.intro fnok5 fnok6) (And.intro fnok7 fnok8))) (And.intro (And.intro fnok9 (And.intro fnok10 fnok11)) (And.intro (And.intro fnok12 fnok13) (And.intro fnok14 fnok15)))) (And.intro (And.intro (And.intro fnok16 (And.intro fnok17 fnok18)) (And.intro (And.intro fnok19 fnok20) (And.intro fnok21 fnok22))) (And.intro (And.intro fnok23 (And.intro fnok24 fnok25)) (And.intro (And.intro fnok26 fnok27) (And.intro fnok28 fnok29))))) (And.intro (And.intro (And.intro (And.intro fnok30 (And.intro fnok31 fnok32)) (And.intro (And.intro fnok33 fnok34) (And.intro fnok35 fnok36))) (And.intro (And.intro fnok37 (And.intro fnok38 fnok39)) (And.intro (And.intro fnok40 fnok41) (And.intro fnok42 fnok43)))) (And.intro (And.intro (And.intro fnok44 (And.intro fnok45 fnok46)) (And.intro (And.intro fnok47 fnok48) (And.intro fnok49 fnok50))) (And.intro (And.intro (And.intro fnok51 fnok52) (And.intro fnok53 fnok54)) (And.intro (And.intro fnok55 fnok56) (And.intro fnok57 fnok58))))))
end Go.Proofs.Yteendcbmoagdfaa

