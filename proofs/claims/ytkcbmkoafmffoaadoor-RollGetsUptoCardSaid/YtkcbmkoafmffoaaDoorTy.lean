/-
  Facts on the types and functions of the dump, by a program of this repo (genty.py): each is told by the kernel.
-/
import Derived.Test.YtkcbmkoafmffoaaDoorProg
import Derived.Test.YtkcbmkoafmffoaaDoorEngC
set_option linter.defProp false
set_option linter.unusedSimpArgs false
namespace Go.Proofs.YtkcbmkoafmffoaaDoor
open Go Go.Eng
theorem ty1 : tyI Tryd.prog 1 = some ⟨false, 1, [.nilFunc], .other⟩ := by kernel_rfl
theorem ty2 : tyI Tryd.prog 2 = some ⟨false, 1, [.int .i64 0], .other⟩ := by kernel_rfl
theorem ty3 : tyI Tryd.prog 3 = some ⟨false, 1, [.int .i64 0], .other⟩ := by kernel_rfl
theorem ty4 : tyI Tryd.prog 4 = some ⟨false, 1, [.bool false], .other⟩ := by kernel_rfl
theorem ty5 : tyI Tryd.prog 5 = some ⟨false, 1, [.int .u8 0], .other⟩ := by kernel_rfl
theorem ty6 : tyI Tryd.prog 6 = some ⟨false, 1, [.int .u8 0], .other⟩ := by kernel_rfl
theorem ty7 : tyI Tryd.prog 7 = some ⟨true, 4, [.int .i64 0, .int .i64 0, .bool false, .int .u8 0], .struct [(0,1), (1,1), (2,1), (3,1)]⟩ := by kernel_rfl
theorem ty8 : tyI Tryd.prog 8 = some ⟨true, 4, [.int .i64 0, .int .i64 0, .bool false, .int .u8 0], .struct [(0,1), (1,1), (2,1), (3,1)]⟩ := by kernel_rfl
theorem ty9 : tyI Tryd.prog 9 = some ⟨false, 1, [.string ⟨#[]⟩], .other⟩ := by kernel_rfl
theorem ty10 : tyI Tryd.prog 10 = some ⟨false, 1, [.string ⟨#[]⟩], .other⟩ := by kernel_rfl
theorem ty11 : tyI Tryd.prog 11 = some ⟨false, 1, [.string ⟨#[]⟩], .other⟩ := by kernel_rfl
theorem ty12 : tyI Tryd.prog 12 = some ⟨false, 1, [.int .u64 0], .other⟩ := by kernel_rfl
theorem ty13 : tyI Tryd.prog 13 = some ⟨true, 2, [.string ⟨#[]⟩, .int .u64 0], .struct [(0,1), (1,1)]⟩ := by kernel_rfl
theorem ty14 : tyI Tryd.prog 14 = some ⟨true, 2, [.string ⟨#[]⟩, .int .u64 0], .struct [(0,1), (1,1)]⟩ := by kernel_rfl
theorem ty15 : tyI Tryd.prog 15 = some ⟨false, 1, [.pointer none], .other⟩ := by kernel_rfl
theorem ty16 : tyI Tryd.prog 16 = some ⟨false, 1, [.pointer none], .other⟩ := by kernel_rfl
theorem ty17 : tyI Tryd.prog 17 = some ⟨false, 1, [.pointer none], .other⟩ := by kernel_rfl
theorem ty18 : tyI Tryd.prog 18 = some ⟨true, 1, [.pointer none], .struct [(0,1)]⟩ := by kernel_rfl
theorem ty19 : tyI Tryd.prog 19 = some ⟨true, 1, [.pointer none], .struct [(0,1)]⟩ := by kernel_rfl
theorem ty20 : tyI Tryd.prog 20 = some ⟨false, 1, [.nilIface], .other⟩ := by kernel_rfl
theorem ty21 : tyI Tryd.prog 21 = some ⟨false, 1, [.int .i32 0], .other⟩ := by kernel_rfl
theorem ty22 : tyI Tryd.prog 22 = some ⟨false, 1, [.slice none 0 0], .slice 2⟩ := by kernel_rfl
theorem ty23 : tyI Tryd.prog 23 = some ⟨false, 1, [.int .i64 0], .other⟩ := by kernel_rfl
theorem ty24 : tyI Tryd.prog 24 = some ⟨false, 1, [.slice none 0 0], .slice 4⟩ := by kernel_rfl
theorem ty25 : tyI Tryd.prog 25 = some ⟨false, 1, [.slice none 0 0], .slice 6⟩ := by kernel_rfl
theorem ty26 : tyI Tryd.prog 26 = some ⟨true, 4, [.int .i64 0, .slice none 0 0, .slice none 0 0, .slice none 0 0], .struct [(0,1), (1,1), (2,1), (3,1)]⟩ := by kernel_rfl
theorem ty27 : tyI Tryd.prog 27 = some ⟨true, 4, [.int .i64 0, .slice none 0 0, .slice none 0 0, .slice none 0 0], .struct [(0,1), (1,1), (2,1), (3,1)]⟩ := by kernel_rfl
theorem ty28 : tyI Tryd.prog 28 = some ⟨true, 6, [.bool false, .slice none 0 0, .int .i64 0, .slice none 0 0, .slice none 0 0, .slice none 0 0], .struct [(0,1), (1,1), (2,4)]⟩ := by kernel_rfl
theorem ty29 : tyI Tryd.prog 29 = some ⟨true, 6, [.bool false, .slice none 0 0, .int .i64 0, .slice none 0 0, .slice none 0 0, .slice none 0 0], .struct [(0,1), (1,1), (2,4)]⟩ := by kernel_rfl
theorem ty30 : tyI Tryd.prog 30 = some ⟨false, 1, [.int .i64 0], .other⟩ := by kernel_rfl
theorem ty31 : tyI Tryd.prog 31 = some ⟨false, 1, [.int .i64 0], .other⟩ := by kernel_rfl
theorem ty32 : tyI Tryd.prog 32 = some ⟨true, 2, [.int .i64 0, .int .i64 0], .struct [(0,1), (1,1)]⟩ := by kernel_rfl
theorem ty33 : tyI Tryd.prog 33 = some ⟨true, 2, [.int .i64 0, .int .i64 0], .struct [(0,1), (1,1)]⟩ := by kernel_rfl
theorem ty34 : tyI Tryd.prog 34 = some ⟨true, 4, [.int .i64 0, .bool false, .int .i64 0, .int .i64 0], .struct [(0,1), (1,1), (2,2)]⟩ := by kernel_rfl
theorem ty35 : tyI Tryd.prog 35 = some ⟨true, 4, [.int .i64 0, .bool false, .int .i64 0, .int .i64 0], .struct [(0,1), (1,1), (2,2)]⟩ := by kernel_rfl
theorem ty36 : tyI Tryd.prog 36 = some ⟨false, 1, [.nilFunc], .other⟩ := by kernel_rfl
theorem ty37 : tyI Tryd.prog 37 = some ⟨false, 1, [.nilFunc], .other⟩ := by kernel_rfl
theorem ty38 : tyI Tryd.prog 38 = some ⟨false, 1, [.nilFunc], .other⟩ := by kernel_rfl
theorem ty39 : tyI Tryd.prog 39 = some ⟨false, 1, [.nilFunc], .other⟩ := by kernel_rfl
theorem ty40 : tyI Tryd.prog 40 = some ⟨false, 1, [.nilFunc], .other⟩ := by kernel_rfl
theorem ty41 : tyI Tryd.prog 41 = some ⟨false, 1, [.nilFunc], .other⟩ := by kernel_rfl
theorem ty42 : tyI Tryd.prog 42 = some ⟨false, 1, [.nilFunc], .other⟩ := by kernel_rfl
theorem ty43 : tyI Tryd.prog 43 = some ⟨false, 1, [.slice none 0 0], .slice 1⟩ := by kernel_rfl
theorem ty44 : tyI Tryd.prog 44 = some ⟨false, 1, [.slice none 0 0], .slice 1⟩ := by kernel_rfl
theorem ty45 : tyI Tryd.prog 45 = some ⟨false, 1, [.pointer none], .other⟩ := by kernel_rfl
theorem ty46 : tyI Tryd.prog 46 = some ⟨false, 1, [.nilFunc], .other⟩ := by kernel_rfl
theorem ty47 : tyI Tryd.prog 47 = some ⟨false, 1, [.int .i64 0], .other⟩ := by kernel_rfl
theorem ty49 : tyI Tryd.prog 49 = some ⟨false, 1, [.nilFunc], .other⟩ := by kernel_rfl
theorem ty50 : tyI Tryd.prog 50 = some ⟨false, 1, [.nilFunc], .other⟩ := by kernel_rfl
theorem ty51 : tyI Tryd.prog 51 = some ⟨false, 1, [.slice none 0 0], .slice 6⟩ := by kernel_rfl
theorem ty52 : tyI Tryd.prog 52 = some ⟨false, 1, [.nilFunc], .other⟩ := by kernel_rfl
theorem ty53 : tyI Tryd.prog 53 = some ⟨false, 1, [.nilFunc], .other⟩ := by kernel_rfl
theorem ty54 : tyI Tryd.prog 54 = some ⟨false, 1, [.nilFunc], .other⟩ := by kernel_rfl
theorem ty55 : tyI Tryd.prog 55 = some ⟨false, 1, [.nilFunc], .other⟩ := by kernel_rfl
theorem ty57 : tyI Tryd.prog 57 = some ⟨false, 1, [.nilFunc], .other⟩ := by kernel_rfl
theorem ty58 : tyI Tryd.prog 58 = some ⟨false, 1, [.nilFunc], .other⟩ := by kernel_rfl
theorem ty60 : tyI Tryd.prog 60 = some ⟨false, 1, [.nilFunc], .other⟩ := by kernel_rfl
theorem ty62 : tyI Tryd.prog 62 = some ⟨false, 1, [.nilFunc], .other⟩ := by kernel_rfl
theorem ty63 : tyI Tryd.prog 63 = some ⟨false, 1, [.nilFunc], .other⟩ := by kernel_rfl
theorem ty64 : tyI Tryd.prog 64 = some ⟨false, 1, [.slice none 0 0], .slice 4⟩ := by kernel_rfl
theorem ty65 : tyI Tryd.prog 65 = some ⟨false, 1, [.pointer none], .other⟩ := by kernel_rfl
theorem ty66 : tyI Tryd.prog 66 = some ⟨true, 1, [.slice none 0 0], .struct [(0,1)]⟩ := by kernel_rfl
theorem ty67 : tyI Tryd.prog 67 = some ⟨true, 1, [.slice none 0 0], .struct [(0,1)]⟩ := by kernel_rfl
theorem ty68 : tyI Tryd.prog 68 = some ⟨true, 4, [.slice none 0 0, .slice none 0 0, .slice none 0 0, .slice none 0 0], .arr 4 1⟩ := by kernel_rfl
theorem ty69 : tyI Tryd.prog 69 = some ⟨true, 4, [.int .i64 0, .bool false, .slice none 0 0, .slice none 0 0], .struct [(0,1), (1,1), (2,1), (3,1)]⟩ := by kernel_rfl
theorem ty70 : tyI Tryd.prog 70 = some ⟨true, 4, [.int .i64 0, .bool false, .slice none 0 0, .slice none 0 0], .struct [(0,1), (1,1), (2,1), (3,1)]⟩ := by kernel_rfl
theorem ty71 : tyI Tryd.prog 71 = some ⟨false, 1, [.nilFunc], .other⟩ := by kernel_rfl
theorem ty72 : tyI Tryd.prog 72 = some ⟨false, 1, [.nilFunc], .other⟩ := by kernel_rfl
theorem ty73 : tyI Tryd.prog 73 = some ⟨false, 1, [.nilFunc], .other⟩ := by kernel_rfl
theorem ty74 : tyI Tryd.prog 74 = some ⟨false, 1, [.slice none 0 0], .slice 2⟩ := by kernel_rfl
theorem ty75 : tyI Tryd.prog 75 = some ⟨false, 1, [.map none], .other⟩ := by kernel_rfl
theorem ty76 : tyI Tryd.prog 76 = some ⟨true, 3, [.slice none 0 0, .slice none 0 0, .map none], .struct [(0,1), (1,1), (2,1)]⟩ := by kernel_rfl
theorem ty77 : tyI Tryd.prog 77 = some ⟨true, 3, [.slice none 0 0, .slice none 0 0, .map none], .struct [(0,1), (1,1), (2,1)]⟩ := by kernel_rfl
theorem ty78 : tyI Tryd.prog 78 = some ⟨true, 2, [.pointer none, .pointer none], .arr 2 1⟩ := by kernel_rfl
theorem ty79 : tyI Tryd.prog 79 = some ⟨false, 1, [.nilFunc], .other⟩ := by kernel_rfl
theorem ty80 : tyI Tryd.prog 80 = some ⟨true, 5, [.int .i64 0, .int .i64 0, .bool false, .int .i64 0, .int .i64 0], .struct [(0,1), (1,4)]⟩ := by kernel_rfl
theorem ty81 : tyI Tryd.prog 81 = some ⟨true, 5, [.int .i64 0, .int .i64 0, .bool false, .int .i64 0, .int .i64 0], .struct [(0,1), (1,4)]⟩ := by kernel_rfl
theorem ty82 : tyI Tryd.prog 82 = some ⟨true, 6, [.int .i64 0, .int .i64 0, .bool false, .int .i64 0, .int .i64 0, .bool false], .struct [(0,5), (5,1)]⟩ := by kernel_rfl
theorem ty83 : tyI Tryd.prog 83 = some ⟨true, 6, [.int .i64 0, .int .i64 0, .bool false, .int .i64 0, .int .i64 0, .bool false], .struct [(0,5), (5,1)]⟩ := by kernel_rfl
theorem ty84 : tyI Tryd.prog 84 = some ⟨false, 1, [.nilFunc], .other⟩ := by kernel_rfl
theorem ty85 : tyI Tryd.prog 85 = some ⟨false, 1, [.nilFunc], .other⟩ := by kernel_rfl
theorem ty86 : tyI Tryd.prog 86 = some ⟨false, 1, [.nilFunc], .other⟩ := by kernel_rfl
theorem ty87 : tyI Tryd.prog 87 = some ⟨false, 1, [.nilFunc], .other⟩ := by kernel_rfl
theorem ty88 : tyI Tryd.prog 88 = some ⟨false, 1, [.nilFunc], .other⟩ := by kernel_rfl
theorem ty89 : tyI Tryd.prog 89 = some ⟨false, 1, [.nilFunc], .other⟩ := by kernel_rfl
theorem ty90 : tyI Tryd.prog 90 = some ⟨false, 1, [.nilFunc], .other⟩ := by kernel_rfl
theorem ty91 : tyI Tryd.prog 91 = some ⟨false, 1, [.nilFunc], .other⟩ := by kernel_rfl
theorem ty92 : tyI Tryd.prog 92 = some ⟨false, 1, [.nilFunc], .other⟩ := by kernel_rfl
theorem ty93 : tyI Tryd.prog 93 = some ⟨false, 1, [.nilFunc], .other⟩ := by kernel_rfl
theorem ty94 : tyI Tryd.prog 94 = some ⟨false, 1, [.nilFunc], .other⟩ := by kernel_rfl
theorem ty95 : tyI Tryd.prog 95 = some ⟨false, 1, [.nilFunc], .other⟩ := by kernel_rfl
theorem ty96 : tyI Tryd.prog 96 = some ⟨false, 1, [.nilFunc], .other⟩ := by kernel_rfl
theorem ty97 : tyI Tryd.prog 97 = some ⟨false, 1, [.nilFunc], .other⟩ := by kernel_rfl
theorem ty98 : tyI Tryd.prog 98 = some ⟨false, 1, [.nilFunc], .other⟩ := by kernel_rfl
theorem ty99 : tyI Tryd.prog 99 = some ⟨false, 1, [.nilFunc], .other⟩ := by kernel_rfl
theorem ty100 : tyI Tryd.prog 100 = some ⟨false, 1, [.slice none 0 0], .slice 1⟩ := by kernel_rfl
theorem ty101 : tyI Tryd.prog 101 = some ⟨false, 1, [.nilFunc], .other⟩ := by kernel_rfl
theorem ty102 : tyI Tryd.prog 102 = some ⟨true, 2, [.int .i64 0, .int .i64 0], .struct [(0,1), (1,1)]⟩ := by kernel_rfl
theorem ty103 : tyI Tryd.prog 103 = some ⟨true, 2, [.int .i64 0, .int .i64 0], .struct [(0,1), (1,1)]⟩ := by kernel_rfl
theorem ty105 : tyI Tryd.prog 105 = some ⟨false, 1, [.nilFunc], .other⟩ := by kernel_rfl
theorem ty106 : tyI Tryd.prog 106 = some ⟨false, 1, [.nilFunc], .other⟩ := by kernel_rfl
theorem ty108 : tyI Tryd.prog 108 = some ⟨false, 1, [.nilFunc], .other⟩ := by kernel_rfl
theorem ty109 : tyI Tryd.prog 109 = some ⟨false, 1, [.nilFunc], .other⟩ := by kernel_rfl
theorem ty110 : tyI Tryd.prog 110 = some ⟨false, 1, [.nilFunc], .other⟩ := by kernel_rfl
theorem ty111 : tyI Tryd.prog 111 = some ⟨false, 1, [.nilFunc], .other⟩ := by kernel_rfl
theorem ty113 : tyI Tryd.prog 113 = some ⟨false, 1, [.nilFunc], .other⟩ := by kernel_rfl
theorem ty114 : tyI Tryd.prog 114 = some ⟨false, 1, [.nilFunc], .other⟩ := by kernel_rfl
theorem ty115 : tyI Tryd.prog 115 = some ⟨false, 1, [.nilFunc], .other⟩ := by kernel_rfl
theorem ty116 : tyI Tryd.prog 116 = some ⟨false, 1, [.nilFunc], .other⟩ := by kernel_rfl
theorem ty117 : tyI Tryd.prog 117 = some ⟨false, 1, [.nilFunc], .other⟩ := by kernel_rfl
theorem ty118 : tyI Tryd.prog 118 = some ⟨false, 1, [.nilFunc], .other⟩ := by kernel_rfl
theorem ty119 : tyI Tryd.prog 119 = some ⟨false, 1, [.nilFunc], .other⟩ := by kernel_rfl
theorem ty120 : tyI Tryd.prog 120 = some ⟨false, 1, [.nilFunc], .other⟩ := by kernel_rfl
theorem ty121 : tyI Tryd.prog 121 = some ⟨false, 1, [.pointer none], .other⟩ := by kernel_rfl
theorem ty122 : tyI Tryd.prog 122 = some ⟨false, 1, [.slice none 0 0], .slice 1⟩ := by kernel_rfl
theorem ty123 : tyI Tryd.prog 123 = some ⟨true, 2, [.pointer none, .slice none 0 0], .struct [(0,1), (1,1)]⟩ := by kernel_rfl
theorem ty124 : tyI Tryd.prog 124 = some ⟨true, 2, [.pointer none, .slice none 0 0], .struct [(0,1), (1,1)]⟩ := by kernel_rfl
theorem ty125 : tyI Tryd.prog 125 = some ⟨false, 1, [.nilFunc], .other⟩ := by kernel_rfl
theorem ty126 : tyI Tryd.prog 126 = some ⟨false, 1, [.nilIface], .other⟩ := by kernel_rfl
theorem ty127 : tyI Tryd.prog 127 = some ⟨false, 1, [.nilIface], .other⟩ := by kernel_rfl
theorem ty129 : tyI Tryd.prog 129 = some ⟨false, 1, [.nilFunc], .other⟩ := by kernel_rfl
theorem ty130 : tyI Tryd.prog 130 = some ⟨false, 1, [.nilFunc], .other⟩ := by kernel_rfl
theorem ty131 : tyI Tryd.prog 131 = some ⟨true, 2, [.slice none 0 0, .slice none 0 0], .arr 2 1⟩ := by kernel_rfl
theorem ty132 : tyI Tryd.prog 132 = some ⟨false, 1, [.pointer none], .other⟩ := by kernel_rfl
theorem ty133 : tyI Tryd.prog 133 = some ⟨false, 1, [.nilFunc], .other⟩ := by kernel_rfl
theorem ty134 : tyI Tryd.prog 134 = some ⟨false, 1, [.nilFunc], .other⟩ := by kernel_rfl
theorem ty136 : tyI Tryd.prog 136 = some ⟨false, 1, [.nilFunc], .other⟩ := by kernel_rfl
theorem ty137 : tyI Tryd.prog 137 = some ⟨false, 1, [.nilFunc], .other⟩ := by kernel_rfl
theorem ty138 : tyI Tryd.prog 138 = some ⟨true, 24, [.int .u8 0, .int .u8 0, .int .u8 0, .int .u8 0, .int .u8 0, .int .u8 0, .int .u8 0, .int .u8 0, .int .u8 0, .int .u8 0, .int .u8 0, .int .u8 0, .int .u8 0, .int .u8 0, .int .u8 0, .int .u8 0, .int .u8 0, .int .u8 0, .int .u8 0, .int .u8 0, .int .u8 0, .int .u8 0, .int .u8 0, .int .u8 0], .arr 24 1⟩ := by kernel_rfl
theorem ty139 : tyI Tryd.prog 139 = some ⟨false, 1, [.int .u64 0], .other⟩ := by kernel_rfl
theorem ty140 : tyI Tryd.prog 140 = some ⟨false, 1, [.nilFunc], .other⟩ := by kernel_rfl
theorem ty141 : tyI Tryd.prog 141 = some ⟨false, 1, [.nilFunc], .other⟩ := by kernel_rfl
theorem ty143 : tyI Tryd.prog 143 = some ⟨false, 1, [.nilFunc], .other⟩ := by kernel_rfl
theorem ty144 : tyI Tryd.prog 144 = some ⟨false, 1, [.nilFunc], .other⟩ := by kernel_rfl
theorem ty145 : tyI Tryd.prog 145 = some ⟨false, 1, [.nilFunc], .other⟩ := by kernel_rfl
theorem ty146 : tyI Tryd.prog 146 = some ⟨true, 20, [.int .u64 0, .int .u64 0, .int .u64 0, .int .u64 0, .int .u64 0, .int .u64 0, .int .u64 0, .int .u64 0, .int .u64 0, .int .u64 0, .int .u64 0, .int .u64 0, .int .u64 0, .int .u64 0, .int .u64 0, .int .u64 0, .int .u64 0, .int .u64 0, .int .u64 0, .int .u64 0], .arr 20 1⟩ := by kernel_rfl
theorem ty147 : tyI Tryd.prog 147 = some ⟨false, 1, [.int .u32 0], .other⟩ := by kernel_rfl
theorem ty148 : tyI Tryd.prog 148 = some ⟨true, 65, [.int .u8 0, .int .u8 0, .int .u8 0, .int .u8 0, .int .u8 0, .int .u8 0, .int .u8 0, .int .u8 0, .int .u8 0, .int .u8 0, .int .u8 0, .int .u8 0, .int .u8 0, .int .u8 0, .int .u8 0, .int .u8 0, .int .u8 0, .int .u8 0, .int .u8 0, .int .u8 0, .int .u8 0, .int .u8 0, .int .u8 0, .int .u8 0, .int .u8 0, .int .u8 0, .int .u8 0, .int .u8 0, .int .u8 0, .int .u8 0, .int .u8 0, .int .u8 0, .int .u8 0, .int .u8 0, .int .u8 0, .int .u8 0, .int .u8 0, .int .u8 0, .int .u8 0, .int .u8 0, .int .u8 0, .int .u8 0, .int .u8 0, .int .u8 0, .int .u8 0, .int .u8 0, .int .u8 0, .int .u8 0, .int .u8 0, .int .u8 0, .int .u8 0, .int .u8 0, .int .u8 0, .int .u8 0, .int .u8 0, .int .u8 0, .int .u8 0, .int .u8 0, .int .u8 0, .int .u8 0, .int .u8 0, .int .u8 0, .int .u8 0, .int .u8 0, .int .u8 0], .arr 65 1⟩ := by kernel_rfl
theorem ty149 : tyI Tryd.prog 149 = some ⟨false, 1, [.int .u64 0], .other⟩ := by kernel_rfl
theorem ty150 : tyI Tryd.prog 150 = some ⟨false, 1, [.nilFunc], .other⟩ := by kernel_rfl
theorem ty151 : tyI Tryd.prog 151 = some ⟨false, 1, [.nilFunc], .other⟩ := by kernel_rfl
theorem ty152 : tyI Tryd.prog 152 = some ⟨true, 32, [.int .u8 0, .int .u8 0, .int .u8 0, .int .u8 0, .int .u8 0, .int .u8 0, .int .u8 0, .int .u8 0, .int .u8 0, .int .u8 0, .int .u8 0, .int .u8 0, .int .u8 0, .int .u8 0, .int .u8 0, .int .u8 0, .int .u8 0, .int .u8 0, .int .u8 0, .int .u8 0, .int .u8 0, .int .u8 0, .int .u8 0, .int .u8 0, .int .u8 0, .int .u8 0, .int .u8 0, .int .u8 0, .int .u8 0, .int .u8 0, .int .u8 0, .int .u8 0], .arr 32 1⟩ := by kernel_rfl
theorem ty153 : tyI Tryd.prog 153 = some ⟨true, 64, [.int .u8 0, .int .u8 0, .int .u8 0, .int .u8 0, .int .u8 0, .int .u8 0, .int .u8 0, .int .u8 0, .int .u8 0, .int .u8 0, .int .u8 0, .int .u8 0, .int .u8 0, .int .u8 0, .int .u8 0, .int .u8 0, .int .u8 0, .int .u8 0, .int .u8 0, .int .u8 0, .int .u8 0, .int .u8 0, .int .u8 0, .int .u8 0, .int .u8 0, .int .u8 0, .int .u8 0, .int .u8 0, .int .u8 0, .int .u8 0, .int .u8 0, .int .u8 0, .int .u8 0, .int .u8 0, .int .u8 0, .int .u8 0, .int .u8 0, .int .u8 0, .int .u8 0, .int .u8 0, .int .u8 0, .int .u8 0, .int .u8 0, .int .u8 0, .int .u8 0, .int .u8 0, .int .u8 0, .int .u8 0, .int .u8 0, .int .u8 0, .int .u8 0, .int .u8 0, .int .u8 0, .int .u8 0, .int .u8 0, .int .u8 0, .int .u8 0, .int .u8 0, .int .u8 0, .int .u8 0, .int .u8 0, .int .u8 0, .int .u8 0, .int .u8 0], .arr 64 1⟩ := by kernel_rfl
theorem ty154 : tyI Tryd.prog 154 = some ⟨true, 4, [.pointer none, .pointer none, .pointer none, .string ⟨#[]⟩], .struct [(0,1), (1,1), (2,1), (3,1)]⟩ := by kernel_rfl
theorem ty155 : tyI Tryd.prog 155 = some ⟨true, 4, [.pointer none, .pointer none, .pointer none, .string ⟨#[]⟩], .struct [(0,1), (1,1), (2,1), (3,1)]⟩ := by kernel_rfl
theorem ty156 : tyI Tryd.prog 156 = some ⟨true, 0, [], .arr 0 1⟩ := by kernel_rfl
theorem ty157 : tyI Tryd.prog 157 = some ⟨true, 0, [], .struct [(0,0)]⟩ := by kernel_rfl
theorem ty158 : tyI Tryd.prog 158 = some ⟨true, 0, [], .struct [(0,0)]⟩ := by kernel_rfl
theorem ty159 : tyI Tryd.prog 159 = some ⟨false, 1, [.int .u8 0], .other⟩ := by kernel_rfl
theorem ty160 : tyI Tryd.prog 160 = some ⟨false, 1, [.int .u8 0], .other⟩ := by kernel_rfl
theorem ty161 : tyI Tryd.prog 161 = some ⟨false, 1, [.nilFunc], .other⟩ := by kernel_rfl
theorem ty162 : tyI Tryd.prog 162 = some ⟨false, 1, [.int .i32 0], .other⟩ := by kernel_rfl
theorem ty163 : tyI Tryd.prog 163 = some ⟨false, 1, [.int .i32 0], .other⟩ := by kernel_rfl
theorem ty164 : tyI Tryd.prog 164 = some ⟨true, 11, [.int .u64 0, .int .u64 0, .int .u32 0, .int .u8 0, .int .u8 0, .int .u8 0, .int .u8 0, .nilFunc, .pointer none, .int .i32 0, .int .i32 0], .struct [(0,1), (1,1), (2,1), (3,1), (4,1), (5,1), (6,1), (7,1), (8,1), (9,1), (10,1)]⟩ := by kernel_rfl
theorem ty165 : tyI Tryd.prog 165 = some ⟨true, 11, [.int .u64 0, .int .u64 0, .int .u32 0, .int .u8 0, .int .u8 0, .int .u8 0, .int .u8 0, .nilFunc, .pointer none, .int .i32 0, .int .i32 0], .struct [(0,1), (1,1), (2,1), (3,1), (4,1), (5,1), (6,1), (7,1), (8,1), (9,1), (10,1)]⟩ := by kernel_rfl
theorem fl7_0 : fldI Tryd.prog 7 0 = some (0, none) := by kernel_rfl
theorem fl7_1 : fldI Tryd.prog 7 1 = some (1, none) := by kernel_rfl
theorem fl7_2 : fldI Tryd.prog 7 2 = some (2, none) := by kernel_rfl
theorem fl7_3 : fldI Tryd.prog 7 3 = some (3, none) := by kernel_rfl
theorem fl8_0 : fldI Tryd.prog 8 0 = some (0, none) := by kernel_rfl
theorem fl8_1 : fldI Tryd.prog 8 1 = some (1, none) := by kernel_rfl
theorem fl8_2 : fldI Tryd.prog 8 2 = some (2, none) := by kernel_rfl
theorem fl8_3 : fldI Tryd.prog 8 3 = some (3, none) := by kernel_rfl
theorem fl13_0 : fldI Tryd.prog 13 0 = some (0, none) := by kernel_rfl
theorem fl13_1 : fldI Tryd.prog 13 1 = some (1, none) := by kernel_rfl
theorem fl14_0 : fldI Tryd.prog 14 0 = some (0, none) := by kernel_rfl
theorem fl14_1 : fldI Tryd.prog 14 1 = some (1, none) := by kernel_rfl
theorem fl18_0 : fldI Tryd.prog 18 0 = some (0, none) := by kernel_rfl
theorem fl19_0 : fldI Tryd.prog 19 0 = some (0, none) := by kernel_rfl
theorem fl26_0 : fldI Tryd.prog 26 0 = some (0, none) := by kernel_rfl
theorem fl26_1 : fldI Tryd.prog 26 1 = some (1, none) := by kernel_rfl
theorem fl26_2 : fldI Tryd.prog 26 2 = some (2, none) := by kernel_rfl
theorem fl26_3 : fldI Tryd.prog 26 3 = some (3, none) := by kernel_rfl
theorem fl27_0 : fldI Tryd.prog 27 0 = some (0, none) := by kernel_rfl
theorem fl27_1 : fldI Tryd.prog 27 1 = some (1, none) := by kernel_rfl
theorem fl27_2 : fldI Tryd.prog 27 2 = some (2, none) := by kernel_rfl
theorem fl27_3 : fldI Tryd.prog 27 3 = some (3, none) := by kernel_rfl
theorem fl28_0 : fldI Tryd.prog 28 0 = some (0, none) := by kernel_rfl
theorem fl28_1 : fldI Tryd.prog 28 1 = some (1, none) := by kernel_rfl
theorem fl28_2 : fldI Tryd.prog 28 2 = some (2, some 4) := by kernel_rfl
theorem fl29_0 : fldI Tryd.prog 29 0 = some (0, none) := by kernel_rfl
theorem fl29_1 : fldI Tryd.prog 29 1 = some (1, none) := by kernel_rfl
theorem fl29_2 : fldI Tryd.prog 29 2 = some (2, some 4) := by kernel_rfl
theorem fl32_0 : fldI Tryd.prog 32 0 = some (0, none) := by kernel_rfl
theorem fl32_1 : fldI Tryd.prog 32 1 = some (1, none) := by kernel_rfl
theorem fl33_0 : fldI Tryd.prog 33 0 = some (0, none) := by kernel_rfl
theorem fl33_1 : fldI Tryd.prog 33 1 = some (1, none) := by kernel_rfl
theorem fl34_0 : fldI Tryd.prog 34 0 = some (0, none) := by kernel_rfl
theorem fl34_1 : fldI Tryd.prog 34 1 = some (1, none) := by kernel_rfl
theorem fl34_2 : fldI Tryd.prog 34 2 = some (2, some 2) := by kernel_rfl
theorem fl35_0 : fldI Tryd.prog 35 0 = some (0, none) := by kernel_rfl
theorem fl35_1 : fldI Tryd.prog 35 1 = some (1, none) := by kernel_rfl
theorem fl35_2 : fldI Tryd.prog 35 2 = some (2, some 2) := by kernel_rfl
theorem fl66_0 : fldI Tryd.prog 66 0 = some (0, none) := by kernel_rfl
theorem fl67_0 : fldI Tryd.prog 67 0 = some (0, none) := by kernel_rfl
theorem fl69_0 : fldI Tryd.prog 69 0 = some (0, none) := by kernel_rfl
theorem fl69_1 : fldI Tryd.prog 69 1 = some (1, none) := by kernel_rfl
theorem fl69_2 : fldI Tryd.prog 69 2 = some (2, none) := by kernel_rfl
theorem fl69_3 : fldI Tryd.prog 69 3 = some (3, none) := by kernel_rfl
theorem fl70_0 : fldI Tryd.prog 70 0 = some (0, none) := by kernel_rfl
theorem fl70_1 : fldI Tryd.prog 70 1 = some (1, none) := by kernel_rfl
theorem fl70_2 : fldI Tryd.prog 70 2 = some (2, none) := by kernel_rfl
theorem fl70_3 : fldI Tryd.prog 70 3 = some (3, none) := by kernel_rfl
theorem fl76_0 : fldI Tryd.prog 76 0 = some (0, none) := by kernel_rfl
theorem fl76_1 : fldI Tryd.prog 76 1 = some (1, none) := by kernel_rfl
theorem fl76_2 : fldI Tryd.prog 76 2 = some (2, none) := by kernel_rfl
theorem fl77_0 : fldI Tryd.prog 77 0 = some (0, none) := by kernel_rfl
theorem fl77_1 : fldI Tryd.prog 77 1 = some (1, none) := by kernel_rfl
theorem fl77_2 : fldI Tryd.prog 77 2 = some (2, none) := by kernel_rfl
theorem fl80_0 : fldI Tryd.prog 80 0 = some (0, none) := by kernel_rfl
theorem fl80_1 : fldI Tryd.prog 80 1 = some (1, some 4) := by kernel_rfl
theorem fl81_0 : fldI Tryd.prog 81 0 = some (0, none) := by kernel_rfl
theorem fl81_1 : fldI Tryd.prog 81 1 = some (1, some 4) := by kernel_rfl
theorem fl82_0 : fldI Tryd.prog 82 0 = some (0, some 5) := by kernel_rfl
theorem fl82_1 : fldI Tryd.prog 82 1 = some (5, none) := by kernel_rfl
theorem fl83_0 : fldI Tryd.prog 83 0 = some (0, some 5) := by kernel_rfl
theorem fl83_1 : fldI Tryd.prog 83 1 = some (5, none) := by kernel_rfl
theorem fl102_0 : fldI Tryd.prog 102 0 = some (0, none) := by kernel_rfl
theorem fl102_1 : fldI Tryd.prog 102 1 = some (1, none) := by kernel_rfl
theorem fl103_0 : fldI Tryd.prog 103 0 = some (0, none) := by kernel_rfl
theorem fl103_1 : fldI Tryd.prog 103 1 = some (1, none) := by kernel_rfl
theorem fl123_0 : fldI Tryd.prog 123 0 = some (0, none) := by kernel_rfl
theorem fl123_1 : fldI Tryd.prog 123 1 = some (1, none) := by kernel_rfl
theorem fl124_0 : fldI Tryd.prog 124 0 = some (0, none) := by kernel_rfl
theorem fl124_1 : fldI Tryd.prog 124 1 = some (1, none) := by kernel_rfl
theorem fl154_0 : fldI Tryd.prog 154 0 = some (0, none) := by kernel_rfl
theorem fl154_1 : fldI Tryd.prog 154 1 = some (1, none) := by kernel_rfl
theorem fl154_2 : fldI Tryd.prog 154 2 = some (2, none) := by kernel_rfl
theorem fl154_3 : fldI Tryd.prog 154 3 = some (3, none) := by kernel_rfl
theorem fl155_0 : fldI Tryd.prog 155 0 = some (0, none) := by kernel_rfl
theorem fl155_1 : fldI Tryd.prog 155 1 = some (1, none) := by kernel_rfl
theorem fl155_2 : fldI Tryd.prog 155 2 = some (2, none) := by kernel_rfl
theorem fl155_3 : fldI Tryd.prog 155 3 = some (3, none) := by kernel_rfl
theorem fl157_0 : fldI Tryd.prog 157 0 = some (0, some 0) := by kernel_rfl
theorem fl158_0 : fldI Tryd.prog 158 0 = some (0, some 0) := by kernel_rfl
theorem fl164_0 : fldI Tryd.prog 164 0 = some (0, none) := by kernel_rfl
theorem fl164_1 : fldI Tryd.prog 164 1 = some (1, none) := by kernel_rfl
theorem fl164_2 : fldI Tryd.prog 164 2 = some (2, none) := by kernel_rfl
theorem fl164_3 : fldI Tryd.prog 164 3 = some (3, none) := by kernel_rfl
theorem fl164_4 : fldI Tryd.prog 164 4 = some (4, none) := by kernel_rfl
theorem fl164_5 : fldI Tryd.prog 164 5 = some (5, none) := by kernel_rfl
theorem fl164_6 : fldI Tryd.prog 164 6 = some (6, none) := by kernel_rfl
theorem fl164_7 : fldI Tryd.prog 164 7 = some (7, none) := by kernel_rfl
theorem fl164_8 : fldI Tryd.prog 164 8 = some (8, none) := by kernel_rfl
theorem fl164_9 : fldI Tryd.prog 164 9 = some (9, none) := by kernel_rfl
theorem fl164_10 : fldI Tryd.prog 164 10 = some (10, none) := by kernel_rfl
theorem fl165_0 : fldI Tryd.prog 165 0 = some (0, none) := by kernel_rfl
theorem fl165_1 : fldI Tryd.prog 165 1 = some (1, none) := by kernel_rfl
theorem fl165_2 : fldI Tryd.prog 165 2 = some (2, none) := by kernel_rfl
theorem fl165_3 : fldI Tryd.prog 165 3 = some (3, none) := by kernel_rfl
theorem fl165_4 : fldI Tryd.prog 165 4 = some (4, none) := by kernel_rfl
theorem fl165_5 : fldI Tryd.prog 165 5 = some (5, none) := by kernel_rfl
theorem fl165_6 : fldI Tryd.prog 165 6 = some (6, none) := by kernel_rfl
theorem fl165_7 : fldI Tryd.prog 165 7 = some (7, none) := by kernel_rfl
theorem fl165_8 : fldI Tryd.prog 165 8 = some (8, none) := by kernel_rfl
theorem fl165_9 : fldI Tryd.prog 165 9 = some (9, none) := by kernel_rfl
theorem fl165_10 : fldI Tryd.prog 165 10 = some (10, none) := by kernel_rfl
theorem nt0 : nilTy Tryd.prog 0 = 0 := by kernel_rfl
theorem nt1 : nilTy Tryd.prog 1 = 3 := by kernel_rfl
theorem nt2 : nilTy Tryd.prog 2 = 0 := by kernel_rfl
theorem nt3 : nilTy Tryd.prog 3 = 0 := by kernel_rfl
theorem nt4 : nilTy Tryd.prog 4 = 0 := by kernel_rfl
theorem nt5 : nilTy Tryd.prog 5 = 0 := by kernel_rfl
theorem nt6 : nilTy Tryd.prog 6 = 0 := by kernel_rfl
theorem nt7 : nilTy Tryd.prog 7 = 0 := by kernel_rfl
theorem nt8 : nilTy Tryd.prog 8 = 0 := by kernel_rfl
theorem nt9 : nilTy Tryd.prog 9 = 0 := by kernel_rfl
theorem nt10 : nilTy Tryd.prog 10 = 0 := by kernel_rfl
theorem nt11 : nilTy Tryd.prog 11 = 0 := by kernel_rfl
theorem nt12 : nilTy Tryd.prog 12 = 0 := by kernel_rfl
theorem nt13 : nilTy Tryd.prog 13 = 0 := by kernel_rfl
theorem nt14 : nilTy Tryd.prog 14 = 0 := by kernel_rfl
theorem nt15 : nilTy Tryd.prog 15 = 1 := by kernel_rfl
theorem nt16 : nilTy Tryd.prog 16 = 1 := by kernel_rfl
theorem nt17 : nilTy Tryd.prog 17 = 1 := by kernel_rfl
theorem nt18 : nilTy Tryd.prog 18 = 0 := by kernel_rfl
theorem nt19 : nilTy Tryd.prog 19 = 0 := by kernel_rfl
theorem nt20 : nilTy Tryd.prog 20 = 0 := by kernel_rfl
theorem nt21 : nilTy Tryd.prog 21 = 0 := by kernel_rfl
theorem nt22 : nilTy Tryd.prog 22 = 2 := by kernel_rfl
theorem nt23 : nilTy Tryd.prog 23 = 0 := by kernel_rfl
theorem nt24 : nilTy Tryd.prog 24 = 2 := by kernel_rfl
theorem nt25 : nilTy Tryd.prog 25 = 2 := by kernel_rfl
theorem nt26 : nilTy Tryd.prog 26 = 0 := by kernel_rfl
theorem nt27 : nilTy Tryd.prog 27 = 0 := by kernel_rfl
theorem nt28 : nilTy Tryd.prog 28 = 0 := by kernel_rfl
theorem nt29 : nilTy Tryd.prog 29 = 0 := by kernel_rfl
theorem nt30 : nilTy Tryd.prog 30 = 0 := by kernel_rfl
theorem nt31 : nilTy Tryd.prog 31 = 0 := by kernel_rfl
theorem nt32 : nilTy Tryd.prog 32 = 0 := by kernel_rfl
theorem nt33 : nilTy Tryd.prog 33 = 0 := by kernel_rfl
theorem nt34 : nilTy Tryd.prog 34 = 0 := by kernel_rfl
theorem nt35 : nilTy Tryd.prog 35 = 0 := by kernel_rfl
theorem nt36 : nilTy Tryd.prog 36 = 3 := by kernel_rfl
theorem nt37 : nilTy Tryd.prog 37 = 3 := by kernel_rfl
theorem nt38 : nilTy Tryd.prog 38 = 3 := by kernel_rfl
theorem nt39 : nilTy Tryd.prog 39 = 3 := by kernel_rfl
theorem nt40 : nilTy Tryd.prog 40 = 3 := by kernel_rfl
theorem nt41 : nilTy Tryd.prog 41 = 3 := by kernel_rfl
theorem nt42 : nilTy Tryd.prog 42 = 3 := by kernel_rfl
theorem nt43 : nilTy Tryd.prog 43 = 2 := by kernel_rfl
theorem nt44 : nilTy Tryd.prog 44 = 2 := by kernel_rfl
theorem nt45 : nilTy Tryd.prog 45 = 1 := by kernel_rfl
theorem nt46 : nilTy Tryd.prog 46 = 3 := by kernel_rfl
theorem nt47 : nilTy Tryd.prog 47 = 0 := by kernel_rfl
theorem nt48 : nilTy Tryd.prog 48 = 0 := by kernel_rfl
theorem nt49 : nilTy Tryd.prog 49 = 3 := by kernel_rfl
theorem nt50 : nilTy Tryd.prog 50 = 3 := by kernel_rfl
theorem nt51 : nilTy Tryd.prog 51 = 2 := by kernel_rfl
theorem nt52 : nilTy Tryd.prog 52 = 3 := by kernel_rfl
theorem nt53 : nilTy Tryd.prog 53 = 3 := by kernel_rfl
theorem nt54 : nilTy Tryd.prog 54 = 3 := by kernel_rfl
theorem nt55 : nilTy Tryd.prog 55 = 3 := by kernel_rfl
theorem nt56 : nilTy Tryd.prog 56 = 0 := by kernel_rfl
theorem nt57 : nilTy Tryd.prog 57 = 3 := by kernel_rfl
theorem nt58 : nilTy Tryd.prog 58 = 3 := by kernel_rfl
theorem nt59 : nilTy Tryd.prog 59 = 0 := by kernel_rfl
theorem nt60 : nilTy Tryd.prog 60 = 3 := by kernel_rfl
theorem nt61 : nilTy Tryd.prog 61 = 0 := by kernel_rfl
theorem nt62 : nilTy Tryd.prog 62 = 3 := by kernel_rfl
theorem nt63 : nilTy Tryd.prog 63 = 3 := by kernel_rfl
theorem nt64 : nilTy Tryd.prog 64 = 2 := by kernel_rfl
theorem nt65 : nilTy Tryd.prog 65 = 1 := by kernel_rfl
theorem nt66 : nilTy Tryd.prog 66 = 0 := by kernel_rfl
theorem nt67 : nilTy Tryd.prog 67 = 0 := by kernel_rfl
theorem nt68 : nilTy Tryd.prog 68 = 0 := by kernel_rfl
theorem nt69 : nilTy Tryd.prog 69 = 0 := by kernel_rfl
theorem nt70 : nilTy Tryd.prog 70 = 0 := by kernel_rfl
theorem nt71 : nilTy Tryd.prog 71 = 3 := by kernel_rfl
theorem nt72 : nilTy Tryd.prog 72 = 3 := by kernel_rfl
theorem nt73 : nilTy Tryd.prog 73 = 3 := by kernel_rfl
theorem nt74 : nilTy Tryd.prog 74 = 2 := by kernel_rfl
theorem nt75 : nilTy Tryd.prog 75 = 4 := by kernel_rfl
theorem nt76 : nilTy Tryd.prog 76 = 0 := by kernel_rfl
theorem nt77 : nilTy Tryd.prog 77 = 0 := by kernel_rfl
theorem nt78 : nilTy Tryd.prog 78 = 0 := by kernel_rfl
theorem nt79 : nilTy Tryd.prog 79 = 3 := by kernel_rfl
theorem nt80 : nilTy Tryd.prog 80 = 0 := by kernel_rfl
theorem nt81 : nilTy Tryd.prog 81 = 0 := by kernel_rfl
theorem nt82 : nilTy Tryd.prog 82 = 0 := by kernel_rfl
theorem nt83 : nilTy Tryd.prog 83 = 0 := by kernel_rfl
theorem nt84 : nilTy Tryd.prog 84 = 3 := by kernel_rfl
theorem nt85 : nilTy Tryd.prog 85 = 3 := by kernel_rfl
theorem nt86 : nilTy Tryd.prog 86 = 3 := by kernel_rfl
theorem nt87 : nilTy Tryd.prog 87 = 3 := by kernel_rfl
theorem nt88 : nilTy Tryd.prog 88 = 3 := by kernel_rfl
theorem nt89 : nilTy Tryd.prog 89 = 3 := by kernel_rfl
theorem nt90 : nilTy Tryd.prog 90 = 3 := by kernel_rfl
theorem nt91 : nilTy Tryd.prog 91 = 3 := by kernel_rfl
theorem nt92 : nilTy Tryd.prog 92 = 3 := by kernel_rfl
theorem nt93 : nilTy Tryd.prog 93 = 3 := by kernel_rfl
theorem nt94 : nilTy Tryd.prog 94 = 3 := by kernel_rfl
theorem nt95 : nilTy Tryd.prog 95 = 3 := by kernel_rfl
theorem nt96 : nilTy Tryd.prog 96 = 3 := by kernel_rfl
theorem nt97 : nilTy Tryd.prog 97 = 3 := by kernel_rfl
theorem nt98 : nilTy Tryd.prog 98 = 3 := by kernel_rfl
theorem nt99 : nilTy Tryd.prog 99 = 3 := by kernel_rfl
theorem nt100 : nilTy Tryd.prog 100 = 2 := by kernel_rfl
theorem nt101 : nilTy Tryd.prog 101 = 3 := by kernel_rfl
theorem nt102 : nilTy Tryd.prog 102 = 0 := by kernel_rfl
theorem nt103 : nilTy Tryd.prog 103 = 0 := by kernel_rfl
theorem nt104 : nilTy Tryd.prog 104 = 0 := by kernel_rfl
theorem nt105 : nilTy Tryd.prog 105 = 3 := by kernel_rfl
theorem nt106 : nilTy Tryd.prog 106 = 3 := by kernel_rfl
theorem nt107 : nilTy Tryd.prog 107 = 0 := by kernel_rfl
theorem nt108 : nilTy Tryd.prog 108 = 3 := by kernel_rfl
theorem nt109 : nilTy Tryd.prog 109 = 3 := by kernel_rfl
theorem nt110 : nilTy Tryd.prog 110 = 3 := by kernel_rfl
theorem nt111 : nilTy Tryd.prog 111 = 3 := by kernel_rfl
theorem nt112 : nilTy Tryd.prog 112 = 0 := by kernel_rfl
theorem nt113 : nilTy Tryd.prog 113 = 3 := by kernel_rfl
theorem nt114 : nilTy Tryd.prog 114 = 3 := by kernel_rfl
theorem nt115 : nilTy Tryd.prog 115 = 3 := by kernel_rfl
theorem nt116 : nilTy Tryd.prog 116 = 3 := by kernel_rfl
theorem nt117 : nilTy Tryd.prog 117 = 3 := by kernel_rfl
theorem nt118 : nilTy Tryd.prog 118 = 3 := by kernel_rfl
theorem nt119 : nilTy Tryd.prog 119 = 3 := by kernel_rfl
theorem nt120 : nilTy Tryd.prog 120 = 3 := by kernel_rfl
theorem nt121 : nilTy Tryd.prog 121 = 1 := by kernel_rfl
theorem nt122 : nilTy Tryd.prog 122 = 2 := by kernel_rfl
theorem nt123 : nilTy Tryd.prog 123 = 0 := by kernel_rfl
theorem nt124 : nilTy Tryd.prog 124 = 0 := by kernel_rfl
theorem nt125 : nilTy Tryd.prog 125 = 3 := by kernel_rfl
theorem nt126 : nilTy Tryd.prog 126 = 0 := by kernel_rfl
theorem nt127 : nilTy Tryd.prog 127 = 0 := by kernel_rfl
theorem nt128 : nilTy Tryd.prog 128 = 0 := by kernel_rfl
theorem nt129 : nilTy Tryd.prog 129 = 3 := by kernel_rfl
theorem nt130 : nilTy Tryd.prog 130 = 3 := by kernel_rfl
theorem nt131 : nilTy Tryd.prog 131 = 0 := by kernel_rfl
theorem nt132 : nilTy Tryd.prog 132 = 1 := by kernel_rfl
theorem nt133 : nilTy Tryd.prog 133 = 3 := by kernel_rfl
theorem nt134 : nilTy Tryd.prog 134 = 3 := by kernel_rfl
theorem nt135 : nilTy Tryd.prog 135 = 0 := by kernel_rfl
theorem nt136 : nilTy Tryd.prog 136 = 3 := by kernel_rfl
theorem nt137 : nilTy Tryd.prog 137 = 3 := by kernel_rfl
theorem nt138 : nilTy Tryd.prog 138 = 0 := by kernel_rfl
theorem nt139 : nilTy Tryd.prog 139 = 0 := by kernel_rfl
theorem nt140 : nilTy Tryd.prog 140 = 3 := by kernel_rfl
theorem nt141 : nilTy Tryd.prog 141 = 3 := by kernel_rfl
theorem nt142 : nilTy Tryd.prog 142 = 0 := by kernel_rfl
theorem nt143 : nilTy Tryd.prog 143 = 3 := by kernel_rfl
theorem nt144 : nilTy Tryd.prog 144 = 3 := by kernel_rfl
theorem nt145 : nilTy Tryd.prog 145 = 3 := by kernel_rfl
theorem nt146 : nilTy Tryd.prog 146 = 0 := by kernel_rfl
theorem nt147 : nilTy Tryd.prog 147 = 0 := by kernel_rfl
theorem nt148 : nilTy Tryd.prog 148 = 0 := by kernel_rfl
theorem nt149 : nilTy Tryd.prog 149 = 0 := by kernel_rfl
theorem nt150 : nilTy Tryd.prog 150 = 3 := by kernel_rfl
theorem nt151 : nilTy Tryd.prog 151 = 3 := by kernel_rfl
theorem nt152 : nilTy Tryd.prog 152 = 0 := by kernel_rfl
theorem nt153 : nilTy Tryd.prog 153 = 0 := by kernel_rfl
theorem nt154 : nilTy Tryd.prog 154 = 0 := by kernel_rfl
theorem nt155 : nilTy Tryd.prog 155 = 0 := by kernel_rfl
theorem nt156 : nilTy Tryd.prog 156 = 0 := by kernel_rfl
theorem nt157 : nilTy Tryd.prog 157 = 0 := by kernel_rfl
theorem nt158 : nilTy Tryd.prog 158 = 0 := by kernel_rfl
theorem nt159 : nilTy Tryd.prog 159 = 0 := by kernel_rfl
theorem nt160 : nilTy Tryd.prog 160 = 0 := by kernel_rfl
theorem nt161 : nilTy Tryd.prog 161 = 3 := by kernel_rfl
theorem nt162 : nilTy Tryd.prog 162 = 0 := by kernel_rfl
theorem nt163 : nilTy Tryd.prog 163 = 0 := by kernel_rfl
theorem nt164 : nilTy Tryd.prog 164 = 0 := by kernel_rfl
theorem nt165 : nilTy Tryd.prog 165 = 0 := by kernel_rfl
theorem ap22 : appI Tryd.prog 22 = some (33, 2, 16) := by kernel_rfl
theorem ap24 : appI Tryd.prog 24 = some (35, 4, 32) := by kernel_rfl
theorem ap25 : appI Tryd.prog 25 = some (83, 6, 48) := by kernel_rfl
theorem ap43 : appI Tryd.prog 43 = some (51, 1, 24) := by kernel_rfl
theorem ap44 : appI Tryd.prog 44 = some (3, 1, 8) := by kernel_rfl
theorem ap51 : appI Tryd.prog 51 = some (29, 6, 112) := by kernel_rfl
theorem ap64 : appI Tryd.prog 64 = some (70, 4, 64) := by kernel_rfl
theorem ap74 : appI Tryd.prog 74 = some (103, 2, 16) := by kernel_rfl
theorem ap100 : appI Tryd.prog 100 = some (9, 1, 16) := by kernel_rfl
theorem ap122 : appI Tryd.prog 122 = some (5, 1, 1) := by kernel_rfl
theorem fnok2 : fnOK Tryd.prog 2 = true := by kernel_rfl
theorem fnok3 : fnOK Tryd.prog 3 = true := by kernel_rfl
theorem fnok4 : fnOK Tryd.prog 4 = true := by kernel_rfl
theorem fnok5 : fnOK Tryd.prog 5 = true := by kernel_rfl
theorem fnok6 : fnOK Tryd.prog 6 = true := by kernel_rfl
theorem fnok7 : fnOK Tryd.prog 7 = true := by kernel_rfl
theorem fnok8 : fnOK Tryd.prog 8 = true := by kernel_rfl
theorem fnok9 : fnOK Tryd.prog 9 = true := by kernel_rfl
theorem fnok10 : fnOK Tryd.prog 10 = true := by kernel_rfl
theorem fnok11 : fnOK Tryd.prog 11 = true := by kernel_rfl
theorem fnok12 : fnOK Tryd.prog 12 = true := by kernel_rfl
theorem fnok13 : fnOK Tryd.prog 13 = true := by kernel_rfl
theorem fnok14 : fnOK Tryd.prog 14 = true := by kernel_rfl
theorem fnok15 : fnOK Tryd.prog 15 = true := by kernel_rfl
theorem fnok16 : fnOK Tryd.prog 16 = true := by kernel_rfl
theorem fnok17 : fnOK Tryd.prog 17 = true := by kernel_rfl
theorem fnok18 : fnOK Tryd.prog 18 = true := by kernel_rfl
theorem fnok19 : fnOK Tryd.prog 19 = true := by kernel_rfl
theorem fnok20 : fnOK Tryd.prog 20 = true := by kernel_rfl
theorem fnok21 : fnOK Tryd.prog 21 = true := by kernel_rfl
theorem fnok22 : fnOK Tryd.prog 22 = true := by kernel_rfl
theorem fnok23 : fnOK Tryd.prog 23 = true := by kernel_rfl
theorem fnok24 : fnOK Tryd.prog 24 = true := by kernel_rfl
theorem fnok25 : fnOK Tryd.prog 25 = true := by kernel_rfl
theorem fnok26 : fnOK Tryd.prog 26 = true := by kernel_rfl
theorem fnok27 : fnOK Tryd.prog 27 = true := by kernel_rfl
theorem fnok28 : fnOK Tryd.prog 28 = true := by kernel_rfl
theorem fnok29 : fnOK Tryd.prog 29 = true := by kernel_rfl
theorem fnok30 : fnOK Tryd.prog 30 = true := by kernel_rfl
theorem fnok31 : fnOK Tryd.prog 31 = true := by kernel_rfl
theorem fnok32 : fnOK Tryd.prog 32 = true := by kernel_rfl
theorem fnok33 : fnOK Tryd.prog 33 = true := by kernel_rfl
theorem fnok34 : fnOK Tryd.prog 34 = true := by kernel_rfl
theorem fnok35 : fnOK Tryd.prog 35 = true := by kernel_rfl
theorem fnok36 : fnOK Tryd.prog 36 = true := by kernel_rfl
theorem fnok37 : fnOK Tryd.prog 37 = true := by kernel_rfl
theorem fnok38 : fnOK Tryd.prog 38 = true := by kernel_rfl
theorem fnok39 : fnOK Tryd.prog 39 = true := by kernel_rfl
theorem fnok40 : fnOK Tryd.prog 40 = true := by kernel_rfl
theorem fnok41 : fnOK Tryd.prog 41 = true := by kernel_rfl
theorem fnok42 : fnOK Tryd.prog 42 = true := by kernel_rfl
theorem fnok43 : fnOK Tryd.prog 43 = true := by kernel_rfl
theorem fnok44 : fnOK Tryd.prog 44 = true := by kernel_rfl
theorem fnok45 : fnOK Tryd.prog 45 = true := by kernel_rfl
theorem fnok46 : fnOK Tryd.prog 46 = true := by kernel_rfl
theorem fnok47 : fnOK Tryd.prog 47 = true := by kernel_rfl
theorem fnok48 : fnOK Tryd.prog 48 = true := by kernel_rfl
theorem fnok49 : fnOK Tryd.prog 49 = true := by kernel_rfl
theorem fnok50 : fnOK Tryd.prog 50 = true := by kernel_rfl
theorem fnok51 : fnOK Tryd.prog 51 = true := by kernel_rfl
theorem fnok52 : fnOK Tryd.prog 52 = true := by kernel_rfl
theorem fnok53 : fnOK Tryd.prog 53 = true := by kernel_rfl
theorem fnok54 : fnOK Tryd.prog 54 = true := by kernel_rfl
theorem fnok55 : fnOK Tryd.prog 55 = true := by kernel_rfl
theorem fnok56 : fnOK Tryd.prog 56 = true := by kernel_rfl
theorem fnok57 : fnOK Tryd.prog 57 = true := by kernel_rfl
theorem fnok58 : fnOK Tryd.prog 58 = true := by kernel_rfl
theorem fnok59 : fnOK Tryd.prog 59 = true := by kernel_rfl
theorem fnok60 : fnOK Tryd.prog 60 = true := by kernel_rfl
theorem fnok61 : fnOK Tryd.prog 61 = true := by kernel_rfl
theorem fnok62 : fnOK Tryd.prog 62 = true := by kernel_rfl
theorem fnok63 : fnOK Tryd.prog 63 = true := by kernel_rfl
theorem fnok64 : fnOK Tryd.prog 64 = true := by kernel_rfl
theorem fnok65 : fnOK Tryd.prog 65 = true := by kernel_rfl
theorem fnok66 : fnOK Tryd.prog 66 = true := by kernel_rfl
theorem fnok67 : fnOK Tryd.prog 67 = true := by kernel_rfl
theorem fnok68 : fnOK Tryd.prog 68 = true := by kernel_rfl
theorem fnok69 : fnOK Tryd.prog 69 = true := by kernel_rfl
theorem fnok70 : fnOK Tryd.prog 70 = true := by kernel_rfl
theorem fnok71 : fnOK Tryd.prog 71 = true := by kernel_rfl
theorem fnok72 : fnOK Tryd.prog 72 = true := by kernel_rfl
theorem fnok73 : fnOK Tryd.prog 73 = true := by kernel_rfl
theorem fnok74 : fnOK Tryd.prog 74 = true := by kernel_rfl
theorem fnok75 : fnOK Tryd.prog 75 = true := by kernel_rfl
theorem fnok76 : fnOK Tryd.prog 76 = true := by kernel_rfl
theorem fnok77 : fnOK Tryd.prog 77 = true := by kernel_rfl
theorem fnok78 : fnOK Tryd.prog 78 = true := by kernel_rfl
theorem fnok79 : fnOK Tryd.prog 79 = true := by kernel_rfl
theorem fnok80 : fnOK Tryd.prog 80 = true := by kernel_rfl
theorem fnok81 : fnOK Tryd.prog 81 = true := by kernel_rfl
theorem fnok82 : fnOK Tryd.prog 82 = true := by kernel_rfl
theorem fnok83 : fnOK Tryd.prog 83 = true := by kernel_rfl
theorem fnok84 : fnOK Tryd.prog 84 = true := by kernel_rfl
theorem fnok85 : fnOK Tryd.prog 85 = true := by kernel_rfl
theorem fnok86 : fnOK Tryd.prog 86 = true := by kernel_rfl
theorem fnok89 : fnOK Tryd.prog 89 = true := by kernel_rfl
theorem fnok90 : fnOK Tryd.prog 90 = true := by kernel_rfl
theorem fnok91 : fnOK Tryd.prog 91 = true := by kernel_rfl
theorem fnok92 : fnOK Tryd.prog 92 = true := by kernel_rfl
theorem fnok93 : fnOK Tryd.prog 93 = true := by kernel_rfl
theorem fnok94 : fnOK Tryd.prog 94 = true := by kernel_rfl
theorem fnok95 : fnOK Tryd.prog 95 = true := by kernel_rfl
theorem fnok96 : fnOK Tryd.prog 96 = true := by kernel_rfl
theorem fnok97 : fnOK Tryd.prog 97 = true := by kernel_rfl
theorem fnok98 : fnOK Tryd.prog 98 = true := by kernel_rfl
theorem fnok99 : fnOK Tryd.prog 99 = true := by kernel_rfl
theorem fnok122 : fnOK Tryd.prog 122 = true := by kernel_rfl
theorem eqI32 (d : Nat) (w : World) (a0 b0 : Int) (a1 b1 : Int) : (Op.equalIn (d + 2) 32 (.agg #[.int .i64 a0, .int .i64 a1]) (.agg #[.int .i64 b0, .int .i64 b1])).run Tryd.prog w = .ok ((a0 == b0) && ((a1 == b1))) w := by
  refine (eqA_struct (d := d + 1) (r := (a0 == b0) && ((a1 == b1) && true)) Tryd.underlying32 (by kernel_rfl) ?_).trans (by simp only [Bool.and_true, Bool.and_assoc])
  refine eqF_cons (by decide) (part_one Tryd.underlying31 rfl w _ _ rfl) (part_one Tryd.underlying31 rfl w _ _ rfl) (eqL_int Tryd.underlying31 d w a0 b0) ?_
  refine eqF_cons (by decide) (part_one Tryd.underlying3 rfl w _ _ rfl) (part_one Tryd.underlying3 rfl w _ _ rfl) (eqL_int Tryd.underlying3 d w a1 b1) ?_
  exact eqF_nil w
theorem eq32 {a0 b0 : Int} {a1 b1 : Int} : EqT Tryd.prog 32 [.int .i64 a0, .int .i64 a1] [.int .i64 b0, .int .i64 b1] := fun b h => by
  simp only [eqVs, eqV, Option.some.injEq] at h
  subst h
  exact eqS_of (by kernel_rfl) fun d w => eqI32 (d + 6) w a0 b0 a1 b1
theorem eqI33 (d : Nat) (w : World) (a0 b0 : Int) (a1 b1 : Int) : (Op.equalIn (d + 2) 33 (.agg #[.int .i64 a0, .int .i64 a1]) (.agg #[.int .i64 b0, .int .i64 b1])).run Tryd.prog w = .ok ((a0 == b0) && ((a1 == b1))) w := by
  refine (eqA_struct (d := d + 1) (r := (a0 == b0) && ((a1 == b1) && true)) Tryd.underlying33 (by kernel_rfl) ?_).trans (by simp only [Bool.and_true, Bool.and_assoc])
  refine eqF_cons (by decide) (part_one Tryd.underlying31 rfl w _ _ rfl) (part_one Tryd.underlying31 rfl w _ _ rfl) (eqL_int Tryd.underlying31 d w a0 b0) ?_
  refine eqF_cons (by decide) (part_one Tryd.underlying3 rfl w _ _ rfl) (part_one Tryd.underlying3 rfl w _ _ rfl) (eqL_int Tryd.underlying3 d w a1 b1) ?_
  exact eqF_nil w
theorem eq33 {a0 b0 : Int} {a1 b1 : Int} : EqT Tryd.prog 33 [.int .i64 a0, .int .i64 a1] [.int .i64 b0, .int .i64 b1] := fun b h => by
  simp only [eqVs, eqV, Option.some.injEq] at h
  subst h
  exact eqS_of (by kernel_rfl) fun d w => eqI33 (d + 6) w a0 b0 a1 b1
theorem eqI34 (d : Nat) (w : World) (a0 b0 : Int) (a1 b1 : Bool) (a2 b2 : Int) (a3 b3 : Int) : (Op.equalIn (d + 3) 34 (.agg #[.int .i64 a0, .bool a1, .int .i64 a2, .int .i64 a3]) (.agg #[.int .i64 b0, .bool b1, .int .i64 b2, .int .i64 b3])).run Tryd.prog w = .ok ((a0 == b0) && ((a1 == b1) && ((a2 == b2) && ((a3 == b3))))) w := by
  refine (eqA_struct (d := d + 2) (r := (a0 == b0) && ((a1 == b1) && (((a2 == b2) && ((a3 == b3))) && true))) Tryd.underlying34 (by kernel_rfl) ?_).trans (by simp only [Bool.and_true, Bool.and_assoc])
  refine eqF_cons (by decide) (part_one Tryd.underlying30 rfl w _ _ rfl) (part_one Tryd.underlying30 rfl w _ _ rfl) (eqL_int Tryd.underlying30 (d + 1) w a0 b0) ?_
  refine eqF_cons (by decide) (part_one Tryd.underlying4 rfl w _ _ rfl) (part_one Tryd.underlying4 rfl w _ _ rfl) (eqL_bool Tryd.underlying4 (d + 1) w a1 b1) ?_
  refine eqF_cons (by decide) (part_agg (n := 2) Tryd.underlying33 rfl (by kernel_rfl) w _ _ #[.int .i64 a2, .int .i64 a3] (by kernel_rfl)) (part_agg (n := 2) Tryd.underlying33 rfl (by kernel_rfl) w _ _ #[.int .i64 b2, .int .i64 b3] (by kernel_rfl)) (eqI33 d w a2 b2 a3 b3) ?_
  exact eqF_nil w
theorem eq34 {a0 b0 : Int} {a1 b1 : Bool} {a2 b2 : Int} {a3 b3 : Int} : EqT Tryd.prog 34 [.int .i64 a0, .bool a1, .int .i64 a2, .int .i64 a3] [.int .i64 b0, .bool b1, .int .i64 b2, .int .i64 b3] := fun b h => by
  simp only [eqVs, eqV, Option.some.injEq] at h
  subst h
  exact eqS_of (by kernel_rfl) fun d w => eqI34 (d + 5) w a0 b0 a1 b1 a2 b2 a3 b3
theorem eqI35 (d : Nat) (w : World) (a0 b0 : Int) (a1 b1 : Bool) (a2 b2 : Int) (a3 b3 : Int) : (Op.equalIn (d + 3) 35 (.agg #[.int .i64 a0, .bool a1, .int .i64 a2, .int .i64 a3]) (.agg #[.int .i64 b0, .bool b1, .int .i64 b2, .int .i64 b3])).run Tryd.prog w = .ok ((a0 == b0) && ((a1 == b1) && ((a2 == b2) && ((a3 == b3))))) w := by
  refine (eqA_struct (d := d + 2) (r := (a0 == b0) && ((a1 == b1) && (((a2 == b2) && ((a3 == b3))) && true))) Tryd.underlying35 (by kernel_rfl) ?_).trans (by simp only [Bool.and_true, Bool.and_assoc])
  refine eqF_cons (by decide) (part_one Tryd.underlying30 rfl w _ _ rfl) (part_one Tryd.underlying30 rfl w _ _ rfl) (eqL_int Tryd.underlying30 (d + 1) w a0 b0) ?_
  refine eqF_cons (by decide) (part_one Tryd.underlying4 rfl w _ _ rfl) (part_one Tryd.underlying4 rfl w _ _ rfl) (eqL_bool Tryd.underlying4 (d + 1) w a1 b1) ?_
  refine eqF_cons (by decide) (part_agg (n := 2) Tryd.underlying33 rfl (by kernel_rfl) w _ _ #[.int .i64 a2, .int .i64 a3] (by kernel_rfl)) (part_agg (n := 2) Tryd.underlying33 rfl (by kernel_rfl) w _ _ #[.int .i64 b2, .int .i64 b3] (by kernel_rfl)) (eqI33 d w a2 b2 a3 b3) ?_
  exact eqF_nil w
theorem eq35 {a0 b0 : Int} {a1 b1 : Bool} {a2 b2 : Int} {a3 b3 : Int} : EqT Tryd.prog 35 [.int .i64 a0, .bool a1, .int .i64 a2, .int .i64 a3] [.int .i64 b0, .bool b1, .int .i64 b2, .int .i64 b3] := fun b h => by
  simp only [eqVs, eqV, Option.some.injEq] at h
  subst h
  exact eqS_of (by kernel_rfl) fun d w => eqI35 (d + 5) w a0 b0 a1 b1 a2 b2 a3 b3
theorem eqI80 (d : Nat) (w : World) (a0 b0 : Int) (a1 b1 : Int) (a2 b2 : Bool) (a3 b3 : Int) (a4 b4 : Int) : (Op.equalIn (d + 4) 80 (.agg #[.int .i64 a0, .int .i64 a1, .bool a2, .int .i64 a3, .int .i64 a4]) (.agg #[.int .i64 b0, .int .i64 b1, .bool b2, .int .i64 b3, .int .i64 b4])).run Tryd.prog w = .ok ((a0 == b0) && ((a1 == b1) && ((a2 == b2) && ((a3 == b3) && ((a4 == b4)))))) w := by
  refine (eqA_struct (d := d + 3) (r := (a0 == b0) && (((a1 == b1) && ((a2 == b2) && ((a3 == b3) && ((a4 == b4))))) && true)) Tryd.underlying80 (by kernel_rfl) ?_).trans (by simp only [Bool.and_true, Bool.and_assoc])
  refine eqF_cons (by decide) (part_one Tryd.underlying3 rfl w _ _ rfl) (part_one Tryd.underlying3 rfl w _ _ rfl) (eqL_int Tryd.underlying3 (d + 2) w a0 b0) ?_
  refine eqF_cons (by decide) (part_agg (n := 4) Tryd.underlying35 rfl (by kernel_rfl) w _ _ #[.int .i64 a1, .bool a2, .int .i64 a3, .int .i64 a4] (by kernel_rfl)) (part_agg (n := 4) Tryd.underlying35 rfl (by kernel_rfl) w _ _ #[.int .i64 b1, .bool b2, .int .i64 b3, .int .i64 b4] (by kernel_rfl)) (eqI35 d w a1 b1 a2 b2 a3 b3 a4 b4) ?_
  exact eqF_nil w
theorem eq80 {a0 b0 : Int} {a1 b1 : Int} {a2 b2 : Bool} {a3 b3 : Int} {a4 b4 : Int} : EqT Tryd.prog 80 [.int .i64 a0, .int .i64 a1, .bool a2, .int .i64 a3, .int .i64 a4] [.int .i64 b0, .int .i64 b1, .bool b2, .int .i64 b3, .int .i64 b4] := fun b h => by
  simp only [eqVs, eqV, Option.some.injEq] at h
  subst h
  exact eqS_of (by kernel_rfl) fun d w => eqI80 (d + 4) w a0 b0 a1 b1 a2 b2 a3 b3 a4 b4
theorem eqI81 (d : Nat) (w : World) (a0 b0 : Int) (a1 b1 : Int) (a2 b2 : Bool) (a3 b3 : Int) (a4 b4 : Int) : (Op.equalIn (d + 4) 81 (.agg #[.int .i64 a0, .int .i64 a1, .bool a2, .int .i64 a3, .int .i64 a4]) (.agg #[.int .i64 b0, .int .i64 b1, .bool b2, .int .i64 b3, .int .i64 b4])).run Tryd.prog w = .ok ((a0 == b0) && ((a1 == b1) && ((a2 == b2) && ((a3 == b3) && ((a4 == b4)))))) w := by
  refine (eqA_struct (d := d + 3) (r := (a0 == b0) && (((a1 == b1) && ((a2 == b2) && ((a3 == b3) && ((a4 == b4))))) && true)) Tryd.underlying81 (by kernel_rfl) ?_).trans (by simp only [Bool.and_true, Bool.and_assoc])
  refine eqF_cons (by decide) (part_one Tryd.underlying3 rfl w _ _ rfl) (part_one Tryd.underlying3 rfl w _ _ rfl) (eqL_int Tryd.underlying3 (d + 2) w a0 b0) ?_
  refine eqF_cons (by decide) (part_agg (n := 4) Tryd.underlying35 rfl (by kernel_rfl) w _ _ #[.int .i64 a1, .bool a2, .int .i64 a3, .int .i64 a4] (by kernel_rfl)) (part_agg (n := 4) Tryd.underlying35 rfl (by kernel_rfl) w _ _ #[.int .i64 b1, .bool b2, .int .i64 b3, .int .i64 b4] (by kernel_rfl)) (eqI35 d w a1 b1 a2 b2 a3 b3 a4 b4) ?_
  exact eqF_nil w
theorem eq81 {a0 b0 : Int} {a1 b1 : Int} {a2 b2 : Bool} {a3 b3 : Int} {a4 b4 : Int} : EqT Tryd.prog 81 [.int .i64 a0, .int .i64 a1, .bool a2, .int .i64 a3, .int .i64 a4] [.int .i64 b0, .int .i64 b1, .bool b2, .int .i64 b3, .int .i64 b4] := fun b h => by
  simp only [eqVs, eqV, Option.some.injEq] at h
  subst h
  exact eqS_of (by kernel_rfl) fun d w => eqI81 (d + 4) w a0 b0 a1 b1 a2 b2 a3 b3 a4 b4
theorem eqI82 (d : Nat) (w : World) (a0 b0 : Int) (a1 b1 : Int) (a2 b2 : Bool) (a3 b3 : Int) (a4 b4 : Int) (a5 b5 : Bool) : (Op.equalIn (d + 5) 82 (.agg #[.int .i64 a0, .int .i64 a1, .bool a2, .int .i64 a3, .int .i64 a4, .bool a5]) (.agg #[.int .i64 b0, .int .i64 b1, .bool b2, .int .i64 b3, .int .i64 b4, .bool b5])).run Tryd.prog w = .ok ((a0 == b0) && ((a1 == b1) && ((a2 == b2) && ((a3 == b3) && ((a4 == b4) && ((a5 == b5))))))) w := by
  refine (eqA_struct (d := d + 4) (r := ((a0 == b0) && ((a1 == b1) && ((a2 == b2) && ((a3 == b3) && ((a4 == b4)))))) && ((a5 == b5) && true)) Tryd.underlying82 (by kernel_rfl) ?_).trans (by simp only [Bool.and_true, Bool.and_assoc])
  refine eqF_cons (by decide) (part_agg (n := 5) Tryd.underlying81 rfl (by kernel_rfl) w _ _ #[.int .i64 a0, .int .i64 a1, .bool a2, .int .i64 a3, .int .i64 a4] (by kernel_rfl)) (part_agg (n := 5) Tryd.underlying81 rfl (by kernel_rfl) w _ _ #[.int .i64 b0, .int .i64 b1, .bool b2, .int .i64 b3, .int .i64 b4] (by kernel_rfl)) (eqI81 d w a0 b0 a1 b1 a2 b2 a3 b3 a4 b4) ?_
  refine eqF_cons (by decide) (part_one Tryd.underlying4 rfl w _ _ rfl) (part_one Tryd.underlying4 rfl w _ _ rfl) (eqL_bool Tryd.underlying4 (d + 3) w a5 b5) ?_
  exact eqF_nil w
theorem eq82 {a0 b0 : Int} {a1 b1 : Int} {a2 b2 : Bool} {a3 b3 : Int} {a4 b4 : Int} {a5 b5 : Bool} : EqT Tryd.prog 82 [.int .i64 a0, .int .i64 a1, .bool a2, .int .i64 a3, .int .i64 a4, .bool a5] [.int .i64 b0, .int .i64 b1, .bool b2, .int .i64 b3, .int .i64 b4, .bool b5] := fun b h => by
  simp only [eqVs, eqV, Option.some.injEq] at h
  subst h
  exact eqS_of (by kernel_rfl) fun d w => eqI82 (d + 3) w a0 b0 a1 b1 a2 b2 a3 b3 a4 b4 a5 b5
theorem eqI83 (d : Nat) (w : World) (a0 b0 : Int) (a1 b1 : Int) (a2 b2 : Bool) (a3 b3 : Int) (a4 b4 : Int) (a5 b5 : Bool) : (Op.equalIn (d + 5) 83 (.agg #[.int .i64 a0, .int .i64 a1, .bool a2, .int .i64 a3, .int .i64 a4, .bool a5]) (.agg #[.int .i64 b0, .int .i64 b1, .bool b2, .int .i64 b3, .int .i64 b4, .bool b5])).run Tryd.prog w = .ok ((a0 == b0) && ((a1 == b1) && ((a2 == b2) && ((a3 == b3) && ((a4 == b4) && ((a5 == b5))))))) w := by
  refine (eqA_struct (d := d + 4) (r := ((a0 == b0) && ((a1 == b1) && ((a2 == b2) && ((a3 == b3) && ((a4 == b4)))))) && ((a5 == b5) && true)) Tryd.underlying83 (by kernel_rfl) ?_).trans (by simp only [Bool.and_true, Bool.and_assoc])
  refine eqF_cons (by decide) (part_agg (n := 5) Tryd.underlying81 rfl (by kernel_rfl) w _ _ #[.int .i64 a0, .int .i64 a1, .bool a2, .int .i64 a3, .int .i64 a4] (by kernel_rfl)) (part_agg (n := 5) Tryd.underlying81 rfl (by kernel_rfl) w _ _ #[.int .i64 b0, .int .i64 b1, .bool b2, .int .i64 b3, .int .i64 b4] (by kernel_rfl)) (eqI81 d w a0 b0 a1 b1 a2 b2 a3 b3 a4 b4) ?_
  refine eqF_cons (by decide) (part_one Tryd.underlying4 rfl w _ _ rfl) (part_one Tryd.underlying4 rfl w _ _ rfl) (eqL_bool Tryd.underlying4 (d + 3) w a5 b5) ?_
  exact eqF_nil w
theorem eq83 {a0 b0 : Int} {a1 b1 : Int} {a2 b2 : Bool} {a3 b3 : Int} {a4 b4 : Int} {a5 b5 : Bool} : EqT Tryd.prog 83 [.int .i64 a0, .int .i64 a1, .bool a2, .int .i64 a3, .int .i64 a4, .bool a5] [.int .i64 b0, .int .i64 b1, .bool b2, .int .i64 b3, .int .i64 b4, .bool b5] := fun b h => by
  simp only [eqVs, eqV, Option.some.injEq] at h
  subst h
  exact eqS_of (by kernel_rfl) fun d w => eqI83 (d + 3) w a0 b0 a1 b1 a2 b2 a3 b3 a4 b4 a5 b5
theorem eqI102 (d : Nat) (w : World) (a0 b0 : Int) (a1 b1 : Int) : (Op.equalIn (d + 2) 102 (.agg #[.int .i64 a0, .int .i64 a1]) (.agg #[.int .i64 b0, .int .i64 b1])).run Tryd.prog w = .ok ((a0 == b0) && ((a1 == b1))) w := by
  refine (eqA_struct (d := d + 1) (r := (a0 == b0) && ((a1 == b1) && true)) Tryd.underlying102 (by kernel_rfl) ?_).trans (by simp only [Bool.and_true, Bool.and_assoc])
  refine eqF_cons (by decide) (part_one Tryd.underlying3 rfl w _ _ rfl) (part_one Tryd.underlying3 rfl w _ _ rfl) (eqL_int Tryd.underlying3 d w a0 b0) ?_
  refine eqF_cons (by decide) (part_one Tryd.underlying3 rfl w _ _ rfl) (part_one Tryd.underlying3 rfl w _ _ rfl) (eqL_int Tryd.underlying3 d w a1 b1) ?_
  exact eqF_nil w
theorem eq102 {a0 b0 : Int} {a1 b1 : Int} : EqT Tryd.prog 102 [.int .i64 a0, .int .i64 a1] [.int .i64 b0, .int .i64 b1] := fun b h => by
  simp only [eqVs, eqV, Option.some.injEq] at h
  subst h
  exact eqS_of (by kernel_rfl) fun d w => eqI102 (d + 6) w a0 b0 a1 b1
theorem eqI103 (d : Nat) (w : World) (a0 b0 : Int) (a1 b1 : Int) : (Op.equalIn (d + 2) 103 (.agg #[.int .i64 a0, .int .i64 a1]) (.agg #[.int .i64 b0, .int .i64 b1])).run Tryd.prog w = .ok ((a0 == b0) && ((a1 == b1))) w := by
  refine (eqA_struct (d := d + 1) (r := (a0 == b0) && ((a1 == b1) && true)) Tryd.underlying103 (by kernel_rfl) ?_).trans (by simp only [Bool.and_true, Bool.and_assoc])
  refine eqF_cons (by decide) (part_one Tryd.underlying3 rfl w _ _ rfl) (part_one Tryd.underlying3 rfl w _ _ rfl) (eqL_int Tryd.underlying3 d w a0 b0) ?_
  refine eqF_cons (by decide) (part_one Tryd.underlying3 rfl w _ _ rfl) (part_one Tryd.underlying3 rfl w _ _ rfl) (eqL_int Tryd.underlying3 d w a1 b1) ?_
  exact eqF_nil w
theorem eq103 {a0 b0 : Int} {a1 b1 : Int} : EqT Tryd.prog 103 [.int .i64 a0, .int .i64 a1] [.int .i64 b0, .int .i64 b1] := fun b h => by
  simp only [eqVs, eqV, Option.some.injEq] at h
  subst h
  exact eqS_of (by kernel_rfl) fun d w => eqI103 (d + 6) w a0 b0 a1 b1
/-- All of them. -/
theorem TY : type_of% (And.intro (And.intro (And.intro (And.intro (And.intro (And.intro (And.intro (And.intro @ty1 (And.intro @ty2 @ty3)) (And.intro (And.intro @ty4 @ty5) (And.intro @ty6 @ty7))) (And.intro (And.intro @ty8 (And.intro @ty9 @ty10)) (And.intro (And.intro @ty11 @ty12) (And.intro @ty13 @ty14)))) (And.intro (And.intro (And.intro @ty15 (And.intro @ty16 @ty17)) (And.intro (And.intro @ty18 @ty19) (And.intro @ty20 @ty21))) (And.intro (And.intro @ty22 (And.intro @ty23 @ty24)) (And.intro (And.intro @ty25 @ty26) (And.intro @ty27 @ty28))))) (And.intro (And.intro (And.intro (And.intro @ty29 (And.intro @ty30 @ty31)) (And.intro (And.intro @ty32 @ty33) (And.intro @ty34 @ty35))) (And.intro (And.intro @ty36 (And.intro @ty37 @ty38)) (And.intro (And.intro @ty39 @ty40) (And.intro @ty41 @ty42)))) (And.intro (And.intro (And.intro @ty43 (And.intro @ty44 @ty45)) (And.intro (And.intro @ty46 @ty47) (And.intro @ty49 @ty50))) (And.intro (And.intro @ty51 (And.intro @ty52 @ty53)) (And.intro (And.intro @ty54 @ty55) (And.intro @ty57 @ty58)))))) (And.intro (And.intro (And.intro (And.intro (And.intro @ty60 (And.intro @ty62 @ty63)) (And.intro (And.intro @ty64 @ty65) (And.intro @ty66 @ty67))) (And.intro (And.intro @ty68 (And.intro @ty69 @ty70)) (And.intro (And.intro @ty71 @ty72) (And.intro @ty73 @ty74)))) (And.intro (And.intro (And.intro @ty75 (And.intro @ty76 @ty77)) (And.intro (And.intro @ty78 @ty79) (And.intro @ty80 @ty81))) (And.intro (And.intro @ty82 (And.intro @ty83 @ty84)) (And.intro (And.intro @ty85 @ty86) (And.intro @ty87 @ty88))))) (And.intro (And.intro (And.intro (And.intro @ty89 (And.intro @ty90 @ty91)) (And.intro (And.intro @ty92 @ty93) (And.intro @ty94 @ty95))) (And.intro (And.intro @ty96 (And.intro @ty97 @ty98)) (And.intro (And.intro @ty99 @ty100) (And.intro @ty101 @ty102)))) (And.intro (And.intro (And.intro @ty103 (And.intro @ty105 @ty106)) (And.intro (And.intro @ty108 @ty109) (And.intro @ty110 @ty111))) (And.intro (And.intro @ty113 (And.intro @ty114 @ty115)) (And.intro (And.intro @ty116 @ty117) (And.intro @ty118 @ty119))))))) (And.intro (And.intro (And.intro (And.intro (And.intro (And.intro @ty120 (And.intro @ty121 @ty122)) (And.intro (And.intro @ty123 @ty124) (And.intro @ty125 @ty126))) (And.intro (And.intro @ty127 (And.intro @ty129 @ty130)) (And.intro (And.intro @ty131 @ty132) (And.intro @ty133 @ty134)))) (And.intro (And.intro (And.intro @ty136 (And.intro @ty137 @ty138)) (And.intro (And.intro @ty139 @ty140) (And.intro @ty141 @ty143))) (And.intro (And.intro @ty144 (And.intro @ty145 @ty146)) (And.intro (And.intro @ty147 @ty148) (And.intro @ty149 @ty150))))) (And.intro (And.intro (And.intro (And.intro @ty151 (And.intro @ty152 @ty153)) (And.intro (And.intro @ty154 @ty155) (And.intro @ty156 @ty157))) (And.intro (And.intro @ty158 (And.intro @ty159 @ty160)) (And.intro (And.intro @ty161 @ty162) (And.intro @ty163 @ty164)))) (And.intro (And.intro (And.intro @ty165 (And.intro @fl7_0 @fl7_1)) (And.intro (And.intro @fl7_2 @fl7_3) (And.intro @fl8_0 @fl8_1))) (And.intro (And.intro @fl8_2 (And.intro @fl8_3 @fl13_0)) (And.intro (And.intro @fl13_1 @fl14_0) (And.intro @fl14_1 @fl18_0)))))) (And.intro (And.intro (And.intro (And.intro (And.intro @fl19_0 (And.intro @fl26_0 @fl26_1)) (And.intro (And.intro @fl26_2 @fl26_3) (And.intro @fl27_0 @fl27_1))) (And.intro (And.intro @fl27_2 (And.intro @fl27_3 @fl28_0)) (And.intro (And.intro @fl28_1 @fl28_2) (And.intro @fl29_0 @fl29_1)))) (And.intro (And.intro (And.intro @fl29_2 (And.intro @fl32_0 @fl32_1)) (And.intro (And.intro @fl33_0 @fl33_1) (And.intro @fl34_0 @fl34_1))) (And.intro (And.intro @fl34_2 (And.intro @fl35_0 @fl35_1)) (And.intro (And.intro @fl35_2 @fl66_0) (And.intro @fl67_0 @fl69_0))))) (And.intro (And.intro (And.intro (And.intro @fl69_1 (And.intro @fl69_2 @fl69_3)) (And.intro (And.intro @fl70_0 @fl70_1) (And.intro @fl70_2 @fl70_3))) (And.intro (And.intro @fl76_0 (And.intro @fl76_1 @fl76_2)) (And.intro (And.intro @fl77_0 @fl77_1) (And.intro @fl77_2 @fl80_0)))) (And.intro (And.intro (And.intro @fl80_1 (And.intro @fl81_0 @fl81_1)) (And.intro (And.intro @fl82_0 @fl82_1) (And.intro @fl83_0 @fl83_1))) (And.intro (And.intro @fl102_0 (And.intro @fl102_1 @fl103_0)) (And.intro (And.intro @fl103_1 @fl123_0) (And.intro @fl123_1 @fl124_0)))))))) (And.intro (And.intro (And.intro (And.intro (And.intro (And.intro (And.intro @fl124_1 (And.intro @fl154_0 @fl154_1)) (And.intro (And.intro @fl154_2 @fl154_3) (And.intro @fl155_0 @fl155_1))) (And.intro (And.intro @fl155_2 (And.intro @fl155_3 @fl157_0)) (And.intro (And.intro @fl158_0 @fl164_0) (And.intro @fl164_1 @fl164_2)))) (And.intro (And.intro (And.intro @fl164_3 (And.intro @fl164_4 @fl164_5)) (And.intro (And.intro @fl164_6 @fl164_7) (And.intro @fl164_8 @fl164_9))) (And.intro (And.intro @fl164_10 (And.intro @fl165_0 @fl165_1)) (And.intro (And.intro @fl165_2 @fl165_3) (And.intro @fl165_4 @fl165_5))))) (And.intro (And.intro (And.intro (And.intro @fl165_6 (And.intro @fl165_7 @fl165_8)) (And.intro (And.intro @fl165_9 @fl165_10) (And.intro @nt0 @nt1))) (And.intro (And.intro @nt2 (And.intro @nt3 @nt4)) (And.intro (And.intro @nt5 @nt6) (And.intro @nt7 @nt8)))) (And.intro (And.intro (And.intro @nt9 (And.intro @nt10 @nt11)) (And.intro (And.intro @nt12 @nt13) (And.intro @nt14 @nt15))) (And.intro (And.intro @nt16 (And.intro @nt17 @nt18)) (And.intro (And.intro @nt19 @nt20) (And.intro @nt21 @nt22)))))) (And.intro (And.intro (And.intro (And.intro (And.intro @nt23 (And.intro @nt24 @nt25)) (And.intro (And.intro @nt26 @nt27) (And.intro @nt28 @nt29))) (And.intro (And.intro @nt30 (And.intro @nt31 @nt32)) (And.intro (And.intro @nt33 @nt34) (And.intro @nt35 @nt36)))) (And.intro (And.intro (And.intro @nt37 (And.intro @nt38 @nt39)) (And.intro (And.intro @nt40 @nt41) (And.intro @nt42 @nt43))) (And.intro (And.intro @nt44 (And.intro @nt45 @nt46)) (And.intro (And.intro @nt47 @nt48) (And.intro @nt49 @nt50))))) (And.intro (And.intro (And.intro (And.intro @nt51 (And.intro @nt52 @nt53)) (And.intro (And.intro @nt54 @nt55) (And.intro @nt56 @nt57))) (And.intro (And.intro @nt58 (And.intro @nt59 @nt60)) (And.intro (And.intro @nt61 @nt62) (And.intro @nt63 @nt64)))) (And.intro (And.intro (And.intro @nt65 (And.intro @nt66 @nt67)) (And.intro (And.intro @nt68 @nt69) (And.intro @nt70 @nt71))) (And.intro (And.intro @nt72 (And.intro @nt73 @nt74)) (And.intro (And.intro @nt75 @nt76) (And.intro @nt77 @nt78))))))) (And.intro (And.intro (And.intro (And.intro (And.intro (And.intro @nt79 (And.intro @nt80 @nt81)) (And.intro (And.intro @nt82 @nt83) (And.intro @nt84 @nt85))) (And.intro (And.intro @nt86 (And.intro @nt87 @nt88)) (And.intro (And.intro @nt89 @nt90) (And.intro @nt91 @nt92)))) (And.intro (And.intro (And.intro @nt93 (And.intro @nt94 @nt95)) (And.intro (And.intro @nt96 @nt97) (And.intro @nt98 @nt99))) (And.intro (And.intro @nt100 (And.intro @nt101 @nt102)) (And.intro (And.intro @nt103 @nt104) (And.intro @nt105 @nt106))))) (And.intro (And.intro (And.intro (And.intro @nt107 (And.intro @nt108 @nt109)) (And.intro (And.intro @nt110 @nt111) (And.intro @nt112 @nt113))) (And.intro (And.intro @nt114 (And.intro @nt115 @nt116)) (And.intro (And.intro @nt117 @nt118) (And.intro @nt119 @nt120)))) (And.intro (And.intro (And.intro @nt121 (And.intro @nt122 @nt123)) (And.intro (And.intro @nt124 @nt125) (And.intro @nt126 @nt127))) (And.intro (And.intro @nt128 (And.intro @nt129 @nt130)) (And.intro (And.intro @nt131 @nt132) (And.intro @nt133 @nt134)))))) (And.intro (And.intro (And.intro (And.intro (And.intro @nt135 (And.intro @nt136 @nt137)) (And.intro (And.intro @nt138 @nt139) (And.intro @nt140 @nt141))) (And.intro (And.intro @nt142 (And.intro @nt143 @nt144)) (And.intro (And.intro @nt145 @nt146) (And.intro @nt147 @nt148)))) (And.intro (And.intro (And.intro @nt149 (And.intro @nt150 @nt151)) (And.intro (And.intro @nt152 @nt153) (And.intro @nt154 @nt155))) (And.intro (And.intro @nt156 (And.intro @nt157 @nt158)) (And.intro (And.intro @nt159 @nt160) (And.intro @nt161 @nt162))))) (And.intro (And.intro (And.intro (And.intro @nt163 (And.intro @nt164 @nt165)) (And.intro (And.intro @eq32 @eq33) (And.intro @eq34 @eq35))) (And.intro (And.intro @eq80 (And.intro @eq81 @eq82)) (And.intro (And.intro @eq83 @eq102) (And.intro @eq103 @Tryd.underlying4)))) (And.intro (And.intro (And.intro @Tryd.underlying9 (And.intro @Tryd.underlying10 @Tryd.underlying11)) (And.intro (And.intro @Tryd.underlying22 @Tryd.underlying24) (And.intro @Tryd.underlying25 @Tryd.underlying43))) (And.intro (And.intro @Tryd.underlying44 (And.intro @Tryd.underlying51 @Tryd.underlying64)) (And.intro (And.intro @Tryd.underlying74 @Tryd.underlying75) (And.intro @Tryd.underlying100 @Tryd.underlying122))))))))) := (And.intro (And.intro (And.intro (And.intro (And.intro (And.intro (And.intro (And.intro @ty1 (And.intro @ty2 @ty3)) (And.intro (And.intro @ty4 @ty5) (And.intro @ty6 @ty7))) (And.intro (And.intro @ty8 (And.intro @ty9 @ty10)) (And.intro (And.intro @ty11 @ty12) (And.intro @ty13 @ty14)))) (And.intro (And.intro (And.intro @ty15 (And.intro @ty16 @ty17)) (And.intro (And.intro @ty18 @ty19) (And.intro @ty20 @ty21))) (And.intro (And.intro @ty22 (And.intro @ty23 @ty24)) (And.intro (And.intro @ty25 @ty26) (And.intro @ty27 @ty28))))) (And.intro (And.intro (And.intro (And.intro @ty29 (And.intro @ty30 @ty31)) (And.intro (And.intro @ty32 @ty33) (And.intro @ty34 @ty35))) (And.intro (And.intro @ty36 (And.intro @ty37 @ty38)) (And.intro (And.intro @ty39 @ty40) (And.intro @ty41 @ty42)))) (And.intro (And.intro (And.intro @ty43 (And.intro @ty44 @ty45)) (And.intro (And.intro @ty46 @ty47) (And.intro @ty49 @ty50))) (And.intro (And.intro @ty51 (And.intro @ty52 @ty53)) (And.intro (And.intro @ty54 @ty55) (And.intro @ty57 @ty58)))))) (And.intro (And.intro (And.intro (And.intro (And.intro @ty60 (And.intro @ty62 @ty63)) (And.intro (And.intro @ty64 @ty65) (And.intro @ty66 @ty67))) (And.intro (And.intro @ty68 (And.intro @ty69 @ty70)) (And.intro (And.intro @ty71 @ty72) (And.intro @ty73 @ty74)))) (And.intro (And.intro (And.intro @ty75 (And.intro @ty76 @ty77)) (And.intro (And.intro @ty78 @ty79) (And.intro @ty80 @ty81))) (And.intro (And.intro @ty82 (And.intro @ty83 @ty84)) (And.intro (And.intro @ty85 @ty86) (And.intro @ty87 @ty88))))) (And.intro (And.intro (And.intro (And.intro @ty89 (And.intro @ty90 @ty91)) (And.intro (And.intro @ty92 @ty93) (And.intro @ty94 @ty95))) (And.intro (And.intro @ty96 (And.intro @ty97 @ty98)) (And.intro (And.intro @ty99 @ty100) (And.intro @ty101 @ty102)))) (And.intro (And.intro (And.intro @ty103 (And.intro @ty105 @ty106)) (And.intro (And.intro @ty108 @ty109) (And.intro @ty110 @ty111))) (And.intro (And.intro @ty113 (And.intro @ty114 @ty115)) (And.intro (And.intro @ty116 @ty117) (And.intro @ty118 @ty119))))))) (And.intro (And.intro (And.intro (And.intro (And.intro (And.intro @ty120 (And.intro @ty121 @ty122)) (And.intro (And.intro @ty123 @ty124) (And.intro @ty125 @ty126))) (And.intro (And.intro @ty127 (And.intro @ty129 @ty130)) (And.intro (And.intro @ty131 @ty132) (And.intro @ty133 @ty134)))) (And.intro (And.intro (And.intro @ty136 (And.intro @ty137 @ty138)) (And.intro (And.intro @ty139 @ty140) (And.intro @ty141 @ty143))) (And.intro (And.intro @ty144 (And.intro @ty145 @ty146)) (And.intro (And.intro @ty147 @ty148) (And.intro @ty149 @ty150))))) (And.intro (And.intro (And.intro (And.intro @ty151 (And.intro @ty152 @ty153)) (And.intro (And.intro @ty154 @ty155) (And.intro @ty156 @ty157))) (And.intro (And.intro @ty158 (And.intro @ty159 @ty160)) (And.intro (And.intro @ty161 @ty162) (And.intro @ty163 @ty164)))) (And.intro (And.intro (And.intro @ty165 (And.intro @fl7_0 @fl7_1)) (And.intro (And.intro @fl7_2 @fl7_3) (And.intro @fl8_0 @fl8_1))) (And.intro (And.intro @fl8_2 (And.intro @fl8_3 @fl13_0)) (And.intro (And.intro @fl13_1 @fl14_0) (And.intro @fl14_1 @fl18_0)))))) (And.intro (And.intro (And.intro (And.intro (And.intro @fl19_0 (And.intro @fl26_0 @fl26_1)) (And.intro (And.intro @fl26_2 @fl26_3) (And.intro @fl27_0 @fl27_1))) (And.intro (And.intro @fl27_2 (And.intro @fl27_3 @fl28_0)) (And.intro (And.intro @fl28_1 @fl28_2) (And.intro @fl29_0 @fl29_1)))) (And.intro (And.intro (And.intro @fl29_2 (And.intro @fl32_0 @fl32_1)) (And.intro (And.intro @fl33_0 @fl33_1) (And.intro @fl34_0 @fl34_1))) (And.intro (And.intro @fl34_2 (And.intro @fl35_0 @fl35_1)) (And.intro (And.intro @fl35_2 @fl66_0) (And.intro @fl67_0 @fl69_0))))) (And.intro (And.intro (And.intro (And.intro @fl69_1 (And.intro @fl69_2 @fl69_3)) (And.intro (And.intro @fl70_0 @fl70_1) (And.intro @fl70_2 @fl70_3))) (And.intro (And.intro @fl76_0 (And.intro @fl76_1 @fl76_2)) (And.intro (And.intro @fl77_0 @fl77_1) (And.intro @fl77_2 @fl80_0)))) (And.intro (And.intro (And.intro @fl80_1 (And.intro @fl81_0 @fl81_1)) (And.intro (And.intro @fl82_0 @fl82_1) (And.intro @fl83_0 @fl83_1))) (And.intro (And.intro @fl102_0 (And.intro @fl102_1 @fl103_0)) (And.intro (And.intro @fl103_1 @fl123_0) (And.intro @fl123_1 @fl124_0)))))))) (And.intro (And.intro (And.intro (And.intro (And.intro (And.intro (And.intro @fl124_1 (And.intro @fl154_0 @fl154_1)) (And.intro (And.intro @fl154_2 @fl154_3) (And.intro @fl155_0 @fl155_1))) (And.intro (And.intro @fl155_2 (And.intro @fl155_3 @fl157_0)) (And.intro (And.intro @fl158_0 @fl164_0) (And.intro @fl164_1 @fl164_2)))) (And.intro (And.intro (And.intro @fl164_3 (And.intro @fl164_4 @fl164_5)) (And.intro (And.intro @fl164_6 @fl164_7) (And.intro @fl164_8 @fl164_9))) (And.intro (And.intro @fl164_10 (And.intro @fl165_0 @fl165_1)) (And.intro (And.intro @fl165_2 @fl165_3) (And.intro @fl165_4 @fl165_5))))) (And.intro (And.intro (And.intro (And.intro @fl165_6 (And.intro @fl165_7 @fl165_8)) (And.intro (And.intro @fl165_9 @fl165_10) (And.intro @nt0 @nt1))) (And.intro (And.intro @nt2 (And.intro @nt3 @nt4)) (And.intro (And.intro @nt5 @nt6) (And.intro @nt7 @nt8)))) (And.intro (And.intro (And.intro @nt9 (And.intro @nt10 @nt11)) (And.intro (And.intro @nt12 @nt13) (And.intro @nt14 @nt15))) (And.intro (And.intro @nt16 (And.intro @nt17 @nt18)) (And.intro (And.intro @nt19 @nt20) (And.intro @nt21 @nt22)))))) (And.intro (And.intro (And.intro (And.intro (And.intro @nt23 (And.intro @nt24 @nt25)) (And.intro (And.intro @nt26 @nt27) (And.intro @nt28 @nt29))) (And.intro (And.intro @nt30 (And.intro @nt31 @nt32)) (And.intro (And.intro @nt33 @nt34) (And.intro @nt35 @nt36)))) (And.intro (And.intro (And.intro @nt37 (And.intro @nt38 @nt39)) (And.intro (And.intro @nt40 @nt41) (And.intro @nt42 @nt43))) (And.intro (And.intro @nt44 (And.intro @nt45 @nt46)) (And.intro (And.intro @nt47 @nt48) (And.intro @nt49 @nt50))))) (And.intro (And.intro (And.intro (And.intro @nt51 (And.intro @nt52 @nt53)) (And.intro (And.intro @nt54 @nt55) (And.intro @nt56 @nt57))) (And.intro (And.intro @nt58 (And.intro @nt59 @nt60)) (And.intro (And.intro @nt61 @nt62) (And.intro @nt63 @nt64)))) (And.intro (And.intro (And.intro @nt65 (And.intro @nt66 @nt67)) (And.intro (And.intro @nt68 @nt69) (And.intro @nt70 @nt71))) (And.intro (And.intro @nt72 (And.intro @nt73 @nt74)) (And.intro (And.intro @nt75 @nt76) (And.intro @nt77 @nt78))))))) (And.intro (And.intro (And.intro (And.intro (And.intro (And.intro @nt79 (And.intro @nt80 @nt81)) (And.intro (And.intro @nt82 @nt83) (And.intro @nt84 @nt85))) (And.intro (And.intro @nt86 (And.intro @nt87 @nt88)) (And.intro (And.intro @nt89 @nt90) (And.intro @nt91 @nt92)))) (And.intro (And.intro (And.intro @nt93 (And.intro @nt94 @nt95)) (And.intro (And.intro @nt96 @nt97) (And.intro @nt98 @nt99))) (And.intro (And.intro @nt100 (And.intro @nt101 @nt102)) (And.intro (And.intro @nt103 @nt104) (And.intro @nt105 @nt106))))) (And.intro (And.intro (And.intro (And.intro @nt107 (And.intro @nt108 @nt109)) (And.intro (And.intro @nt110 @nt111) (And.intro @nt112 @nt113))) (And.intro (And.intro @nt114 (And.intro @nt115 @nt116)) (And.intro (And.intro @nt117 @nt118) (And.intro @nt119 @nt120)))) (And.intro (And.intro (And.intro @nt121 (And.intro @nt122 @nt123)) (And.intro (And.intro @nt124 @nt125) (And.intro @nt126 @nt127))) (And.intro (And.intro @nt128 (And.intro @nt129 @nt130)) (And.intro (And.intro @nt131 @nt132) (And.intro @nt133 @nt134)))))) (And.intro (And.intro (And.intro (And.intro (And.intro @nt135 (And.intro @nt136 @nt137)) (And.intro (And.intro @nt138 @nt139) (And.intro @nt140 @nt141))) (And.intro (And.intro @nt142 (And.intro @nt143 @nt144)) (And.intro (And.intro @nt145 @nt146) (And.intro @nt147 @nt148)))) (And.intro (And.intro (And.intro @nt149 (And.intro @nt150 @nt151)) (And.intro (And.intro @nt152 @nt153) (And.intro @nt154 @nt155))) (And.intro (And.intro @nt156 (And.intro @nt157 @nt158)) (And.intro (And.intro @nt159 @nt160) (And.intro @nt161 @nt162))))) (And.intro (And.intro (And.intro (And.intro @nt163 (And.intro @nt164 @nt165)) (And.intro (And.intro @eq32 @eq33) (And.intro @eq34 @eq35))) (And.intro (And.intro @eq80 (And.intro @eq81 @eq82)) (And.intro (And.intro @eq83 @eq102) (And.intro @eq103 @Tryd.underlying4)))) (And.intro (And.intro (And.intro @Tryd.underlying9 (And.intro @Tryd.underlying10 @Tryd.underlying11)) (And.intro (And.intro @Tryd.underlying22 @Tryd.underlying24) (And.intro @Tryd.underlying25 @Tryd.underlying43))) (And.intro (And.intro @Tryd.underlying44 (And.intro @Tryd.underlying51 @Tryd.underlying64)) (And.intro (And.intro @Tryd.underlying74 @Tryd.underlying75) (And.intro @Tryd.underlying100 @Tryd.underlying122)))))))))
theorem FN : type_of% (And.intro (And.intro (And.intro (And.intro (And.intro (And.intro fnok2 (And.intro fnok3 fnok4)) (And.intro fnok5 (And.intro fnok6 fnok7))) (And.intro (And.intro fnok8 (And.intro fnok9 fnok10)) (And.intro fnok11 (And.intro fnok12 fnok13)))) (And.intro (And.intro (And.intro fnok14 (And.intro fnok15 fnok16)) (And.intro fnok17 (And.intro fnok18 fnok19))) (And.intro (And.intro fnok20 (And.intro fnok21 fnok22)) (And.intro fnok23 (And.intro fnok24 fnok25))))) (And.intro (And.intro (And.intro (And.intro fnok26 (And.intro fnok27 fnok28)) (And.intro fnok29 (And.intro fnok30 fnok31))) (And.intro (And.intro fnok32 (And.intro fnok33 fnok34)) (And.intro fnok35 (And.intro fnok36 fnok37)))) (And.intro (And.intro (And.intro fnok38 (And.intro fnok39 fnok40)) (And.intro fnok41 (And.intro fnok42 fnok43))) (And.intro (And.intro fnok44 (And.intro fnok45 fnok46)) (And.intro fnok47 (And.intro fnok48 fnok49)))))) (And.intro (And.intro (And.intro (And.intro (And.intro fnok50 (And.intro fnok51 fnok52)) (And.intro fnok53 (And.intro fnok54 fnok55))) (And.intro (And.intro fnok56 (And.intro fnok57 fnok58)) (And.intro fnok59 (And.intro fnok60 fnok61)))) (And.intro (And.intro (And.intro fnok62 (And.intro fnok63 fnok64)) (And.intro fnok65 (And.intro fnok66 fnok67))) (And.intro (And.intro fnok68 (And.intro fnok69 fnok70)) (And.intro fnok71 (And.intro fnok72 fnok73))))) (And.intro (And.intro (And.intro (And.intro fnok74 (And.intro fnok75 fnok76)) (And.intro fnok77 (And.intro fnok78 fnok79))) (And.intro (And.intro fnok80 (And.intro fnok81 fnok82)) (And.intro fnok83 (And.intro fnok84 fnok85)))) (And.intro (And.intro (And.intro fnok86 (And.intro fnok89 fnok90)) (And.intro fnok91 (And.intro fnok92 fnok93))) (And.intro (And.intro fnok94 (And.intro fnok95 fnok96)) (And.intro (And.intro fnok97 fnok98) (And.intro fnok99 fnok122))))))) := (And.intro (And.intro (And.intro (And.intro (And.intro (And.intro fnok2 (And.intro fnok3 fnok4)) (And.intro fnok5 (And.intro fnok6 fnok7))) (And.intro (And.intro fnok8 (And.intro fnok9 fnok10)) (And.intro fnok11 (And.intro fnok12 fnok13)))) (And.intro (And.intro (And.intro fnok14 (And.intro fnok15 fnok16)) (And.intro fnok17 (And.intro fnok18 fnok19))) (And.intro (And.intro fnok20 (And.intro fnok21 fnok22)) (And.intro fnok23 (And.intro fnok24 fnok25))))) (And.intro (And.intro (And.intro (And.intro fnok26 (And.intro fnok27 fnok28)) (And.intro fnok29 (And.intro fnok30 fnok31))) (And.intro (And.intro fnok32 (And.intro fnok33 fnok34)) (And.intro fnok35 (And.intro fnok36 fnok37)))) (And.intro (And.intro (And.intro fnok38 (And.intro fnok39 fnok40)) (And.intro fnok41 (And.intro fnok42 fnok43))) (And.intro (And.intro fnok44 (And.intro fnok45 fnok46)) (And.intro fnok47 (And.intro fnok48 fnok49)))))) (And.intro (And.intro (And.intro (And.intro (And.intro fnok50 (And.intro fnok51 fnok52)) (And.intro fnok53 (And.intro fnok54 fnok55))) (And.intro (And.intro fnok56 (And.intro fnok57 fnok58)) (And.intro fnok59 (And.intro fnok60 fnok61)))) (And.intro (And.intro (And.intro fnok62 (And.intro fnok63 fnok64)) (And.intro fnok65 (And.intro fnok66 fnok67))) (And.intro (And.intro fnok68 (And.intro fnok69 fnok70)) (And.intro fnok71 (And.intro fnok72 fnok73))))) (And.intro (And.intro (And.intro (And.intro fnok74 (And.intro fnok75 fnok76)) (And.intro fnok77 (And.intro fnok78 fnok79))) (And.intro (And.intro fnok80 (And.intro fnok81 fnok82)) (And.intro fnok83 (And.intro fnok84 fnok85)))) (And.intro (And.intro (And.intro fnok86 (And.intro fnok89 fnok90)) (And.intro fnok91 (And.intro fnok92 fnok93))) (And.intro (And.intro fnok94 (And.intro fnok95 fnok96)) (And.intro (And.intro fnok97 fnok98) (And.intro fnok99 fnok122)))))))
end Go.Proofs.YtkcbmkoafmffoaaDoor

