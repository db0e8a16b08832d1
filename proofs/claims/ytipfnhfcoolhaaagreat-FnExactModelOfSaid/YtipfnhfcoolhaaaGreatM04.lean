/- Parts of a proof: Aty Fl1 Fmc. -/
import Derived.Test.YtipfnhfcoolhaaaGreatProg
import Derived.Test.YtipfnhfcoolhaaaGreatM01
import Derived.Test.YtipfnhfcoolhaaaGreatM02
import Derived.Test.YtipfnhfcoolhaaaGreatM03
set_option linter.unusedVariables false
set_option linter.unusedSimpArgs false
section
namespace Go.Proofs.YtipfnhfcoolhaaaGreat.Aw
open Go
@[go_sem] theorem intKd_2 : intKd Tryz.prog 2 = some IntKind.i64 := by kernel_rfl
@[go_sem] theorem uis_3 : (Tryz.prog.underlying 3).isSome = true := by kernel_rfl
@[go_sem] theorem tyi_3 : tyi Tryz.prog 3 = some ⟨false, 1, 8, [Value.int IntKind.i64 0]⟩ := by kernel_rfl
@[go_sem] theorem intKd_3 : intKd Tryz.prog 3 = some IntKind.i64 := by kernel_rfl
@[go_sem] theorem tyi_4 : tyi Tryz.prog 4 = some ⟨false, 1, 1, [Value.bool false]⟩ := by kernel_rfl
@[go_sem] theorem und_4 : Tryz.prog.underlying 4 = some .bool := by kernel_rfl
@[go_sem] theorem uis_5 : (Tryz.prog.underlying 5).isSome = true := by kernel_rfl
@[go_sem] theorem tyi_5 : tyi Tryz.prog 5 = some ⟨false, 1, 1, [Value.int IntKind.u8 0]⟩ := by kernel_rfl
@[go_sem] theorem intKd_5 : intKd Tryz.prog 5 = some IntKind.u8 := by kernel_rfl
@[go_sem] theorem intKd_6 : intKd Tryz.prog 6 = some IntKind.u8 := by kernel_rfl
@[go_sem] theorem tyi_9 : tyi Tryz.prog 9 = some ⟨false, 1, 16, [Value.string (ByteArray.mk #[])]⟩ := by kernel_rfl
@[go_sem] theorem isStr_9 : isStr Tryz.prog 9 = true := by kernel_rfl
@[go_sem] theorem isStr_10 : isStr Tryz.prog 10 = true := by kernel_rfl
@[go_sem] theorem isStr_11 : isStr Tryz.prog 11 = true := by kernel_rfl
@[go_sem] theorem intKd_12 : intKd Tryz.prog 12 = some IntKind.u64 := by kernel_rfl
@[go_sem] theorem intKd_21 : intKd Tryz.prog 21 = some IntKind.i32 := by kernel_rfl
@[go_sem] theorem tyi_22 : tyi Tryz.prog 22 = some ⟨false, 1, 24, [Value.slice none 0 0]⟩ := by kernel_rfl
@[go_sem] theorem elt_22 : elt Tryz.prog 22 = some 3 := by kernel_rfl
@[go_sem] theorem arrt_22 : arrt Tryz.prog 22 = none := by kernel_rfl
@[go_sem] theorem tyi_23 : tyi Tryz.prog 23 = some ⟨false, 1, 24, [Value.slice none 0 0]⟩ := by kernel_rfl
@[go_sem] theorem elt_23 : elt Tryz.prog 23 = some 83 := by kernel_rfl
@[go_sem] theorem arrt_23 : arrt Tryz.prog 23 = none := by kernel_rfl
@[go_sem] theorem tyi_24 : tyi Tryz.prog 24 = some ⟨false, 1, 24, [Value.slice none 0 0]⟩ := by kernel_rfl
@[go_sem] theorem elt_24 : elt Tryz.prog 24 = some 71 := by kernel_rfl
@[go_sem] theorem arrt_24 : arrt Tryz.prog 24 = none := by kernel_rfl
@[go_sem] theorem tyi_26 : tyi Tryz.prog 26 = some ⟨true, 2, 48, [Value.slice none 0 0, Value.slice none 0 0]⟩ := by kernel_rfl
@[go_sem] theorem fldt_26_0 : fldt Tryz.prog 26 0 = some (0, 23) := by kernel_rfl
@[go_sem] theorem fldt_26_1 : fldt Tryz.prog 26 1 = some (1, 24) := by kernel_rfl
@[go_sem] theorem places_26 : places Tryz.prog 26 = some ([(0, 1), (1, 1)]) := by kernel_rfl
@[go_sem] theorem tyi_34 : tyi Tryz.prog 34 = some ⟨false, 1, 24, [Value.slice none 0 0]⟩ := by kernel_rfl
@[go_sem] theorem elt_34 : elt Tryz.prog 34 = some 158 := by kernel_rfl
@[go_sem] theorem arrt_34 : arrt Tryz.prog 34 = none := by kernel_rfl
@[go_sem] theorem tyi_38 : tyi Tryz.prog 38 = some ⟨false, 1, 24, [Value.slice none 0 0]⟩ := by kernel_rfl
@[go_sem] theorem elt_38 : elt Tryz.prog 38 = some 111 := by kernel_rfl
@[go_sem] theorem arrt_38 : arrt Tryz.prog 38 = none := by kernel_rfl
@[go_sem] theorem tyi_39 : tyi Tryz.prog 39 = some ⟨false, 1, 24, [Value.slice none 0 0]⟩ := by kernel_rfl
@[go_sem] theorem elt_39 : elt Tryz.prog 39 = some 116 := by kernel_rfl
@[go_sem] theorem arrt_39 : arrt Tryz.prog 39 = none := by kernel_rfl
@[go_sem] theorem tyi_40 : tyi Tryz.prog 40 = some ⟨false, 1, 24, [Value.slice none 0 0]⟩ := by kernel_rfl
@[go_sem] theorem elt_40 : elt Tryz.prog 40 = some 119 := by kernel_rfl
@[go_sem] theorem arrt_40 : arrt Tryz.prog 40 = none := by kernel_rfl
@[go_sem] theorem tyi_42 : tyi Tryz.prog 42 = some ⟨true, 6, 112, [Value.slice none 0 0, Value.slice none 0 0, Value.slice none 0 0, Value.slice none 0 0, Value.int IntKind.i64 0, Value.int IntKind.i64 0]⟩ := by kernel_rfl
@[go_sem] theorem fldt_42_0 : fldt Tryz.prog 42 0 = some (0, 22) := by kernel_rfl
@[go_sem] theorem fldt_42_1 : fldt Tryz.prog 42 1 = some (1, 38) := by kernel_rfl
@[go_sem] theorem fldt_42_2 : fldt Tryz.prog 42 2 = some (2, 39) := by kernel_rfl
@[go_sem] theorem fldt_42_3 : fldt Tryz.prog 42 3 = some (3, 40) := by kernel_rfl
@[go_sem] theorem fldt_42_4 : fldt Tryz.prog 42 4 = some (4, 3) := by kernel_rfl
@[go_sem] theorem fldt_42_5 : fldt Tryz.prog 42 5 = some (5, 3) := by kernel_rfl
@[go_sem] theorem places_42 : places Tryz.prog 42 = some ([(0, 1), (1, 1), (2, 1), (3, 1), (4, 1), (5, 1)]) := by kernel_rfl
@[go_sem] theorem tyi_52 : tyi Tryz.prog 52 = some ⟨false, 1, 24, [Value.slice none 0 0]⟩ := by kernel_rfl
@[go_sem] theorem elt_52 : elt Tryz.prog 52 = some 174 := by kernel_rfl
@[go_sem] theorem arrt_52 : arrt Tryz.prog 52 = none := by kernel_rfl
@[go_sem] theorem tyi_53 : tyi Tryz.prog 53 = some ⟨false, 1, 24, [Value.slice none 0 0]⟩ := by kernel_rfl
@[go_sem] theorem elt_53 : elt Tryz.prog 53 = some 178 := by kernel_rfl
@[go_sem] theorem arrt_53 : arrt Tryz.prog 53 = none := by kernel_rfl
@[go_sem] theorem tyi_55 : tyi Tryz.prog 55 = some ⟨true, 6, 112, [Value.slice none 0 0, Value.slice none 0 0, Value.slice none 0 0, Value.slice none 0 0, Value.int IntKind.i64 0, Value.int IntKind.i64 0]⟩ := by kernel_rfl
@[go_sem] theorem fldt_55_0 : fldt Tryz.prog 55 0 = some (0, 22) := by kernel_rfl
@[go_sem] theorem fldt_55_1 : fldt Tryz.prog 55 1 = some (1, 52) := by kernel_rfl
@[go_sem] theorem fldt_55_2 : fldt Tryz.prog 55 2 = some (2, 34) := by kernel_rfl
@[go_sem] theorem fldt_55_3 : fldt Tryz.prog 55 3 = some (3, 53) := by kernel_rfl
@[go_sem] theorem fldt_55_4 : fldt Tryz.prog 55 4 = some (4, 3) := by kernel_rfl
@[go_sem] theorem fldt_55_5 : fldt Tryz.prog 55 5 = some (5, 3) := by kernel_rfl
@[go_sem] theorem elt_62 : elt Tryz.prog 62 = some 5 := by kernel_rfl
@[go_sem] theorem arrt_62 : arrt Tryz.prog 62 = none := by kernel_rfl
@[go_sem] theorem tyi_71 : tyi Tryz.prog 71 = some ⟨true, 10, 88, [Value.string (ByteArray.mk #[]), Value.int IntKind.i64 0, Value.int IntKind.i64 0, Value.bool false, Value.int IntKind.i64 0, Value.int IntKind.i64 0, Value.int IntKind.i64 0, Value.int IntKind.i64 0, Value.int IntKind.i64 0, Value.int IntKind.i64 0]⟩ := by kernel_rfl
@[go_sem] theorem fldt_71_0 : fldt Tryz.prog 71 0 = some (0, 9) := by kernel_rfl
@[go_sem] theorem fldt_71_1 : fldt Tryz.prog 71 1 = some (1, 3) := by kernel_rfl
@[go_sem] theorem fldt_71_2 : fldt Tryz.prog 71 2 = some (2, 3) := by kernel_rfl
@[go_sem] theorem fldt_71_3 : fldt Tryz.prog 71 3 = some (3, 4) := by kernel_rfl
@[go_sem] theorem fldt_71_4 : fldt Tryz.prog 71 4 = some (4, 3) := by kernel_rfl
@[go_sem] theorem fldt_71_5 : fldt Tryz.prog 71 5 = some (5, 3) := by kernel_rfl
@[go_sem] theorem fldt_71_6 : fldt Tryz.prog 71 6 = some (6, 3) := by kernel_rfl
@[go_sem] theorem fldt_71_7 : fldt Tryz.prog 71 7 = some (7, 3) := by kernel_rfl
@[go_sem] theorem fldt_71_8 : fldt Tryz.prog 71 8 = some (8, 3) := by kernel_rfl
@[go_sem] theorem fldt_71_9 : fldt Tryz.prog 71 9 = some (9, 3) := by kernel_rfl
@[go_sem] theorem places_71 : places Tryz.prog 71 = some ([(0, 1), (1, 1), (2, 1), (3, 1), (4, 1), (5, 1), (6, 1), (7, 1), (8, 1), (9, 1)]) := by kernel_rfl
@[go_sem] theorem tyi_83 : tyi Tryz.prog 83 = some ⟨true, 2, 24, [Value.string (ByteArray.mk #[]), Value.int IntKind.i64 0]⟩ := by kernel_rfl
@[go_sem] theorem fldt_83_0 : fldt Tryz.prog 83 0 = some (0, 9) := by kernel_rfl
@[go_sem] theorem fldt_83_1 : fldt Tryz.prog 83 1 = some (1, 3) := by kernel_rfl
@[go_sem] theorem places_83 : places Tryz.prog 83 = some ([(0, 1), (1, 1)]) := by kernel_rfl
@[go_sem] theorem elt_84 : elt Tryz.prog 84 = some 9 := by kernel_rfl
@[go_sem] theorem arrt_84 : arrt Tryz.prog 84 = none := by kernel_rfl
@[go_sem] theorem tyi_89 : tyi Tryz.prog 89 = some ⟨true, 4, 40, [Value.int IntKind.i64 0, Value.string (ByteArray.mk #[]), Value.int IntKind.i64 0, Value.int IntKind.i64 0]⟩ := by kernel_rfl
@[go_sem] theorem fldt_89_0 : fldt Tryz.prog 89 0 = some (0, 3) := by kernel_rfl
@[go_sem] theorem fldt_89_1 : fldt Tryz.prog 89 1 = some (1, 9) := by kernel_rfl
@[go_sem] theorem fldt_89_2 : fldt Tryz.prog 89 2 = some (2, 3) := by kernel_rfl
@[go_sem] theorem fldt_89_3 : fldt Tryz.prog 89 3 = some (3, 3) := by kernel_rfl
@[go_sem] theorem places_89 : places Tryz.prog 89 = some ([(0, 1), (1, 1), (2, 1), (3, 1)]) := by kernel_rfl
@[go_sem] theorem tyi_108 : tyi Tryz.prog 108 = some ⟨false, 1, 8, [Value.pointer none]⟩ := by kernel_rfl
@[go_sem] theorem tyi_109 : tyi Tryz.prog 109 = some ⟨false, 1, 8, [Value.pointer none]⟩ := by kernel_rfl
@[go_sem] theorem tyi_111 : tyi Tryz.prog 111 = some ⟨true, 18, 184, [Value.bool false, Value.int IntKind.i64 0, Value.string (ByteArray.mk #[]), Value.int IntKind.i64 0, Value.int IntKind.i64 0, Value.int IntKind.i64 0, Value.int IntKind.i64 0, Value.int IntKind.i64 0, Value.int IntKind.i64 0, Value.int IntKind.i64 0, Value.int IntKind.i64 0, Value.int IntKind.i64 0, Value.int IntKind.i64 0, Value.int IntKind.i64 0, Value.int IntKind.i64 0, Value.int IntKind.i64 0, Value.slice none 0 0, Value.slice none 0 0]⟩ := by kernel_rfl
@[go_sem] theorem fldt_111_0 : fldt Tryz.prog 111 0 = some (0, 4) := by kernel_rfl
@[go_sem] theorem fldt_111_1 : fldt Tryz.prog 111 1 = some (1, 89) := by kernel_rfl
@[go_sem] theorem fldt_111_2 : fldt Tryz.prog 111 2 = some (5, 3) := by kernel_rfl
@[go_sem] theorem fldt_111_3 : fldt Tryz.prog 111 3 = some (6, 3) := by kernel_rfl
@[go_sem] theorem fldt_111_4 : fldt Tryz.prog 111 4 = some (7, 3) := by kernel_rfl
@[go_sem] theorem fldt_111_5 : fldt Tryz.prog 111 5 = some (8, 3) := by kernel_rfl
@[go_sem] theorem fldt_111_6 : fldt Tryz.prog 111 6 = some (9, 3) := by kernel_rfl
@[go_sem] theorem fldt_111_7 : fldt Tryz.prog 111 7 = some (10, 3) := by kernel_rfl
@[go_sem] theorem fldt_111_8 : fldt Tryz.prog 111 8 = some (11, 3) := by kernel_rfl
@[go_sem] theorem fldt_111_9 : fldt Tryz.prog 111 9 = some (12, 3) := by kernel_rfl
@[go_sem] theorem fldt_111_10 : fldt Tryz.prog 111 10 = some (13, 3) := by kernel_rfl
@[go_sem] theorem fldt_111_11 : fldt Tryz.prog 111 11 = some (14, 3) := by kernel_rfl
@[go_sem] theorem fldt_111_12 : fldt Tryz.prog 111 12 = some (15, 3) := by kernel_rfl
@[go_sem] theorem fldt_111_13 : fldt Tryz.prog 111 13 = some (16, 22) := by kernel_rfl
@[go_sem] theorem fldt_111_14 : fldt Tryz.prog 111 14 = some (17, 22) := by kernel_rfl
@[go_sem] theorem places_111 : places Tryz.prog 111 = some ([(0, 1), (1, 4), (5, 1), (6, 1), (7, 1), (8, 1), (9, 1), (10, 1), (11, 1), (12, 1), (13, 1), (14, 1), (15, 1), (16, 1), (17, 1)]) := by kernel_rfl
@[go_sem] theorem tyi_113 : tyi Tryz.prog 113 = some ⟨true, 3, 24, [Value.pointer none, Value.int IntKind.i64 0, Value.pointer none]⟩ := by kernel_rfl
@[go_sem] theorem fldt_113_0 : fldt Tryz.prog 113 0 = some (0, 108) := by kernel_rfl
@[go_sem] theorem fldt_113_1 : fldt Tryz.prog 113 1 = some (1, 3) := by kernel_rfl
@[go_sem] theorem fldt_113_2 : fldt Tryz.prog 113 2 = some (2, 109) := by kernel_rfl
@[go_sem] theorem places_113 : places Tryz.prog 113 = some ([(0, 1), (1, 1), (2, 1)]) := by kernel_rfl
@[go_sem] theorem tyi_114 : tyi Tryz.prog 114 = some ⟨false, 1, 24, [Value.slice none 0 0]⟩ := by kernel_rfl
@[go_sem] theorem elt_114 : elt Tryz.prog 114 = some 89 := by kernel_rfl
@[go_sem] theorem arrt_114 : arrt Tryz.prog 114 = none := by kernel_rfl
@[go_sem] theorem tyi_116 : tyi Tryz.prog 116 = some ⟨true, 1, 24, [Value.slice none 0 0]⟩ := by kernel_rfl
@[go_sem] theorem fldt_116_0 : fldt Tryz.prog 116 0 = some (0, 114) := by kernel_rfl
@[go_sem] theorem places_116 : places Tryz.prog 116 = some ([(0, 1)]) := by kernel_rfl
@[go_sem] theorem tyi_119 : tyi Tryz.prog 119 = some ⟨true, 13, 128, [Value.int IntKind.i64 0, Value.int IntKind.i64 0, Value.int IntKind.i64 0, Value.int IntKind.i64 0, Value.int IntKind.i64 0, Value.string (ByteArray.mk #[]), Value.int IntKind.i64 0, Value.int IntKind.i64 0, Value.int IntKind.i64 0, Value.int IntKind.i64 0, Value.int IntKind.i64 0, Value.int IntKind.i64 0, Value.slice none 0 0]⟩ := by kernel_rfl
@[go_sem] theorem fldt_119_0 : fldt Tryz.prog 119 0 = some (0, 3) := by kernel_rfl
@[go_sem] theorem fldt_119_1 : fldt Tryz.prog 119 1 = some (1, 3) := by kernel_rfl
@[go_sem] theorem fldt_119_2 : fldt Tryz.prog 119 2 = some (2, 3) := by kernel_rfl
@[go_sem] theorem fldt_119_3 : fldt Tryz.prog 119 3 = some (3, 3) := by kernel_rfl
@[go_sem] theorem fldt_119_4 : fldt Tryz.prog 119 4 = some (4, 89) := by kernel_rfl
@[go_sem] theorem fldt_119_5 : fldt Tryz.prog 119 5 = some (8, 3) := by kernel_rfl
@[go_sem] theorem fldt_119_6 : fldt Tryz.prog 119 6 = some (9, 3) := by kernel_rfl
@[go_sem] theorem fldt_119_7 : fldt Tryz.prog 119 7 = some (10, 3) := by kernel_rfl
@[go_sem] theorem fldt_119_8 : fldt Tryz.prog 119 8 = some (11, 3) := by kernel_rfl
@[go_sem] theorem fldt_119_9 : fldt Tryz.prog 119 9 = some (12, 24) := by kernel_rfl
@[go_sem] theorem places_119 : places Tryz.prog 119 = some ([(0, 1), (1, 1), (2, 1), (3, 1), (4, 4), (8, 1), (9, 1), (10, 1), (11, 1), (12, 1)]) := by kernel_rfl
@[go_sem] theorem tyi_156 : tyi Tryz.prog 156 = some ⟨false, 1, 24, [Value.slice none 0 0]⟩ := by kernel_rfl
@[go_sem] theorem elt_156 : elt Tryz.prog 156 = some 172 := by kernel_rfl
@[go_sem] theorem arrt_156 : arrt Tryz.prog 156 = none := by kernel_rfl
@[go_sem] theorem tyi_158 : tyi Tryz.prog 158 = some ⟨true, 1, 24, [Value.slice none 0 0]⟩ := by kernel_rfl
@[go_sem] theorem fldt_158_0 : fldt Tryz.prog 158 0 = some (0, 156) := by kernel_rfl
@[go_sem] theorem tyi_172 : tyi Tryz.prog 172 = some ⟨true, 4, 40, [Value.int IntKind.i64 0, Value.string (ByteArray.mk #[]), Value.int IntKind.i64 0, Value.int IntKind.i64 0]⟩ := by kernel_rfl
@[go_sem] theorem fldt_172_0 : fldt Tryz.prog 172 0 = some (0, 3) := by kernel_rfl
@[go_sem] theorem fldt_172_1 : fldt Tryz.prog 172 1 = some (1, 9) := by kernel_rfl
@[go_sem] theorem fldt_172_2 : fldt Tryz.prog 172 2 = some (2, 3) := by kernel_rfl
@[go_sem] theorem fldt_172_3 : fldt Tryz.prog 172 3 = some (3, 3) := by kernel_rfl
@[go_sem] theorem tyi_174 : tyi Tryz.prog 174 = some ⟨true, 18, 184, [Value.bool false, Value.int IntKind.i64 0, Value.string (ByteArray.mk #[]), Value.int IntKind.i64 0, Value.int IntKind.i64 0, Value.int IntKind.i64 0, Value.int IntKind.i64 0, Value.int IntKind.i64 0, Value.int IntKind.i64 0, Value.int IntKind.i64 0, Value.int IntKind.i64 0, Value.int IntKind.i64 0, Value.int IntKind.i64 0, Value.int IntKind.i64 0, Value.int IntKind.i64 0, Value.int IntKind.i64 0, Value.slice none 0 0, Value.slice none 0 0]⟩ := by kernel_rfl
@[go_sem] theorem fldt_174_0 : fldt Tryz.prog 174 0 = some (0, 4) := by kernel_rfl
@[go_sem] theorem fldt_174_1 : fldt Tryz.prog 174 1 = some (1, 172) := by kernel_rfl
@[go_sem] theorem fldt_174_2 : fldt Tryz.prog 174 2 = some (5, 3) := by kernel_rfl
@[go_sem] theorem fldt_174_3 : fldt Tryz.prog 174 3 = some (6, 3) := by kernel_rfl
@[go_sem] theorem fldt_174_4 : fldt Tryz.prog 174 4 = some (7, 3) := by kernel_rfl
@[go_sem] theorem fldt_174_5 : fldt Tryz.prog 174 5 = some (8, 3) := by kernel_rfl
@[go_sem] theorem fldt_174_6 : fldt Tryz.prog 174 6 = some (9, 3) := by kernel_rfl
@[go_sem] theorem fldt_174_7 : fldt Tryz.prog 174 7 = some (10, 3) := by kernel_rfl
@[go_sem] theorem fldt_174_8 : fldt Tryz.prog 174 8 = some (11, 3) := by kernel_rfl
@[go_sem] theorem fldt_174_9 : fldt Tryz.prog 174 9 = some (12, 3) := by kernel_rfl
@[go_sem] theorem fldt_174_10 : fldt Tryz.prog 174 10 = some (13, 3) := by kernel_rfl
@[go_sem] theorem fldt_174_11 : fldt Tryz.prog 174 11 = some (14, 3) := by kernel_rfl
@[go_sem] theorem fldt_174_12 : fldt Tryz.prog 174 12 = some (15, 3) := by kernel_rfl
@[go_sem] theorem fldt_174_13 : fldt Tryz.prog 174 13 = some (16, 22) := by kernel_rfl
@[go_sem] theorem fldt_174_14 : fldt Tryz.prog 174 14 = some (17, 22) := by kernel_rfl
@[go_sem] theorem tyi_176 : tyi Tryz.prog 176 = some ⟨false, 1, 24, [Value.slice none 0 0]⟩ := by kernel_rfl
@[go_sem] theorem elt_176 : elt Tryz.prog 176 = some 233 := by kernel_rfl
@[go_sem] theorem arrt_176 : arrt Tryz.prog 176 = none := by kernel_rfl
@[go_sem] theorem tyi_178 : tyi Tryz.prog 178 = some ⟨true, 13, 128, [Value.int IntKind.i64 0, Value.int IntKind.i64 0, Value.int IntKind.i64 0, Value.int IntKind.i64 0, Value.int IntKind.i64 0, Value.string (ByteArray.mk #[]), Value.int IntKind.i64 0, Value.int IntKind.i64 0, Value.int IntKind.i64 0, Value.int IntKind.i64 0, Value.int IntKind.i64 0, Value.int IntKind.i64 0, Value.slice none 0 0]⟩ := by kernel_rfl
@[go_sem] theorem fldt_178_0 : fldt Tryz.prog 178 0 = some (0, 3) := by kernel_rfl
@[go_sem] theorem fldt_178_1 : fldt Tryz.prog 178 1 = some (1, 3) := by kernel_rfl
@[go_sem] theorem fldt_178_2 : fldt Tryz.prog 178 2 = some (2, 3) := by kernel_rfl
@[go_sem] theorem fldt_178_3 : fldt Tryz.prog 178 3 = some (3, 3) := by kernel_rfl
@[go_sem] theorem fldt_178_4 : fldt Tryz.prog 178 4 = some (4, 172) := by kernel_rfl
@[go_sem] theorem fldt_178_5 : fldt Tryz.prog 178 5 = some (8, 3) := by kernel_rfl
@[go_sem] theorem fldt_178_6 : fldt Tryz.prog 178 6 = some (9, 3) := by kernel_rfl
@[go_sem] theorem fldt_178_7 : fldt Tryz.prog 178 7 = some (10, 3) := by kernel_rfl
@[go_sem] theorem fldt_178_8 : fldt Tryz.prog 178 8 = some (11, 3) := by kernel_rfl
@[go_sem] theorem fldt_178_9 : fldt Tryz.prog 178 9 = some (12, 176) := by kernel_rfl
@[go_sem] theorem uis_227 : (Tryz.prog.underlying 227).isSome = true := by kernel_rfl
@[go_sem] theorem intKd_227 : intKd Tryz.prog 227 = some IntKind.u64 := by kernel_rfl
@[go_sem] theorem tyi_233 : tyi Tryz.prog 233 = some ⟨true, 10, 88, [Value.string (ByteArray.mk #[]), Value.int IntKind.i64 0, Value.int IntKind.i64 0, Value.bool false, Value.int IntKind.i64 0, Value.int IntKind.i64 0, Value.int IntKind.i64 0, Value.int IntKind.i64 0, Value.int IntKind.i64 0, Value.int IntKind.i64 0]⟩ := by kernel_rfl
@[go_sem] theorem fldt_233_0 : fldt Tryz.prog 233 0 = some (0, 9) := by kernel_rfl
@[go_sem] theorem fldt_233_1 : fldt Tryz.prog 233 1 = some (1, 3) := by kernel_rfl
@[go_sem] theorem fldt_233_2 : fldt Tryz.prog 233 2 = some (2, 3) := by kernel_rfl
@[go_sem] theorem fldt_233_3 : fldt Tryz.prog 233 3 = some (3, 4) := by kernel_rfl
@[go_sem] theorem fldt_233_4 : fldt Tryz.prog 233 4 = some (4, 3) := by kernel_rfl
@[go_sem] theorem fldt_233_5 : fldt Tryz.prog 233 5 = some (5, 3) := by kernel_rfl
@[go_sem] theorem fldt_233_6 : fldt Tryz.prog 233 6 = some (6, 3) := by kernel_rfl
@[go_sem] theorem fldt_233_7 : fldt Tryz.prog 233 7 = some (7, 3) := by kernel_rfl
@[go_sem] theorem fldt_233_8 : fldt Tryz.prog 233 8 = some (8, 3) := by kernel_rfl
@[go_sem] theorem fldt_233_9 : fldt Tryz.prog 233 9 = some (9, 3) := by kernel_rfl
@[go_sem] theorem uis_235 : (Tryz.prog.underlying 235).isSome = true := by kernel_rfl
@[go_sem] theorem intKd_235 : intKd Tryz.prog 235 = some IntKind.u32 := by kernel_rfl
@[go_sem] theorem arrt_244 : arrt Tryz.prog 244 = some (0, 16) := by kernel_rfl
@[go_sem] theorem intKd_248 : intKd Tryz.prog 248 = some IntKind.u8 := by kernel_rfl
@[go_sem] theorem intKd_249 : intKd Tryz.prog 249 = some IntKind.u8 := by kernel_rfl
@[go_sem] theorem intKd_252 : intKd Tryz.prog 252 = some IntKind.i32 := by kernel_rfl
@[go_sem] theorem intKd_253 : intKd Tryz.prog 253 = some IntKind.i32 := by kernel_rfl
@[go_sem] theorem res_3 : Tryz.f3.results.toList = ([ResultVar.tmp 2] : List ResultVar) := by kernel_rfl
@[go_sem] theorem res_5 : Tryz.f5.results.toList = ([ResultVar.tmp 4] : List ResultVar) := by kernel_rfl
@[go_sem] theorem res_9 : Tryz.f9.results.toList = ([ResultVar.cell 2 26] : List ResultVar) := by kernel_rfl
@[go_sem] theorem res_10 : Tryz.f10.results.toList = ([ResultVar.tmp 2] : List ResultVar) := by kernel_rfl
@[go_sem] theorem res_11 : Tryz.f11.results.toList = ([ResultVar.cell 2 26] : List ResultVar) := by kernel_rfl
@[go_sem] theorem res_12 : Tryz.f12.results.toList = ([ResultVar.tmp 4] : List ResultVar) := by kernel_rfl
@[go_sem] theorem res_13 : Tryz.f13.results.toList = ([ResultVar.tmp 4] : List ResultVar) := by kernel_rfl
@[go_sem] theorem res_14 : Tryz.f14.results.toList = ([ResultVar.tmp 4] : List ResultVar) := by kernel_rfl
@[go_sem] theorem res_15 : Tryz.f15.results.toList = ([ResultVar.tmp 4] : List ResultVar) := by kernel_rfl
@[go_sem] theorem res_16 : Tryz.f16.results.toList = ([ResultVar.tmp 4] : List ResultVar) := by kernel_rfl
@[go_sem] theorem res_21 : Tryz.f21.results.toList = ([ResultVar.tmp 4] : List ResultVar) := by kernel_rfl
@[go_sem] theorem res_24 : Tryz.f24.results.toList = ([ResultVar.tmp 4] : List ResultVar) := by kernel_rfl
@[go_sem] theorem res_25 : Tryz.f25.results.toList = ([ResultVar.tmp 4] : List ResultVar) := by kernel_rfl
@[go_sem] theorem res_26 : Tryz.f26.results.toList = ([ResultVar.tmp 4] : List ResultVar) := by kernel_rfl
@[go_sem] theorem res_27 : Tryz.f27.results.toList = ([ResultVar.cell 4 42] : List ResultVar) := by kernel_rfl
@[go_sem] theorem res_28 : Tryz.f28.results.toList = ([ResultVar.cell 2 42] : List ResultVar) := by kernel_rfl
@[go_sem] theorem res_29 : Tryz.f29.results.toList = ([ResultVar.cell 4 42] : List ResultVar) := by kernel_rfl
@[go_sem] theorem res_40 : Tryz.f40.results.toList = ([ResultVar.cell 6 71] : List ResultVar) := by kernel_rfl
@[go_sem] theorem res_41 : Tryz.f41.results.toList = ([ResultVar.cell 6 71] : List ResultVar) := by kernel_rfl
@[go_sem] theorem res_44 : Tryz.f44.results.toList = ([ResultVar.tmp 4] : List ResultVar) := by kernel_rfl
@[go_sem] theorem res_46 : Tryz.f46.results.toList = ([ResultVar.tmp 2] : List ResultVar) := by kernel_rfl
@[go_sem] theorem res_47 : Tryz.f47.results.toList = ([ResultVar.tmp 2, ResultVar.tmp 3] : List ResultVar) := by kernel_rfl
@[go_sem] theorem res_48 : Tryz.f48.results.toList = ([ResultVar.tmp 2] : List ResultVar) := by kernel_rfl
@[go_sem] theorem res_49 : Tryz.f49.results.toList = ([ResultVar.tmp 4] : List ResultVar) := by kernel_rfl
@[go_sem] theorem res_50 : Tryz.f50.results.toList = ([ResultVar.tmp 2] : List ResultVar) := by kernel_rfl
@[go_sem] theorem res_51 : Tryz.f51.results.toList = ([ResultVar.tmp 2] : List ResultVar) := by kernel_rfl
@[go_sem] theorem res_52 : Tryz.f52.results.toList = ([ResultVar.tmp 4, ResultVar.tmp 5] : List ResultVar) := by kernel_rfl
@[go_sem] theorem res_53 : Tryz.f53.results.toList = ([ResultVar.cell 4 26, ResultVar.tmp 5, ResultVar.tmp 6] : List ResultVar) := by kernel_rfl
@[go_sem] theorem res_54 : Tryz.f54.results.toList = ([ResultVar.tmp 4] : List ResultVar) := by kernel_rfl
@[go_sem] theorem res_55 : Tryz.f55.results.toList = ([ResultVar.tmp 4] : List ResultVar) := by kernel_rfl
@[go_sem] theorem res_56 : Tryz.f56.results.toList = ([ResultVar.tmp 4] : List ResultVar) := by kernel_rfl
@[go_sem] theorem res_57 : Tryz.f57.results.toList = ([ResultVar.tmp 4] : List ResultVar) := by kernel_rfl
@[go_sem] theorem res_58 : Tryz.f58.results.toList = ([ResultVar.tmp 4] : List ResultVar) := by kernel_rfl
@[go_sem] theorem res_59 : Tryz.f59.results.toList = ([ResultVar.tmp 4] : List ResultVar) := by kernel_rfl
@[go_sem] theorem res_60 : Tryz.f60.results.toList = ([ResultVar.tmp 4] : List ResultVar) := by kernel_rfl
@[go_sem] theorem res_61 : Tryz.f61.results.toList = ([ResultVar.tmp 4] : List ResultVar) := by kernel_rfl
@[go_sem] theorem res_62 : Tryz.f62.results.toList = ([ResultVar.tmp 4] : List ResultVar) := by kernel_rfl
@[go_sem] theorem res_64 : Tryz.f64.results.toList = ([ResultVar.tmp 6] : List ResultVar) := by kernel_rfl
@[go_sem] theorem res_65 : Tryz.f65.results.toList = ([ResultVar.cell 4 42] : List ResultVar) := by kernel_rfl
@[go_sem] theorem res_66 : Tryz.f66.results.toList = ([ResultVar.cell 2 42] : List ResultVar) := by kernel_rfl
@[go_sem] theorem res_67 : Tryz.f67.results.toList = ([ResultVar.tmp 2] : List ResultVar) := by kernel_rfl
@[go_sem] theorem res_69 : Tryz.f69.results.toList = ([ResultVar.tmp 4] : List ResultVar) := by kernel_rfl
@[go_sem] theorem res_70 : Tryz.f70.results.toList = ([ResultVar.tmp 4] : List ResultVar) := by kernel_rfl
@[go_sem] theorem res_71 : Tryz.f71.results.toList = ([ResultVar.tmp 4] : List ResultVar) := by kernel_rfl
@[go_sem] theorem res_72 : Tryz.f72.results.toList = ([ResultVar.tmp 4] : List ResultVar) := by kernel_rfl
@[go_sem] theorem res_73 : Tryz.f73.results.toList = ([ResultVar.tmp 4] : List ResultVar) := by kernel_rfl
@[go_sem] theorem res_74 : Tryz.f74.results.toList = ([ResultVar.tmp 4] : List ResultVar) := by kernel_rfl
@[go_sem] theorem res_75 : Tryz.f75.results.toList = ([ResultVar.tmp 4] : List ResultVar) := by kernel_rfl
@[go_sem] theorem res_76 : Tryz.f76.results.toList = ([ResultVar.tmp 4] : List ResultVar) := by kernel_rfl
@[go_sem] theorem res_77 : Tryz.f77.results.toList = ([ResultVar.tmp 4] : List ResultVar) := by kernel_rfl
@[go_sem] theorem res_78 : Tryz.f78.results.toList = ([ResultVar.tmp 4] : List ResultVar) := by kernel_rfl
@[go_sem] theorem res_79 : Tryz.f79.results.toList = ([ResultVar.tmp 4] : List ResultVar) := by kernel_rfl
@[go_sem] theorem res_80 : Tryz.f80.results.toList = ([ResultVar.tmp 4] : List ResultVar) := by kernel_rfl
@[go_sem] theorem res_81 : Tryz.f81.results.toList = ([ResultVar.tmp 2] : List ResultVar) := by kernel_rfl
@[go_sem] theorem res_82 : Tryz.f82.results.toList = ([ResultVar.tmp 2] : List ResultVar) := by kernel_rfl
@[go_sem] theorem res_83 : Tryz.f83.results.toList = ([ResultVar.tmp 2] : List ResultVar) := by kernel_rfl
@[go_sem] theorem res_84 : Tryz.f84.results.toList = ([ResultVar.cell 2 42] : List ResultVar) := by kernel_rfl
@[go_sem] theorem res_85 : Tryz.f85.results.toList = ([ResultVar.tmp 2] : List ResultVar) := by kernel_rfl
@[go_sem] theorem res_86 : Tryz.f86.results.toList = ([ResultVar.tmp 6] : List ResultVar) := by kernel_rfl
@[go_sem] theorem res_87 : Tryz.f87.results.toList = ([] : List ResultVar) := by kernel_rfl
@[go_sem] theorem res_88 : Tryz.f88.results.toList = ([] : List ResultVar) := by kernel_rfl
@[go_sem] theorem res_99 : Tryz.f99.results.toList = ([ResultVar.tmp 2] : List ResultVar) := by kernel_rfl
@[go_sem] theorem res_100 : Tryz.f100.results.toList = ([ResultVar.tmp 2] : List ResultVar) := by kernel_rfl
@[go_sem] theorem res_101 : Tryz.f101.results.toList = ([ResultVar.tmp 2] : List ResultVar) := by kernel_rfl
@[go_sem] theorem res_102 : Tryz.f102.results.toList = ([ResultVar.tmp 6, ResultVar.tmp 7] : List ResultVar) := by kernel_rfl
@[go_sem] theorem res_103 : Tryz.f103.results.toList = ([ResultVar.tmp 6] : List ResultVar) := by kernel_rfl
@[go_sem] theorem res_104 : Tryz.f104.results.toList = ([ResultVar.tmp 4] : List ResultVar) := by kernel_rfl
@[go_sem] theorem res_105 : Tryz.f105.results.toList = ([ResultVar.tmp 2, ResultVar.tmp 3] : List ResultVar) := by kernel_rfl
@[go_sem] theorem res_106 : Tryz.f106.results.toList = ([ResultVar.tmp 4] : List ResultVar) := by kernel_rfl
@[go_sem] theorem res_107 : Tryz.f107.results.toList = ([ResultVar.tmp 6, ResultVar.tmp 7] : List ResultVar) := by kernel_rfl
@[go_sem] theorem res_108 : Tryz.f108.results.toList = ([ResultVar.tmp 4] : List ResultVar) := by kernel_rfl
@[go_sem] theorem res_109 : Tryz.f109.results.toList = ([ResultVar.tmp 4] : List ResultVar) := by kernel_rfl
@[go_sem] theorem res_110 : Tryz.f110.results.toList = ([ResultVar.tmp 6] : List ResultVar) := by kernel_rfl
@[go_sem] theorem res_111 : Tryz.f111.results.toList = ([ResultVar.tmp 2] : List ResultVar) := by kernel_rfl
@[go_sem] theorem res_112 : Tryz.f112.results.toList = ([ResultVar.tmp 2] : List ResultVar) := by kernel_rfl
@[go_sem] theorem res_113 : Tryz.f113.results.toList = ([ResultVar.tmp 2] : List ResultVar) := by kernel_rfl
@[go_sem] theorem res_115 : Tryz.f115.results.toList = ([ResultVar.tmp 4, ResultVar.tmp 5, ResultVar.tmp 6] : List ResultVar) := by kernel_rfl
@[go_sem] theorem res_116 : Tryz.f116.results.toList = ([ResultVar.tmp 4] : List ResultVar) := by kernel_rfl
@[go_sem] theorem res_117 : Tryz.f117.results.toList = ([ResultVar.cell 4 71] : List ResultVar) := by kernel_rfl
@[go_sem] theorem res_118 : Tryz.f118.results.toList = ([ResultVar.tmp 2] : List ResultVar) := by kernel_rfl
@[go_sem] theorem res_119 : Tryz.f119.results.toList = ([ResultVar.tmp 4] : List ResultVar) := by kernel_rfl
@[go_sem] theorem res_120 : Tryz.f120.results.toList = ([ResultVar.cell 4 71] : List ResultVar) := by kernel_rfl
@[go_sem] theorem res_121 : Tryz.f121.results.toList = ([ResultVar.tmp 6] : List ResultVar) := by kernel_rfl
@[go_sem] theorem res_123 : Tryz.f123.results.toList = ([ResultVar.tmp 2] : List ResultVar) := by kernel_rfl
@[go_sem] theorem res_124 : Tryz.f124.results.toList = ([ResultVar.tmp 2] : List ResultVar) := by kernel_rfl
@[go_sem] theorem res_125 : Tryz.f125.results.toList = ([ResultVar.tmp 4] : List ResultVar) := by kernel_rfl
@[go_sem] theorem res_127 : Tryz.f127.results.toList = ([ResultVar.tmp 2, ResultVar.tmp 3] : List ResultVar) := by kernel_rfl
@[go_sem] theorem res_128 : Tryz.f128.results.toList = ([ResultVar.tmp 2] : List ResultVar) := by kernel_rfl
@[go_sem] theorem res_129 : Tryz.f129.results.toList = ([ResultVar.tmp 2, ResultVar.tmp 3] : List ResultVar) := by kernel_rfl
@[go_sem] theorem res_130 : Tryz.f130.results.toList = ([ResultVar.tmp 4, ResultVar.tmp 5] : List ResultVar) := by kernel_rfl
@[go_sem] theorem res_131 : Tryz.f131.results.toList = ([ResultVar.cell 2 26] : List ResultVar) := by kernel_rfl
@[go_sem] theorem res_132 : Tryz.f132.results.toList = ([ResultVar.tmp 2] : List ResultVar) := by kernel_rfl
@[go_sem] theorem res_133 : Tryz.f133.results.toList = ([ResultVar.tmp 2] : List ResultVar) := by kernel_rfl
@[go_sem] theorem res_134 : Tryz.f134.results.toList = ([ResultVar.tmp 4] : List ResultVar) := by kernel_rfl
@[go_sem] theorem res_135 : Tryz.f135.results.toList = ([ResultVar.cell 4 26, ResultVar.tmp 5, ResultVar.tmp 6] : List ResultVar) := by kernel_rfl
@[go_sem] theorem res_136 : Tryz.f136.results.toList = ([ResultVar.tmp 6] : List ResultVar) := by kernel_rfl
@[go_sem] theorem res_137 : Tryz.f137.results.toList = ([ResultVar.tmp 4] : List ResultVar) := by kernel_rfl
@[go_sem] theorem res_138 : Tryz.f138.results.toList = ([ResultVar.tmp 4] : List ResultVar) := by kernel_rfl
@[go_sem] theorem res_139 : Tryz.f139.results.toList = ([ResultVar.tmp 4] : List ResultVar) := by kernel_rfl
@[go_sem] theorem res_140 : Tryz.f140.results.toList = ([ResultVar.tmp 2] : List ResultVar) := by kernel_rfl
@[go_sem] theorem res_141 : Tryz.f141.results.toList = ([ResultVar.tmp 4] : List ResultVar) := by kernel_rfl
@[go_sem] theorem res_142 : Tryz.f142.results.toList = ([ResultVar.tmp 2] : List ResultVar) := by kernel_rfl
@[go_sem] theorem res_143 : Tryz.f143.results.toList = ([ResultVar.tmp 2] : List ResultVar) := by kernel_rfl
@[go_sem] theorem res_144 : Tryz.f144.results.toList = ([ResultVar.cell 4 42] : List ResultVar) := by kernel_rfl
@[go_sem] theorem res_145 : Tryz.f145.results.toList = ([ResultVar.tmp 2] : List ResultVar) := by kernel_rfl
@[go_sem] theorem res_146 : Tryz.f146.results.toList = ([ResultVar.cell 6 42, ResultVar.cell 7 111] : List ResultVar) := by kernel_rfl
@[go_sem] theorem res_147 : Tryz.f147.results.toList = ([ResultVar.cell 6 42, ResultVar.cell 7 111] : List ResultVar) := by kernel_rfl
@[go_sem] theorem res_148 : Tryz.f148.results.toList = ([ResultVar.cell 6 42, ResultVar.cell 7 111] : List ResultVar) := by kernel_rfl
@[go_sem] theorem res_149 : Tryz.f149.results.toList = ([ResultVar.cell 6 42, ResultVar.cell 7 111] : List ResultVar) := by kernel_rfl
@[go_sem] theorem res_150 : Tryz.f150.results.toList = ([ResultVar.tmp 2] : List ResultVar) := by kernel_rfl
@[go_sem] theorem res_151 : Tryz.f151.results.toList = ([ResultVar.cell 2 111] : List ResultVar) := by kernel_rfl
@[go_sem] theorem res_152 : Tryz.f152.results.toList = ([ResultVar.cell 2 116] : List ResultVar) := by kernel_rfl
@[go_sem] theorem res_153 : Tryz.f153.results.toList = ([ResultVar.tmp 2] : List ResultVar) := by kernel_rfl
@[go_sem] theorem res_154 : Tryz.f154.results.toList = ([ResultVar.tmp 2] : List ResultVar) := by kernel_rfl
@[go_sem] theorem res_155 : Tryz.f155.results.toList = ([ResultVar.tmp 4] : List ResultVar) := by kernel_rfl
@[go_sem] theorem res_156 : Tryz.f156.results.toList = ([ResultVar.tmp 4] : List ResultVar) := by kernel_rfl
@[go_sem] theorem res_157 : Tryz.f157.results.toList = ([ResultVar.tmp 4] : List ResultVar) := by kernel_rfl
@[go_sem] theorem res_158 : Tryz.f158.results.toList = ([ResultVar.tmp 4] : List ResultVar) := by kernel_rfl
@[go_sem] theorem res_159 : Tryz.f159.results.toList = ([ResultVar.tmp 4] : List ResultVar) := by kernel_rfl
@[go_sem] theorem res_160 : Tryz.f160.results.toList = ([ResultVar.tmp 4] : List ResultVar) := by kernel_rfl
@[go_sem] theorem res_161 : Tryz.f161.results.toList = ([ResultVar.tmp 4] : List ResultVar) := by kernel_rfl
@[go_sem] theorem res_162 : Tryz.f162.results.toList = ([ResultVar.tmp 2] : List ResultVar) := by kernel_rfl
@[go_sem] theorem res_163 : Tryz.f163.results.toList = ([ResultVar.tmp 2] : List ResultVar) := by kernel_rfl
@[go_sem] theorem res_164 : Tryz.f164.results.toList = ([ResultVar.cell 2 111] : List ResultVar) := by kernel_rfl
@[go_sem] theorem res_165 : Tryz.f165.results.toList = ([ResultVar.cell 2 119] : List ResultVar) := by kernel_rfl
@[go_sem] theorem res_166 : Tryz.f166.results.toList = ([ResultVar.cell 2 111] : List ResultVar) := by kernel_rfl
@[go_sem] theorem res_167 : Tryz.f167.results.toList = ([ResultVar.cell 2 119] : List ResultVar) := by kernel_rfl
@[go_sem] theorem res_168 : Tryz.f168.results.toList = ([ResultVar.tmp 4] : List ResultVar) := by kernel_rfl
@[go_sem] theorem res_169 : Tryz.f169.results.toList = ([ResultVar.tmp 2] : List ResultVar) := by kernel_rfl
@[go_sem] theorem res_170 : Tryz.f170.results.toList = ([] : List ResultVar) := by kernel_rfl
@[go_sem] theorem res_171 : Tryz.f171.results.toList = ([ResultVar.tmp 8, ResultVar.tmp 9] : List ResultVar) := by kernel_rfl
@[go_sem] theorem res_172 : Tryz.f172.results.toList = ([ResultVar.tmp 4] : List ResultVar) := by kernel_rfl
@[go_sem] theorem res_173 : Tryz.f173.results.toList = ([ResultVar.tmp 4] : List ResultVar) := by kernel_rfl
@[go_sem] theorem res_174 : Tryz.f174.results.toList = ([] : List ResultVar) := by kernel_rfl
@[go_sem] theorem res_175 : Tryz.f175.results.toList = ([ResultVar.tmp 6] : List ResultVar) := by kernel_rfl
@[go_sem] theorem res_176 : Tryz.f176.results.toList = ([ResultVar.tmp 2] : List ResultVar) := by kernel_rfl
@[go_sem] theorem res_177 : Tryz.f177.results.toList = ([] : List ResultVar) := by kernel_rfl
@[go_sem] theorem res_178 : Tryz.f178.results.toList = ([ResultVar.tmp 2] : List ResultVar) := by kernel_rfl
@[go_sem] theorem res_179 : Tryz.f179.results.toList = ([] : List ResultVar) := by kernel_rfl
@[go_sem] theorem res_189 : Tryz.f189.results.toList = ([ResultVar.tmp 4] : List ResultVar) := by kernel_rfl
@[go_sem] theorem res_190 : Tryz.f190.results.toList = ([ResultVar.tmp 2] : List ResultVar) := by kernel_rfl
@[go_sem] theorem res_191 : Tryz.f191.results.toList = ([ResultVar.tmp 2] : List ResultVar) := by kernel_rfl
@[go_sem] theorem res_192 : Tryz.f192.results.toList = ([ResultVar.tmp 2] : List ResultVar) := by kernel_rfl
@[go_sem] theorem res_193 : Tryz.f193.results.toList = ([ResultVar.tmp 4, ResultVar.tmp 5] : List ResultVar) := by kernel_rfl
@[go_sem] theorem res_194 : Tryz.f194.results.toList = ([ResultVar.tmp 6] : List ResultVar) := by kernel_rfl
@[go_sem] theorem res_195 : Tryz.f195.results.toList = ([ResultVar.tmp 2] : List ResultVar) := by kernel_rfl
@[go_sem] theorem res_196 : Tryz.f196.results.toList = ([ResultVar.tmp 6] : List ResultVar) := by kernel_rfl
@[go_sem] theorem res_197 : Tryz.f197.results.toList = ([ResultVar.tmp 2] : List ResultVar) := by kernel_rfl
@[go_sem] theorem res_198 : Tryz.f198.results.toList = ([ResultVar.tmp 4] : List ResultVar) := by kernel_rfl
@[go_sem] theorem res_199 : Tryz.f199.results.toList = ([ResultVar.tmp 2, ResultVar.tmp 3] : List ResultVar) := by kernel_rfl
@[go_sem] theorem res_200 : Tryz.f200.results.toList = ([ResultVar.tmp 4] : List ResultVar) := by kernel_rfl
@[go_sem] theorem res_201 : Tryz.f201.results.toList = ([ResultVar.tmp 4] : List ResultVar) := by kernel_rfl
@[go_sem] theorem res_202 : Tryz.f202.results.toList = ([ResultVar.tmp 4] : List ResultVar) := by kernel_rfl
@[go_sem] theorem res_203 : Tryz.f203.results.toList = ([ResultVar.tmp 6] : List ResultVar) := by kernel_rfl
@[go_sem] theorem res_204 : Tryz.f204.results.toList = ([ResultVar.tmp 4] : List ResultVar) := by kernel_rfl
@[go_sem] theorem res_205 : Tryz.f205.results.toList = ([ResultVar.cell 4 71] : List ResultVar) := by kernel_rfl
@[go_sem] theorem res_206 : Tryz.f206.results.toList = ([ResultVar.cell 4 71] : List ResultVar) := by kernel_rfl
@[go_sem] theorem res_207 : Tryz.f207.results.toList = ([ResultVar.tmp 4] : List ResultVar) := by kernel_rfl
@[go_sem] theorem res_208 : Tryz.f208.results.toList = ([ResultVar.tmp 2, ResultVar.tmp 3] : List ResultVar) := by kernel_rfl
@[go_sem] theorem res_209 : Tryz.f209.results.toList = ([ResultVar.tmp 2] : List ResultVar) := by kernel_rfl
@[go_sem] theorem res_210 : Tryz.f210.results.toList = ([ResultVar.tmp 2] : List ResultVar) := by kernel_rfl
@[go_sem] theorem res_211 : Tryz.f211.results.toList = ([ResultVar.tmp 2] : List ResultVar) := by kernel_rfl
@[go_sem] theorem res_212 : Tryz.f212.results.toList = ([ResultVar.tmp 4] : List ResultVar) := by kernel_rfl
@[go_sem] theorem res_213 : Tryz.f213.results.toList = ([ResultVar.tmp 3] : List ResultVar) := by kernel_rfl
@[go_sem] theorem res_214 : Tryz.f214.results.toList = ([ResultVar.tmp 2] : List ResultVar) := by kernel_rfl
@[go_sem] theorem res_215 : Tryz.f215.results.toList = ([ResultVar.cell 4 71] : List ResultVar) := by kernel_rfl
@[go_sem] theorem res_216 : Tryz.f216.results.toList = ([ResultVar.cell 4 71] : List ResultVar) := by kernel_rfl
@[go_sem] theorem res_217 : Tryz.f217.results.toList = ([ResultVar.tmp 4] : List ResultVar) := by kernel_rfl
@[go_sem] theorem res_218 : Tryz.f218.results.toList = ([ResultVar.tmp 6] : List ResultVar) := by kernel_rfl
@[go_sem] theorem res_221 : Tryz.f221.results.toList = ([ResultVar.tmp 6, ResultVar.tmp 7] : List ResultVar) := by kernel_rfl
@[go_sem] theorem res_222 : Tryz.f222.results.toList = ([ResultVar.tmp 4] : List ResultVar) := by kernel_rfl
@[go_sem] theorem res_223 : Tryz.f223.results.toList = ([ResultVar.tmp 4] : List ResultVar) := by kernel_rfl
@[go_sem] theorem res_224 : Tryz.f224.results.toList = ([ResultVar.tmp 2] : List ResultVar) := by kernel_rfl
@[go_sem] theorem res_225 : Tryz.f225.results.toList = ([ResultVar.tmp 6] : List ResultVar) := by kernel_rfl
@[go_sem] theorem res_226 : Tryz.f226.results.toList = ([ResultVar.tmp 4] : List ResultVar) := by kernel_rfl
@[go_sem] theorem res_227 : Tryz.f227.results.toList = ([ResultVar.tmp 2] : List ResultVar) := by kernel_rfl
@[go_sem] theorem res_228 : Tryz.f228.results.toList = ([ResultVar.cell 8 42, ResultVar.cell 9 111] : List ResultVar) := by kernel_rfl
@[go_sem] theorem res_229 : Tryz.f229.results.toList = ([ResultVar.tmp 4] : List ResultVar) := by kernel_rfl
@[go_sem] theorem res_230 : Tryz.f230.results.toList = ([ResultVar.cell 6 42, ResultVar.tmp 7] : List ResultVar) := by kernel_rfl
@[go_sem] theorem res_231 : Tryz.f231.results.toList = ([ResultVar.cell 6 42, ResultVar.cell 7 111] : List ResultVar) := by kernel_rfl
@[go_sem] theorem res_232 : Tryz.f232.results.toList = ([ResultVar.cell 10 42, ResultVar.cell 11 111] : List ResultVar) := by kernel_rfl
@[go_sem] theorem res_233 : Tryz.f233.results.toList = ([ResultVar.tmp 2] : List ResultVar) := by kernel_rfl
@[go_sem] theorem res_234 : Tryz.f234.results.toList = ([ResultVar.tmp 2] : List ResultVar) := by kernel_rfl
@[go_sem] theorem res_235 : Tryz.f235.results.toList = ([ResultVar.tmp 4] : List ResultVar) := by kernel_rfl
@[go_sem] theorem res_236 : Tryz.f236.results.toList = ([ResultVar.tmp 4] : List ResultVar) := by kernel_rfl
@[go_sem] theorem res_237 : Tryz.f237.results.toList = ([ResultVar.tmp 4] : List ResultVar) := by kernel_rfl
@[go_sem] theorem res_238 : Tryz.f238.results.toList = ([ResultVar.tmp 4] : List ResultVar) := by kernel_rfl
@[go_sem] theorem res_239 : Tryz.f239.results.toList = ([ResultVar.tmp 2] : List ResultVar) := by kernel_rfl
@[go_sem] theorem res_240 : Tryz.f240.results.toList = ([ResultVar.tmp 2] : List ResultVar) := by kernel_rfl
@[go_sem] theorem res_241 : Tryz.f241.results.toList = ([ResultVar.cell 2 89] : List ResultVar) := by kernel_rfl
@[go_sem] theorem res_242 : Tryz.f242.results.toList = ([ResultVar.tmp 2] : List ResultVar) := by kernel_rfl
@[go_sem] theorem res_243 : Tryz.f243.results.toList = ([ResultVar.tmp 4] : List ResultVar) := by kernel_rfl
@[go_sem] theorem res_244 : Tryz.f244.results.toList = ([ResultVar.tmp 2] : List ResultVar) := by kernel_rfl
@[go_sem] theorem res_245 : Tryz.f245.results.toList = ([ResultVar.tmp 2] : List ResultVar) := by kernel_rfl
@[go_sem] theorem res_246 : Tryz.f246.results.toList = ([] : List ResultVar) := by kernel_rfl
@[go_sem] theorem res_247 : Tryz.f247.results.toList = ([ResultVar.tmp 6, ResultVar.tmp 7] : List ResultVar) := by kernel_rfl
@[go_sem] theorem res_252 : Tryz.f252.results.toList = ([ResultVar.tmp 4] : List ResultVar) := by kernel_rfl
@[go_sem] theorem res_253 : Tryz.f253.results.toList = ([ResultVar.tmp 6] : List ResultVar) := by kernel_rfl
@[go_sem] theorem res_254 : Tryz.f254.results.toList = ([ResultVar.tmp 2] : List ResultVar) := by kernel_rfl
@[go_sem] theorem res_255 : Tryz.f255.results.toList = ([ResultVar.tmp 2] : List ResultVar) := by kernel_rfl
@[go_sem] theorem res_256 : Tryz.f256.results.toList = ([ResultVar.tmp 2] : List ResultVar) := by kernel_rfl
@[go_sem] theorem res_257 : Tryz.f257.results.toList = ([ResultVar.tmp 4] : List ResultVar) := by kernel_rfl
@[go_sem] theorem res_258 : Tryz.f258.results.toList = ([ResultVar.tmp 4] : List ResultVar) := by kernel_rfl
@[go_sem] theorem res_259 : Tryz.f259.results.toList = ([ResultVar.tmp 3] : List ResultVar) := by kernel_rfl
@[go_sem] theorem res_261 : Tryz.f261.results.toList = ([ResultVar.tmp 2] : List ResultVar) := by kernel_rfl
@[go_sem] theorem res_264 : Tryz.f264.results.toList = ([ResultVar.tmp 2] : List ResultVar) := by kernel_rfl
@[go_sem] theorem res_265 : Tryz.f265.results.toList = ([ResultVar.tmp 4] : List ResultVar) := by kernel_rfl
@[go_sem] theorem res_266 : Tryz.f266.results.toList = ([ResultVar.cell 2 71] : List ResultVar) := by kernel_rfl
@[go_sem] theorem res_267 : Tryz.f267.results.toList = ([ResultVar.tmp 4, ResultVar.tmp 5] : List ResultVar) := by kernel_rfl
@[go_sem] theorem res_270 : Tryz.f270.results.toList = ([ResultVar.tmp 2] : List ResultVar) := by kernel_rfl
end Go.Proofs.YtipfnhfcoolhaaaGreat.Aw
end
section
namespace Go.Proofs.YtipfnhfcoolhaaaGreat.Aw
open Go Go.RowKit
set_option maxRecDepth 100000
set_option maxHeartbeats 2000000
attribute [-go_sem] wr_eq
theorem ownNil {α : Type} [Ob α] [Own α] {H : AH} {b : Nat} (h : H.blk b = some ⟨[], Ob.n α⟩) : OwnS H [b] (.sl b 0 0) ([] : List α) := .inr ⟨b, 0, [], [], rfl, h, by simp, by simp, rfl, by simp; exact .nil⟩
theorem nd_lt {S S2 : List Nat} {m : Nat} (h : S.Nodup) (k : S2.Nodup) (hl : ∀ b ∈ S, b < m) (hr : ∀ b ∈ S2, m ≤ b) : (S ++ S2).Nodup := List.nodup_append.2 ⟨h, k, fun a ha b hb => by have := hl a ha; have := hr b hb; omega⟩
theorem CloneRow_ok (W0 : World) (v : AV) (a : List RowD) (H : AH) (ha : SlR W0 H v a) (hl : a.length ≤ 1000000000) : ACalls Tryz.prog W0 210 [v] H (fun u H' => NewS H H' u a) := by
  refine acallw Tryz.func210 rfl (by kernel_rfl) (by kernel_rfl) fun hc hw => ?_
  rcases ha.cases with ⟨b, o, n, rfl⟩ | ⟨n, c, rfl, rfl⟩ | ⟨ad, n, c, rfl⟩
  · repeat' (first | simp -implicitDefEqProofs only [go_sem] | (refine app_new ha (by repeat (first | exact Sub.refl _ | assumption | refine Sub.new (by assumption) ?_ _ _ | refine Sub.kill_new (by assumption) ?_ _ _ | refine Sub.trans ?_ (by assumption))) (by simp only [go_sem]) (Nat.le_refl _) hw ?_; intro H' hs hN) | fail)
    exact retK_one hN
  · repeat' (first | simp -implicitDefEqProofs only [go_sem] | (simp -implicitDefEqProofs only [Option.isNone_none, Option.isNone_some, go_sem]))
    exact retK_one ⟨Sub.refl _, [], .inl ⟨rfl, rfl, rfl⟩, Fresh.nil _⟩
  · repeat' (first | simp -implicitDefEqProofs only [go_sem] | (simp -implicitDefEqProofs only [Option.isNone_none, Option.isNone_some, go_sem]) | (refine app_new ha (by repeat (first | exact Sub.refl _ | assumption | refine Sub.new (by assumption) ?_ _ _ | refine Sub.kill_new (by assumption) ?_ _ _ | refine Sub.trans ?_ (by assumption))) (by simp only [go_sem]) (Nat.le_refl _) hw ?_; intro H' hs hN) | fail)
    exact retK_one hN
theorem evCopy_ok (W0 : World) (cs : List AV) (e : EvD) (H : AH) (he : Ob.rep W0 H cs e) (hl : e.rows.length ≤ 1000000000) : ACalls Tryz.prog W0 167 [.agg cs] H (fun v H' => NewV H H' v e) := by
  refine acallw Tryz.func167 rfl (by kernel_rfl) (by kernel_rfl) fun hc hw => ?_
  obtain ⟨vr, rfl, f0, f1, f2, f3, f4, f5, f6, f7, f8, f9, f10, f11, f12⟩ := he
  repeat' (first | simp -implicitDefEqProofs only [go_sem])
  refine ACallK.of (CloneRow_ok _ vr e.rows _ (f12.sub (by repeat (first | exact Sub.refl _ | assumption | refine Sub.new (by assumption) ?_ _ _ | refine Sub.kill_new (by assumption) ?_ _ _ | refine Sub.trans ?_ (by assumption)))) hl).cl ?_
  rintro u1 H1 ⟨⟨s1, S1, w1, F1⟩, c1⟩
  have n1 := s1.1; simp only [go_sem] at n1
  have a1 := s1.2 H.nxt _ (by simp only [go_sem]; rfl)
  have o1 := s1.2 (H.nxt + 1) _ (by simp only [go_sem]; rfl)
  repeat' (first | simp -implicitDefEqProofs only [go_sem] | (simp -implicitDefEqProofs only [a1, o1, w1.one, w1.leaf, set_set, wr_succ, wr_zero, wr_none, go_sem]))
  refine retK_one ?_
  refine ⟨by repeat (first | exact Sub.refl _ | assumption | refine Sub.new hc.1 ?_ _ _ | refine Sub.set hc.1 ?_ (by omega) _ | refine Sub.trans ?_ (by assumption)), _, _, rfl, ⟨u1, S1, rfl, rfl, f0, f1, f2, f3, f4, f5, f6, f7, f8, f9, f10, f11, w1.chg2 (fun b hb => by have := F1.2 b hb; simp only [go_sem] at this; omega)⟩, F1.le (by simp only [go_sem]; omega)⟩
section
variable {P : Program} {W0 : World}
theorem app_newW {α : Type} [Ob α] [Own α] [Flat α] {K : Kt} {H0 H : AH} {v : AV} {xs : List α} {g : Bool} {s by' : Nat} {z : List Value} {b : Nat} (hv : SlR W0 H0 v xs) (hs0 : Sub H0 H) (hB : H.blk b = some ⟨[], s⟩) (hb : H0.nxt ≤ b) (hw : H0.wf) (hwH : H.wf) (k : ∀ u H' S, H'.wf → Sub H0 H' → OwnS H' S u xs → Fresh H0.nxt S → K.k u H')
    (h3 : xs.length * by' ≤ 140737488355328 := by omega) (hz : s = Ob.n α := by rfl) (g1 : 0 < s := by decide) (g2 : 0 < by' := by decide) (g3 : z.length = s := by rfl) : aapp (K := K) P W0 H (some ⟨g, s, by', z⟩) (.sl b 0 0) v := by
  subst hz
  obtain ⟨h1, h2, cs, hc, hr⟩ := hv.sub hs0
  obtain ⟨rfl, hok⟩ := Reps.flat Flat.rep_enc hr
  have hl := lenA_of (slN_len h1)
  have hel := encL_len hok
  rw [aapp_sl, hl]
  simp only [hB, hc]
  rw [aapp2_some]
  refine ⟨g1, g2, g3, hr.leaf, rfl, by simp, by rw [Nat.zero_add]; exact h3, ?_⟩
  simp only [Nat.zero_add, Nat.zero_mul, List.drop_nil, List.take_nil, List.nil_append]
  have hsub : Sub H0 ((H.kill b).new (encL xs) (Ob.n α)) := by
    refine ⟨Nat.le_succ_of_le hs0.1, fun x B hx => ?_⟩
    have := hw.lt hx
    have h4 := hs0.1
    rw [blk_new, if_neg (show ¬ x = (H.kill b).nxt from by rw [nxt_kill]; omega), blk_kill, if_neg (by omega)]
    exact hs0.2 x B hx
  exact k _ _ [H.nxt] ((hwH.kill b).new _ _) hsub (OwnS.ofFlat (cs := encL xs) (blk_new_self _ _ _) (by rw [List.drop_zero]; exact List.take_of_length_le (by rw [hel]; exact Nat.le_refl _)) (by rw [hel]; omega) h2 hok rfl) (by simp [Fresh, hs0.1])
end
theorem l10Log_ok (W0 : World) (v : AV) (l : List EvD) (H : AH) (hx : SlR W0 H v l) (hl : l.length ≤ 10000000) (hr : ∀ e ∈ l, e.rows.length ≤ 1000000000) : ACalls Tryz.prog W0 150 [v] H (fun u H' => NewS H H' u l) := by
  refine acallw Tryz.func150 rfl (by kernel_rfl) (by kernel_rfl) fun hc hw => ?_
  repeat' (first | simp -implicitDefEqProofs only [go_sem])
  refine acode_while (fun (p : Nat × AV) => [(0, v), (3, p.2), (4, .v (.int .i64 p.1))]) (fun p H' => H'.wf ∧ Sub H H' ∧ p.1 ≤ l.length ∧ ∃ S, OwnS H' S p.2 (l.take p.1) ∧ S.Nodup ∧ ∀ x ∈ S, H.nxt ≤ x) (fun p => l.length - p.1) (0, .sl H.nxt 0 0) ?_ ?_
  · exact ⟨hw.new _ _, by repeat (first | exact Sub.refl _ | assumption | refine Sub.new (by assumption) ?_ _ _ | refine Sub.kill_new (by assumption) ?_ _ _ | refine Sub.trans ?_ (by assumption)), by simp only; omega, [H.nxt], ownNil (by simp only [go_sem]; rfl), by simp, by simp⟩
  rintro ⟨i, u⟩ H' ⟨hw', hs, hi, S, ho, hn, hS⟩
  simp only at hi ho ⊢
  have hlt : ∀ b ∈ S, b < H'.nxt := fun b hb => hw'.lt' (ho.isin b hb)
  rcases Nat.lt_or_ge i l.length with hlt2 | hge
  · have hlen : (l.take i).length ≤ 10000000 := by simp; omega
    have hri := hr _ (List.getElem_mem hlt2)
    repeat' (first | simp -implicitDefEqProofs only [go_sem] | (refine aK_slw (by assumption) hlt2 ?_; intro cs hcs; have hcs2 := hcs; obtain ⟨vr, rfl, q0, q1, q2, q3, q4, q5, q6, q7, q8, q9, q10, q11, q12⟩ := hcs2) | (simp -implicitDefEqProofs only [wr_succ, wr_zero, wr_none, set_set, go_sem]) | refine acond_decT (by omega) ?_ | refine abi_len_sl' (by assumption) ?_ | refine aixs_sln (by assumption) ?_ | rw [SlR.leaf (by assumption)] | fail)
    refine app_newW (q12.sub (by repeat (first | exact Sub.refl _ | assumption | refine Sub.new (by assumption) ?_ _ _ | refine Sub.kill_new (by assumption) ?_ _ _ | refine Sub.trans ?_ (by assumption)))) ((Sub.refl _).new (hw'.new _ _) _ _) (by simp only [go_sem]) (Nat.le_refl _) (hw'.new _ _) ((hw'.new _ _).new _ _) ?_
    intro u2 H2 S2 hw2 s2 w2 F2
    have a1 := s2.2 H'.nxt _ (by simp only [go_sem]; rfl)
    have hF : ∀ b ∈ S2, H'.nxt < b := fun b hb => F2.2 b hb
    have hb2 : H'.nxt < H2.nxt := s2.1
    have w3 := w2.setne (b := H'.nxt) (B := ⟨[.v (.int .i64 l[i].kind), .v (.int .i64 l[i].who), .v (.int .i64 l[i].serial), .v (.int .i64 l[i].tm), .v (.int .i64 l[i].op.kind), .v (.string l[i].op.key), .v (.int .i64 l[i].op.what), .v (.int .i64 l[i].op.val), .v (.int .i64 l[i].code), .v (.int .i64 l[i].win), .v (.int .i64 l[i].steps), .v (.int .i64 l[i].flips), u2], 13⟩) (fun x hx => by have := hF x hx; omega)
    have hwS := hw2.set (b := H'.nxt) hb2 ⟨[.v (.int .i64 l[i].kind), .v (.int .i64 l[i].who), .v (.int .i64 l[i].serial), .v (.int .i64 l[i].tm), .v (.int .i64 l[i].op.kind), .v (.string l[i].op.key), .v (.int .i64 l[i].op.what), .v (.int .i64 l[i].op.val), .v (.int .i64 l[i].code), .v (.int .i64 l[i].win), .v (.int .i64 l[i].steps), .v (.int .i64 l[i].flips), u2], 13⟩
    have hsub : Sub H' (H2.set H'.nxt ⟨[.v (.int .i64 l[i].kind), .v (.int .i64 l[i].who), .v (.int .i64 l[i].serial), .v (.int .i64 l[i].tm), .v (.int .i64 l[i].op.kind), .v (.string l[i].op.key), .v (.int .i64 l[i].op.what), .v (.int .i64 l[i].op.val), .v (.int .i64 l[i].code), .v (.int .i64 l[i].win), .v (.int .i64 l[i].steps), .v (.int .i64 l[i].flips), u2], 13⟩) := Sub.set hw' (((Sub.refl _).new hw' _ _).trans s2) (Nat.le_refl _) _
    repeat' (first | simp -implicitDefEqProofs only [go_sem] | (simp -implicitDefEqProofs only [a1, w2.one, w2.leaf, set_set, wr_succ, wr_zero, wr_none, go_sem]))
    refine app_one (x := l[i]) (S2 := S2) (ho.sub (hsub.trans ((Sub.refl _).new hwS _ _))) (Own.sub ⟨u2, S2, rfl, rfl, q0, q1, q2, q3, q4, q5, q6, q7, q8, q9, q10, q11, w3⟩ ((Sub.refl _).new hwS _ _)) (nd_lt hn F2.1 hlt (fun b hb => Nat.le_of_lt (hF b hb))) (hwS.new _ _) (by simp only [go_sem]) (fun hm => absurd (hlt _ hm) (by first | omega | (simp only [go_sem]; omega))) ?_
    intro H3 S3 v3 w3 o3 u3 l3
    have h4 := u3.sub hw (hs.trans (hsub.trans ((Sub.refl _).new hwS _ _))) (fun b hb => (List.mem_append.1 hb).elim (hS b) (fun hb => Nat.le_trans hs.1 (Nat.le_of_lt (hF b hb))))
    repeat' (first | simp -implicitDefEqProofs only [go_sem] | simp -implicitDefEqProofs (disch := omega) only [wrap_in, u8_small, Int.tmod_eq_emod_of_nonneg, Int.tdiv_eq_ediv_of_nonneg])
    exact back (i + 1, v3) ⟨w3, h4.1, by simp only; omega, S3, by simp only; rw [List.take_succ_eq_append_getElem hlt2]; exact o3, u3.2.2.2, h4.2⟩ (by simp only; omega)
  · obtain rfl : i = l.length := by omega
    rw [List.take_length] at ho
    repeat' (first | simp -implicitDefEqProofs only [go_sem] | refine acond_decF (by omega) ?_ | refine abi_len_sl' (by assumption) ?_ | fail)
    exact retK_one ⟨hs, S, ho, hn, hS⟩
end Go.Proofs.YtipfnhfcoolhaaaGreat.Aw
end
section
namespace Go.Proofs.YtipfnhfcoolhaaaGreat.Aw
open Go Go.RowKit
set_option maxRecDepth 100000
set_option maxHeartbeats 2000000
attribute [-go_sem] wr_eq
theorem CloneKRow_ok (W0 : World) (v : AV) (a : List KRowD) (H : AH) (ha : SlR W0 H v a) (hl : a.length ≤ 1000000000) : ACalls Tryz.prog W0 209 [v] H (fun u H' => NewS H H' u a) := by
  refine acallw Tryz.func209 rfl (by kernel_rfl) (by kernel_rfl) fun hc hw => ?_
  rcases ha.cases with ⟨b, o, n, rfl⟩ | ⟨n, c, rfl, rfl⟩ | ⟨ad, n, c, rfl⟩
  · repeat' (first | simp -implicitDefEqProofs only [go_sem] | (refine app_new ha (by repeat (first | exact Sub.refl _ | assumption | refine Sub.new (by assumption) ?_ _ _ | refine Sub.kill_new (by assumption) ?_ _ _ | refine Sub.trans ?_ (by assumption))) (by simp only [go_sem]) (Nat.le_refl _) hw ?_; intro H' hs hN) | fail)
    exact retK_one hN
  · repeat' (first | simp -implicitDefEqProofs only [go_sem] | (simp -implicitDefEqProofs only [Option.isNone_none, Option.isNone_some, go_sem]))
    exact retK_one ⟨Sub.refl _, [], .inl ⟨rfl, rfl, rfl⟩, Fresh.nil _⟩
  · repeat' (first | simp -implicitDefEqProofs only [go_sem] | (simp -implicitDefEqProofs only [Option.isNone_none, Option.isNone_some, go_sem]) | (refine app_new ha (by repeat (first | exact Sub.refl _ | assumption | refine Sub.new (by assumption) ?_ _ _ | refine Sub.kill_new (by assumption) ?_ _ _ | refine Sub.trans ?_ (by assumption))) (by simp only [go_sem]) (Nat.le_refl _) hw ?_; intro H' hs hN) | fail)
    exact retK_one hN
section
variable {P : Program} {W0 : World}
end
theorem modelCopy_ok (W0 : World) (cs : List AV) (m : ModelD) (H : AH) (hm : Ob.rep W0 H cs m) (h1 : m.keys.length ≤ 1000000000) (h2 : m.rows.length ≤ 1000000000) : ACalls Tryz.prog W0 131 [.agg cs] H (fun v H' => NewV H H' v m) := by
  refine acallw Tryz.func131 rfl (by kernel_rfl) (by kernel_rfl) fun hc hw => ?_
  obtain ⟨vk, vr, rfl, f0, f1⟩ := hm
  repeat' (first | simp -implicitDefEqProofs only [go_sem] | ((with_reducible refine adraw_plan [(0, []), (1, []), (3, []), (4, []), (2, [3, 4]), (5, []), (6, []), (7, [])] ?_ ?_ ?_); (· kernel_rfl); (· decide +kernel)))
  refine ACallK.of (CloneKRow_ok _ vk m.keys _ (f0.sub (by repeat (first | exact Sub.refl _ | assumption | refine Sub.new (by assumption) ?_ _ _ | refine Sub.kill_new (by assumption) ?_ _ _ | refine Sub.trans ?_ (by assumption)))) h1).cl ?_
  rintro u1 H1 ⟨⟨s1, S1, w1, F1⟩, c1⟩
  have n1 := s1.1; simp only [go_sem] at n1
  have a1 := s1.2 H.nxt _ (by simp only [go_sem]; rfl)
  have o1 := s1.2 (H.nxt + 1) _ (by simp only [go_sem]; rfl)
  have hw1 := c1.1
  have hs1 : Sub H H1 := ((Sub.new hw (Sub.refl _) _ _).trans ((Sub.refl _).new (hw.new _ _) _ _)).trans s1
  repeat' (first | simp -implicitDefEqProofs only [go_sem] | (simp -implicitDefEqProofs only [a1, o1]))
  refine ACallK.of (CloneRow_ok _ vr m.rows _ (f1.sub hs1) h2).cl ?_
  rintro u2 H2 ⟨⟨s2, S2, w2, F2⟩, c2⟩
  have n2 := s2.1
  have a2 := s2.2 _ _ a1
  have o2 := s2.2 _ _ o1
  have w1' := w1.sub s2
  have hb1 : ∀ b ∈ S1, b < H1.nxt := fun b hb => hw1.lt' (w1.isin b hb)
  repeat' (first | simp -implicitDefEqProofs only [go_sem] | (simp -implicitDefEqProofs only [a2, o2, w1'.one, w1'.leaf, w2.one, w2.leaf, set_set, wr_succ, wr_zero, wr_none, go_sem]))
  refine retK_one ?_
  refine ⟨by repeat (first | exact Sub.refl _ | assumption | refine Sub.new hc.1 ?_ _ _ | refine Sub.set hc.1 ?_ (by omega) _ | refine Sub.trans ?_ (by assumption)), _, _, rfl, ⟨u1, u2, S1, S2, rfl, rfl, w1'.setne (fun b hb => by have := F1.2 b hb; simp only [go_sem] at this; omega), w2.setne (fun b hb => by have := F2.2 b hb; omega)⟩, Fresh.app (F1.le (by simp only [go_sem]; omega)) (F2.le (by omega)) (fun b hb hc => by have := hb1 b hb; have := F2.2 b hc; omega)⟩
end Go.Proofs.YtipfnhfcoolhaaaGreat.Aw
end
