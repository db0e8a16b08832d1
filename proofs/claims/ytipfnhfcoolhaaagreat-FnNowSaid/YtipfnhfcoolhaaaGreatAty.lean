/- Facts about the seat's types, printed by ty.py. -/
import Derived.Test.YtipfnhfcoolhaaaGreatBB
import Derived.Test.YtipfnhfcoolhaaaGreatProg
namespace Go.Proofs.YtipfnhfcoolhaaaGreat.Aw
open Go
@[go_sem] theorem uis_0 : (Tryz.prog.underlying 0).isSome = true := by kernel_rfl
@[go_sem] theorem tyi_0 : tyi Tryz.prog 0 = some ⟨false, 1, 0, [Value.tuple #[]]⟩ := by kernel_rfl
@[go_sem] theorem uis_1 : (Tryz.prog.underlying 1).isSome = true := by kernel_rfl
@[go_sem] theorem tyi_1 : tyi Tryz.prog 1 = some ⟨false, 1, 8, [Value.nilFunc]⟩ := by kernel_rfl
@[go_sem] theorem uis_2 : (Tryz.prog.underlying 2).isSome = true := by kernel_rfl
@[go_sem] theorem tyi_2 : tyi Tryz.prog 2 = some ⟨false, 1, 8, [Value.int IntKind.i64 0]⟩ := by kernel_rfl
@[go_sem] theorem intKd_2 : intKd Tryz.prog 2 = some IntKind.i64 := by kernel_rfl
@[go_sem] theorem uis_3 : (Tryz.prog.underlying 3).isSome = true := by kernel_rfl
@[go_sem] theorem tyi_3 : tyi Tryz.prog 3 = some ⟨false, 1, 8, [Value.int IntKind.i64 0]⟩ := by kernel_rfl
@[go_sem] theorem intKd_3 : intKd Tryz.prog 3 = some IntKind.i64 := by kernel_rfl
@[go_sem] theorem uis_4 : (Tryz.prog.underlying 4).isSome = true := by kernel_rfl
@[go_sem] theorem tyi_4 : tyi Tryz.prog 4 = some ⟨false, 1, 1, [Value.bool false]⟩ := by kernel_rfl
@[go_sem] theorem und_4 : Tryz.prog.underlying 4 = some .bool := by kernel_rfl
@[go_sem] theorem uis_5 : (Tryz.prog.underlying 5).isSome = true := by kernel_rfl
@[go_sem] theorem tyi_5 : tyi Tryz.prog 5 = some ⟨false, 1, 1, [Value.int IntKind.u8 0]⟩ := by kernel_rfl
@[go_sem] theorem intKd_5 : intKd Tryz.prog 5 = some IntKind.u8 := by kernel_rfl
@[go_sem] theorem uis_6 : (Tryz.prog.underlying 6).isSome = true := by kernel_rfl
@[go_sem] theorem tyi_6 : tyi Tryz.prog 6 = some ⟨false, 1, 1, [Value.int IntKind.u8 0]⟩ := by kernel_rfl
@[go_sem] theorem intKd_6 : intKd Tryz.prog 6 = some IntKind.u8 := by kernel_rfl
@[go_sem] theorem uis_7 : (Tryz.prog.underlying 7).isSome = true := by kernel_rfl
@[go_sem] theorem tyi_7 : tyi Tryz.prog 7 = some ⟨true, 4, 24, [Value.int IntKind.i64 0, Value.int IntKind.i64 0, Value.bool false, Value.int IntKind.u8 0]⟩ := by kernel_rfl
@[go_sem] theorem fldt_7_0 : fldt Tryz.prog 7 0 = some (0, 2) := by kernel_rfl
@[go_sem] theorem fldt_7_1 : fldt Tryz.prog 7 1 = some (1, 3) := by kernel_rfl
@[go_sem] theorem fldt_7_2 : fldt Tryz.prog 7 2 = some (2, 4) := by kernel_rfl
@[go_sem] theorem fldt_7_3 : fldt Tryz.prog 7 3 = some (3, 6) := by kernel_rfl
@[go_sem] theorem places_7 : places Tryz.prog 7 = some ([(0, 1), (1, 1), (2, 1), (3, 1)]) := by kernel_rfl
@[go_sem] theorem uis_8 : (Tryz.prog.underlying 8).isSome = true := by kernel_rfl
@[go_sem] theorem tyi_8 : tyi Tryz.prog 8 = some ⟨true, 4, 24, [Value.int IntKind.i64 0, Value.int IntKind.i64 0, Value.bool false, Value.int IntKind.u8 0]⟩ := by kernel_rfl
@[go_sem] theorem fldt_8_0 : fldt Tryz.prog 8 0 = some (0, 2) := by kernel_rfl
@[go_sem] theorem fldt_8_1 : fldt Tryz.prog 8 1 = some (1, 3) := by kernel_rfl
@[go_sem] theorem fldt_8_2 : fldt Tryz.prog 8 2 = some (2, 4) := by kernel_rfl
@[go_sem] theorem fldt_8_3 : fldt Tryz.prog 8 3 = some (3, 6) := by kernel_rfl
@[go_sem] theorem places_8 : places Tryz.prog 8 = some ([(0, 1), (1, 1), (2, 1), (3, 1)]) := by kernel_rfl
@[go_sem] theorem uis_9 : (Tryz.prog.underlying 9).isSome = true := by kernel_rfl
@[go_sem] theorem tyi_9 : tyi Tryz.prog 9 = some ⟨false, 1, 16, [Value.string (ByteArray.mk #[])]⟩ := by kernel_rfl
@[go_sem] theorem isStr_9 : isStr Tryz.prog 9 = true := by kernel_rfl
@[go_sem] theorem uis_10 : (Tryz.prog.underlying 10).isSome = true := by kernel_rfl
@[go_sem] theorem tyi_10 : tyi Tryz.prog 10 = some ⟨false, 1, 16, [Value.string (ByteArray.mk #[])]⟩ := by kernel_rfl
@[go_sem] theorem isStr_10 : isStr Tryz.prog 10 = true := by kernel_rfl
@[go_sem] theorem uis_11 : (Tryz.prog.underlying 11).isSome = true := by kernel_rfl
@[go_sem] theorem tyi_11 : tyi Tryz.prog 11 = some ⟨false, 1, 16, [Value.string (ByteArray.mk #[])]⟩ := by kernel_rfl
@[go_sem] theorem isStr_11 : isStr Tryz.prog 11 = true := by kernel_rfl
@[go_sem] theorem uis_12 : (Tryz.prog.underlying 12).isSome = true := by kernel_rfl
@[go_sem] theorem tyi_12 : tyi Tryz.prog 12 = some ⟨false, 1, 8, [Value.int IntKind.u64 0]⟩ := by kernel_rfl
@[go_sem] theorem intKd_12 : intKd Tryz.prog 12 = some IntKind.u64 := by kernel_rfl
@[go_sem] theorem uis_13 : (Tryz.prog.underlying 13).isSome = true := by kernel_rfl
@[go_sem] theorem tyi_13 : tyi Tryz.prog 13 = some ⟨true, 2, 24, [Value.string (ByteArray.mk #[]), Value.int IntKind.u64 0]⟩ := by kernel_rfl
@[go_sem] theorem fldt_13_0 : fldt Tryz.prog 13 0 = some (0, 9) := by kernel_rfl
@[go_sem] theorem fldt_13_1 : fldt Tryz.prog 13 1 = some (1, 12) := by kernel_rfl
@[go_sem] theorem places_13 : places Tryz.prog 13 = some ([(0, 1), (1, 1)]) := by kernel_rfl
@[go_sem] theorem uis_14 : (Tryz.prog.underlying 14).isSome = true := by kernel_rfl
@[go_sem] theorem tyi_14 : tyi Tryz.prog 14 = some ⟨true, 2, 24, [Value.string (ByteArray.mk #[]), Value.int IntKind.u64 0]⟩ := by kernel_rfl
@[go_sem] theorem fldt_14_0 : fldt Tryz.prog 14 0 = some (0, 9) := by kernel_rfl
@[go_sem] theorem fldt_14_1 : fldt Tryz.prog 14 1 = some (1, 12) := by kernel_rfl
@[go_sem] theorem places_14 : places Tryz.prog 14 = some ([(0, 1), (1, 1)]) := by kernel_rfl
@[go_sem] theorem uis_15 : (Tryz.prog.underlying 15).isSome = true := by kernel_rfl
@[go_sem] theorem tyi_15 : tyi Tryz.prog 15 = some ⟨false, 1, 8, [Value.pointer none]⟩ := by kernel_rfl
@[go_sem] theorem uis_16 : (Tryz.prog.underlying 16).isSome = true := by kernel_rfl
@[go_sem] theorem tyi_16 : tyi Tryz.prog 16 = some ⟨false, 1, 8, [Value.pointer none]⟩ := by kernel_rfl
@[go_sem] theorem uis_17 : (Tryz.prog.underlying 17).isSome = true := by kernel_rfl
@[go_sem] theorem tyi_17 : tyi Tryz.prog 17 = some ⟨false, 1, 8, [Value.pointer none]⟩ := by kernel_rfl
@[go_sem] theorem uis_18 : (Tryz.prog.underlying 18).isSome = true := by kernel_rfl
@[go_sem] theorem tyi_18 : tyi Tryz.prog 18 = some ⟨true, 1, 8, [Value.pointer none]⟩ := by kernel_rfl
@[go_sem] theorem fldt_18_0 : fldt Tryz.prog 18 0 = some (0, 17) := by kernel_rfl
@[go_sem] theorem places_18 : places Tryz.prog 18 = some ([(0, 1)]) := by kernel_rfl
@[go_sem] theorem uis_19 : (Tryz.prog.underlying 19).isSome = true := by kernel_rfl
@[go_sem] theorem tyi_19 : tyi Tryz.prog 19 = some ⟨true, 1, 8, [Value.pointer none]⟩ := by kernel_rfl
@[go_sem] theorem fldt_19_0 : fldt Tryz.prog 19 0 = some (0, 17) := by kernel_rfl
@[go_sem] theorem places_19 : places Tryz.prog 19 = some ([(0, 1)]) := by kernel_rfl
@[go_sem] theorem uis_20 : (Tryz.prog.underlying 20).isSome = true := by kernel_rfl
@[go_sem] theorem tyi_20 : tyi Tryz.prog 20 = some ⟨false, 1, 16, [Value.nilIface]⟩ := by kernel_rfl
@[go_sem] theorem uis_21 : (Tryz.prog.underlying 21).isSome = true := by kernel_rfl
@[go_sem] theorem tyi_21 : tyi Tryz.prog 21 = some ⟨false, 1, 4, [Value.int IntKind.i32 0]⟩ := by kernel_rfl
@[go_sem] theorem intKd_21 : intKd Tryz.prog 21 = some IntKind.i32 := by kernel_rfl
@[go_sem] theorem uis_22 : (Tryz.prog.underlying 22).isSome = true := by kernel_rfl
@[go_sem] theorem tyi_22 : tyi Tryz.prog 22 = some ⟨false, 1, 24, [Value.slice none 0 0]⟩ := by kernel_rfl
@[go_sem] theorem elt_22 : elt Tryz.prog 22 = some 3 := by kernel_rfl
@[go_sem] theorem arrt_22 : arrt Tryz.prog 22 = none := by kernel_rfl
@[go_sem] theorem uis_23 : (Tryz.prog.underlying 23).isSome = true := by kernel_rfl
@[go_sem] theorem tyi_23 : tyi Tryz.prog 23 = some ⟨false, 1, 24, [Value.slice none 0 0]⟩ := by kernel_rfl
@[go_sem] theorem elt_23 : elt Tryz.prog 23 = some 83 := by kernel_rfl
@[go_sem] theorem arrt_23 : arrt Tryz.prog 23 = none := by kernel_rfl
@[go_sem] theorem uis_24 : (Tryz.prog.underlying 24).isSome = true := by kernel_rfl
@[go_sem] theorem tyi_24 : tyi Tryz.prog 24 = some ⟨false, 1, 24, [Value.slice none 0 0]⟩ := by kernel_rfl
@[go_sem] theorem elt_24 : elt Tryz.prog 24 = some 71 := by kernel_rfl
@[go_sem] theorem arrt_24 : arrt Tryz.prog 24 = none := by kernel_rfl
@[go_sem] theorem uis_25 : (Tryz.prog.underlying 25).isSome = true := by kernel_rfl
@[go_sem] theorem tyi_25 : tyi Tryz.prog 25 = some ⟨true, 2, 48, [Value.slice none 0 0, Value.slice none 0 0]⟩ := by kernel_rfl
@[go_sem] theorem fldt_25_0 : fldt Tryz.prog 25 0 = some (0, 23) := by kernel_rfl
@[go_sem] theorem fldt_25_1 : fldt Tryz.prog 25 1 = some (1, 24) := by kernel_rfl
@[go_sem] theorem places_25 : places Tryz.prog 25 = some ([(0, 1), (1, 1)]) := by kernel_rfl
@[go_sem] theorem uis_26 : (Tryz.prog.underlying 26).isSome = true := by kernel_rfl
@[go_sem] theorem tyi_26 : tyi Tryz.prog 26 = some ⟨true, 2, 48, [Value.slice none 0 0, Value.slice none 0 0]⟩ := by kernel_rfl
@[go_sem] theorem fldt_26_0 : fldt Tryz.prog 26 0 = some (0, 23) := by kernel_rfl
@[go_sem] theorem fldt_26_1 : fldt Tryz.prog 26 1 = some (1, 24) := by kernel_rfl
@[go_sem] theorem places_26 : places Tryz.prog 26 = some ([(0, 1), (1, 1)]) := by kernel_rfl
@[go_sem] theorem uis_27 : (Tryz.prog.underlying 27).isSome = true := by kernel_rfl
@[go_sem] theorem tyi_27 : tyi Tryz.prog 27 = some ⟨false, 1, 8, [Value.nilFunc]⟩ := by kernel_rfl
@[go_sem] theorem uis_28 : (Tryz.prog.underlying 28).isSome = true := by kernel_rfl
@[go_sem] theorem tyi_28 : tyi Tryz.prog 28 = some ⟨false, 1, 8, [Value.nilFunc]⟩ := by kernel_rfl
@[go_sem] theorem uis_29 : (Tryz.prog.underlying 29).isSome = true := by kernel_rfl
@[go_sem] theorem tyi_29 : tyi Tryz.prog 29 = some ⟨false, 1, 8, [Value.nilFunc]⟩ := by kernel_rfl
@[go_sem] theorem uis_30 : (Tryz.prog.underlying 30).isSome = true := by kernel_rfl
@[go_sem] theorem tyi_30 : tyi Tryz.prog 30 = some ⟨false, 1, 8, [Value.nilFunc]⟩ := by kernel_rfl
@[go_sem] theorem uis_31 : (Tryz.prog.underlying 31).isSome = true := by kernel_rfl
@[go_sem] theorem tyi_31 : tyi Tryz.prog 31 = some ⟨false, 1, 8, [Value.nilFunc]⟩ := by kernel_rfl
@[go_sem] theorem uis_32 : (Tryz.prog.underlying 32).isSome = true := by kernel_rfl
@[go_sem] theorem tyi_32 : tyi Tryz.prog 32 = some ⟨false, 1, 8, [Value.nilFunc]⟩ := by kernel_rfl
@[go_sem] theorem uis_33 : (Tryz.prog.underlying 33).isSome = true := by kernel_rfl
@[go_sem] theorem tyi_33 : tyi Tryz.prog 33 = some ⟨false, 1, 8, [Value.nilFunc]⟩ := by kernel_rfl
@[go_sem] theorem uis_34 : (Tryz.prog.underlying 34).isSome = true := by kernel_rfl
@[go_sem] theorem tyi_34 : tyi Tryz.prog 34 = some ⟨false, 1, 24, [Value.slice none 0 0]⟩ := by kernel_rfl
@[go_sem] theorem elt_34 : elt Tryz.prog 34 = some 158 := by kernel_rfl
@[go_sem] theorem arrt_34 : arrt Tryz.prog 34 = none := by kernel_rfl
@[go_sem] theorem uis_35 : (Tryz.prog.underlying 35).isSome = true := by kernel_rfl
@[go_sem] theorem tyi_35 : tyi Tryz.prog 35 = some ⟨true, 2, 48, [Value.slice none 0 0, Value.slice none 0 0]⟩ := by kernel_rfl
@[go_sem] theorem fldt_35_0 : fldt Tryz.prog 35 0 = some (0, 34) := by kernel_rfl
@[go_sem] theorem fldt_35_1 : fldt Tryz.prog 35 1 = some (1, 22) := by kernel_rfl
@[go_sem] theorem places_35 : places Tryz.prog 35 = some ([(0, 1), (1, 1)]) := by kernel_rfl
@[go_sem] theorem uis_36 : (Tryz.prog.underlying 36).isSome = true := by kernel_rfl
@[go_sem] theorem tyi_36 : tyi Tryz.prog 36 = some ⟨true, 2, 48, [Value.slice none 0 0, Value.slice none 0 0]⟩ := by kernel_rfl
@[go_sem] theorem fldt_36_0 : fldt Tryz.prog 36 0 = some (0, 34) := by kernel_rfl
@[go_sem] theorem fldt_36_1 : fldt Tryz.prog 36 1 = some (1, 22) := by kernel_rfl
@[go_sem] theorem places_36 : places Tryz.prog 36 = some ([(0, 1), (1, 1)]) := by kernel_rfl
@[go_sem] theorem uis_37 : (Tryz.prog.underlying 37).isSome = true := by kernel_rfl
@[go_sem] theorem tyi_37 : tyi Tryz.prog 37 = some ⟨false, 1, 8, [Value.nilFunc]⟩ := by kernel_rfl
@[go_sem] theorem uis_38 : (Tryz.prog.underlying 38).isSome = true := by kernel_rfl
@[go_sem] theorem tyi_38 : tyi Tryz.prog 38 = some ⟨false, 1, 24, [Value.slice none 0 0]⟩ := by kernel_rfl
@[go_sem] theorem elt_38 : elt Tryz.prog 38 = some 111 := by kernel_rfl
@[go_sem] theorem arrt_38 : arrt Tryz.prog 38 = none := by kernel_rfl
@[go_sem] theorem uis_39 : (Tryz.prog.underlying 39).isSome = true := by kernel_rfl
@[go_sem] theorem tyi_39 : tyi Tryz.prog 39 = some ⟨false, 1, 24, [Value.slice none 0 0]⟩ := by kernel_rfl
@[go_sem] theorem elt_39 : elt Tryz.prog 39 = some 116 := by kernel_rfl
@[go_sem] theorem arrt_39 : arrt Tryz.prog 39 = none := by kernel_rfl
@[go_sem] theorem uis_40 : (Tryz.prog.underlying 40).isSome = true := by kernel_rfl
@[go_sem] theorem tyi_40 : tyi Tryz.prog 40 = some ⟨false, 1, 24, [Value.slice none 0 0]⟩ := by kernel_rfl
@[go_sem] theorem elt_40 : elt Tryz.prog 40 = some 119 := by kernel_rfl
@[go_sem] theorem arrt_40 : arrt Tryz.prog 40 = none := by kernel_rfl
@[go_sem] theorem uis_41 : (Tryz.prog.underlying 41).isSome = true := by kernel_rfl
@[go_sem] theorem tyi_41 : tyi Tryz.prog 41 = some ⟨true, 6, 112, [Value.slice none 0 0, Value.slice none 0 0, Value.slice none 0 0, Value.slice none 0 0, Value.int IntKind.i64 0, Value.int IntKind.i64 0]⟩ := by kernel_rfl
@[go_sem] theorem fldt_41_0 : fldt Tryz.prog 41 0 = some (0, 22) := by kernel_rfl
@[go_sem] theorem fldt_41_1 : fldt Tryz.prog 41 1 = some (1, 38) := by kernel_rfl
@[go_sem] theorem fldt_41_2 : fldt Tryz.prog 41 2 = some (2, 39) := by kernel_rfl
@[go_sem] theorem fldt_41_3 : fldt Tryz.prog 41 3 = some (3, 40) := by kernel_rfl
@[go_sem] theorem fldt_41_4 : fldt Tryz.prog 41 4 = some (4, 3) := by kernel_rfl
@[go_sem] theorem fldt_41_5 : fldt Tryz.prog 41 5 = some (5, 3) := by kernel_rfl
@[go_sem] theorem places_41 : places Tryz.prog 41 = some ([(0, 1), (1, 1), (2, 1), (3, 1), (4, 1), (5, 1)]) := by kernel_rfl
@[go_sem] theorem uis_42 : (Tryz.prog.underlying 42).isSome = true := by kernel_rfl
@[go_sem] theorem tyi_42 : tyi Tryz.prog 42 = some ⟨true, 6, 112, [Value.slice none 0 0, Value.slice none 0 0, Value.slice none 0 0, Value.slice none 0 0, Value.int IntKind.i64 0, Value.int IntKind.i64 0]⟩ := by kernel_rfl
@[go_sem] theorem fldt_42_0 : fldt Tryz.prog 42 0 = some (0, 22) := by kernel_rfl
@[go_sem] theorem fldt_42_1 : fldt Tryz.prog 42 1 = some (1, 38) := by kernel_rfl
@[go_sem] theorem fldt_42_2 : fldt Tryz.prog 42 2 = some (2, 39) := by kernel_rfl
@[go_sem] theorem fldt_42_3 : fldt Tryz.prog 42 3 = some (3, 40) := by kernel_rfl
@[go_sem] theorem fldt_42_4 : fldt Tryz.prog 42 4 = some (4, 3) := by kernel_rfl
@[go_sem] theorem fldt_42_5 : fldt Tryz.prog 42 5 = some (5, 3) := by kernel_rfl
@[go_sem] theorem places_42 : places Tryz.prog 42 = some ([(0, 1), (1, 1), (2, 1), (3, 1), (4, 1), (5, 1)]) := by kernel_rfl
@[go_sem] theorem uis_43 : (Tryz.prog.underlying 43).isSome = true := by kernel_rfl
@[go_sem] theorem tyi_43 : tyi Tryz.prog 43 = some ⟨false, 1, 8, [Value.nilFunc]⟩ := by kernel_rfl
@[go_sem] theorem uis_44 : (Tryz.prog.underlying 44).isSome = true := by kernel_rfl
@[go_sem] theorem tyi_44 : tyi Tryz.prog 44 = some ⟨true, 2, 48, [Value.slice none 0 0, Value.slice none 0 0]⟩ := by kernel_rfl
@[go_sem] theorem fldt_44_0 : fldt Tryz.prog 44 0 = some (0, 39) := by kernel_rfl
@[go_sem] theorem fldt_44_1 : fldt Tryz.prog 44 1 = some (1, 22) := by kernel_rfl
@[go_sem] theorem places_44 : places Tryz.prog 44 = some ([(0, 1), (1, 1)]) := by kernel_rfl
@[go_sem] theorem uis_45 : (Tryz.prog.underlying 45).isSome = true := by kernel_rfl
@[go_sem] theorem tyi_45 : tyi Tryz.prog 45 = some ⟨true, 2, 48, [Value.slice none 0 0, Value.slice none 0 0]⟩ := by kernel_rfl
@[go_sem] theorem fldt_45_0 : fldt Tryz.prog 45 0 = some (0, 39) := by kernel_rfl
@[go_sem] theorem fldt_45_1 : fldt Tryz.prog 45 1 = some (1, 22) := by kernel_rfl
@[go_sem] theorem places_45 : places Tryz.prog 45 = some ([(0, 1), (1, 1)]) := by kernel_rfl
@[go_sem] theorem uis_46 : (Tryz.prog.underlying 46).isSome = true := by kernel_rfl
@[go_sem] theorem tyi_46 : tyi Tryz.prog 46 = some ⟨false, 1, 8, [Value.nilFunc]⟩ := by kernel_rfl
@[go_sem] theorem uis_47 : (Tryz.prog.underlying 47).isSome = true := by kernel_rfl
@[go_sem] theorem tyi_47 : tyi Tryz.prog 47 = some ⟨false, 1, 8, [Value.nilFunc]⟩ := by kernel_rfl
@[go_sem] theorem uis_48 : (Tryz.prog.underlying 48).isSome = true := by kernel_rfl
@[go_sem] theorem tyi_48 : tyi Tryz.prog 48 = some ⟨false, 1, 8, [Value.nilFunc]⟩ := by kernel_rfl
@[go_sem] theorem uis_49 : (Tryz.prog.underlying 49).isSome = true := by kernel_rfl
@[go_sem] theorem tyi_49 : tyi Tryz.prog 49 = some ⟨false, 1, 8, [Value.nilFunc]⟩ := by kernel_rfl
@[go_sem] theorem uis_50 : (Tryz.prog.underlying 50).isSome = true := by kernel_rfl
@[go_sem] theorem tyi_50 : tyi Tryz.prog 50 = some ⟨false, 1, 8, [Value.nilFunc]⟩ := by kernel_rfl
@[go_sem] theorem uis_51 : (Tryz.prog.underlying 51).isSome = true := by kernel_rfl
@[go_sem] theorem tyi_51 : tyi Tryz.prog 51 = some ⟨false, 1, 8, [Value.nilFunc]⟩ := by kernel_rfl
@[go_sem] theorem uis_52 : (Tryz.prog.underlying 52).isSome = true := by kernel_rfl
@[go_sem] theorem tyi_52 : tyi Tryz.prog 52 = some ⟨false, 1, 24, [Value.slice none 0 0]⟩ := by kernel_rfl
@[go_sem] theorem elt_52 : elt Tryz.prog 52 = some 174 := by kernel_rfl
@[go_sem] theorem arrt_52 : arrt Tryz.prog 52 = none := by kernel_rfl
@[go_sem] theorem uis_53 : (Tryz.prog.underlying 53).isSome = true := by kernel_rfl
@[go_sem] theorem tyi_53 : tyi Tryz.prog 53 = some ⟨false, 1, 24, [Value.slice none 0 0]⟩ := by kernel_rfl
@[go_sem] theorem elt_53 : elt Tryz.prog 53 = some 178 := by kernel_rfl
@[go_sem] theorem arrt_53 : arrt Tryz.prog 53 = none := by kernel_rfl
@[go_sem] theorem uis_54 : (Tryz.prog.underlying 54).isSome = true := by kernel_rfl
@[go_sem] theorem tyi_54 : tyi Tryz.prog 54 = some ⟨true, 6, 112, [Value.slice none 0 0, Value.slice none 0 0, Value.slice none 0 0, Value.slice none 0 0, Value.int IntKind.i64 0, Value.int IntKind.i64 0]⟩ := by kernel_rfl
@[go_sem] theorem fldt_54_0 : fldt Tryz.prog 54 0 = some (0, 22) := by kernel_rfl
@[go_sem] theorem fldt_54_1 : fldt Tryz.prog 54 1 = some (1, 52) := by kernel_rfl
@[go_sem] theorem fldt_54_2 : fldt Tryz.prog 54 2 = some (2, 34) := by kernel_rfl
@[go_sem] theorem fldt_54_3 : fldt Tryz.prog 54 3 = some (3, 53) := by kernel_rfl
@[go_sem] theorem fldt_54_4 : fldt Tryz.prog 54 4 = some (4, 3) := by kernel_rfl
@[go_sem] theorem fldt_54_5 : fldt Tryz.prog 54 5 = some (5, 3) := by kernel_rfl
@[go_sem] theorem places_54 : places Tryz.prog 54 = some ([(0, 1), (1, 1), (2, 1), (3, 1), (4, 1), (5, 1)]) := by kernel_rfl
@[go_sem] theorem uis_55 : (Tryz.prog.underlying 55).isSome = true := by kernel_rfl
@[go_sem] theorem tyi_55 : tyi Tryz.prog 55 = some ⟨true, 6, 112, [Value.slice none 0 0, Value.slice none 0 0, Value.slice none 0 0, Value.slice none 0 0, Value.int IntKind.i64 0, Value.int IntKind.i64 0]⟩ := by kernel_rfl
@[go_sem] theorem fldt_55_0 : fldt Tryz.prog 55 0 = some (0, 22) := by kernel_rfl
@[go_sem] theorem fldt_55_1 : fldt Tryz.prog 55 1 = some (1, 52) := by kernel_rfl
@[go_sem] theorem fldt_55_2 : fldt Tryz.prog 55 2 = some (2, 34) := by kernel_rfl
@[go_sem] theorem fldt_55_3 : fldt Tryz.prog 55 3 = some (3, 53) := by kernel_rfl
@[go_sem] theorem fldt_55_4 : fldt Tryz.prog 55 4 = some (4, 3) := by kernel_rfl
@[go_sem] theorem fldt_55_5 : fldt Tryz.prog 55 5 = some (5, 3) := by kernel_rfl
@[go_sem] theorem places_55 : places Tryz.prog 55 = some ([(0, 1), (1, 1), (2, 1), (3, 1), (4, 1), (5, 1)]) := by kernel_rfl
@[go_sem] theorem uis_56 : (Tryz.prog.underlying 56).isSome = true := by kernel_rfl
@[go_sem] theorem tyi_56 : tyi Tryz.prog 56 = some ⟨false, 1, 8, [Value.nilFunc]⟩ := by kernel_rfl
@[go_sem] theorem uis_57 : (Tryz.prog.underlying 57).isSome = true := by kernel_rfl
@[go_sem] theorem tyi_57 : tyi Tryz.prog 57 = some ⟨false, 1, 8, [Value.nilFunc]⟩ := by kernel_rfl
@[go_sem] theorem uis_58 : (Tryz.prog.underlying 58).isSome = true := by kernel_rfl
@[go_sem] theorem tyi_58 : tyi Tryz.prog 58 = some ⟨false, 1, 8, [Value.nilFunc]⟩ := by kernel_rfl
@[go_sem] theorem uis_59 : (Tryz.prog.underlying 59).isSome = true := by kernel_rfl
@[go_sem] theorem tyi_59 : tyi Tryz.prog 59 = some ⟨false, 1, 8, [Value.nilFunc]⟩ := by kernel_rfl
@[go_sem] theorem uis_60 : (Tryz.prog.underlying 60).isSome = true := by kernel_rfl
@[go_sem] theorem tyi_60 : tyi Tryz.prog 60 = some ⟨false, 1, 8, [Value.nilFunc]⟩ := by kernel_rfl
@[go_sem] theorem uis_61 : (Tryz.prog.underlying 61).isSome = true := by kernel_rfl
@[go_sem] theorem tyi_61 : tyi Tryz.prog 61 = some ⟨false, 1, 8, [Value.nilFunc]⟩ := by kernel_rfl
@[go_sem] theorem uis_62 : (Tryz.prog.underlying 62).isSome = true := by kernel_rfl
@[go_sem] theorem tyi_62 : tyi Tryz.prog 62 = some ⟨false, 1, 24, [Value.slice none 0 0]⟩ := by kernel_rfl
@[go_sem] theorem elt_62 : elt Tryz.prog 62 = some 5 := by kernel_rfl
@[go_sem] theorem arrt_62 : arrt Tryz.prog 62 = none := by kernel_rfl
@[go_sem] theorem uis_63 : (Tryz.prog.underlying 63).isSome = true := by kernel_rfl
@[go_sem] theorem tyi_63 : tyi Tryz.prog 63 = some ⟨false, 1, 8, [Value.nilFunc]⟩ := by kernel_rfl
@[go_sem] theorem uis_64 : (Tryz.prog.underlying 64).isSome = true := by kernel_rfl
@[go_sem] theorem tyi_64 : tyi Tryz.prog 64 = some ⟨false, 1, 0, [Value.tuple (Array.mk [Value.slice none 0 0, Value.int IntKind.i64 0, Value.string (ByteArray.mk #[]), Value.int IntKind.i64 0])]⟩ := by kernel_rfl
@[go_sem] theorem uis_65 : (Tryz.prog.underlying 65).isSome = true := by kernel_rfl
@[go_sem] theorem tyi_65 : tyi Tryz.prog 65 = some ⟨false, 1, 8, [Value.nilFunc]⟩ := by kernel_rfl
@[go_sem] theorem uis_66 : (Tryz.prog.underlying 66).isSome = true := by kernel_rfl
@[go_sem] theorem tyi_66 : tyi Tryz.prog 66 = some ⟨false, 1, 0, [Value.tuple (Array.mk [Value.slice none 0 0, Value.int IntKind.i64 0])]⟩ := by kernel_rfl
@[go_sem] theorem uis_67 : (Tryz.prog.underlying 67).isSome = true := by kernel_rfl
@[go_sem] theorem tyi_67 : tyi Tryz.prog 67 = some ⟨false, 1, 8, [Value.nilFunc]⟩ := by kernel_rfl
@[go_sem] theorem uis_68 : (Tryz.prog.underlying 68).isSome = true := by kernel_rfl
@[go_sem] theorem tyi_68 : tyi Tryz.prog 68 = some ⟨false, 1, 0, [Value.tuple (Array.mk [Value.int IntKind.i64 0, Value.int IntKind.i64 0])]⟩ := by kernel_rfl
@[go_sem] theorem uis_69 : (Tryz.prog.underlying 69).isSome = true := by kernel_rfl
@[go_sem] theorem tyi_69 : tyi Tryz.prog 69 = some ⟨false, 1, 8, [Value.nilFunc]⟩ := by kernel_rfl
@[go_sem] theorem uis_70 : (Tryz.prog.underlying 70).isSome = true := by kernel_rfl
@[go_sem] theorem tyi_70 : tyi Tryz.prog 70 = some ⟨true, 10, 88, [Value.string (ByteArray.mk #[]), Value.int IntKind.i64 0, Value.int IntKind.i64 0, Value.bool false, Value.int IntKind.i64 0, Value.int IntKind.i64 0, Value.int IntKind.i64 0, Value.int IntKind.i64 0, Value.int IntKind.i64 0, Value.int IntKind.i64 0]⟩ := by kernel_rfl
@[go_sem] theorem fldt_70_0 : fldt Tryz.prog 70 0 = some (0, 9) := by kernel_rfl
@[go_sem] theorem fldt_70_1 : fldt Tryz.prog 70 1 = some (1, 3) := by kernel_rfl
@[go_sem] theorem fldt_70_2 : fldt Tryz.prog 70 2 = some (2, 3) := by kernel_rfl
@[go_sem] theorem fldt_70_3 : fldt Tryz.prog 70 3 = some (3, 4) := by kernel_rfl
@[go_sem] theorem fldt_70_4 : fldt Tryz.prog 70 4 = some (4, 3) := by kernel_rfl
@[go_sem] theorem fldt_70_5 : fldt Tryz.prog 70 5 = some (5, 3) := by kernel_rfl
@[go_sem] theorem fldt_70_6 : fldt Tryz.prog 70 6 = some (6, 3) := by kernel_rfl
@[go_sem] theorem fldt_70_7 : fldt Tryz.prog 70 7 = some (7, 3) := by kernel_rfl
@[go_sem] theorem fldt_70_8 : fldt Tryz.prog 70 8 = some (8, 3) := by kernel_rfl
@[go_sem] theorem fldt_70_9 : fldt Tryz.prog 70 9 = some (9, 3) := by kernel_rfl
@[go_sem] theorem places_70 : places Tryz.prog 70 = some ([(0, 1), (1, 1), (2, 1), (3, 1), (4, 1), (5, 1), (6, 1), (7, 1), (8, 1), (9, 1)]) := by kernel_rfl
@[go_sem] theorem uis_71 : (Tryz.prog.underlying 71).isSome = true := by kernel_rfl
@[go_sem] theorem tyi_71 : tyi Tryz.prog 71 = some ⟨true, 10, 88, [Value.string (ByteArray.mk #[]), Value.int IntKind.i64 0, Value.int IntKind.i64 0, Value.bool false, Value.int IntKind.i64 0, Value.int IntKind.i64 0, Value.int IntKind.i64 0, Value.int IntKind.i64 0, Value.int IntKind.i64 0, Value.int IntKind.i64 0]⟩ := by kernel_rfl
@[go_sem] theorem fldt_71_0 : fldt Tryz.prog 71 0 = some (0, 9) := by kernel_rfl
@[go_sem] theorem fldt_71_1 : fldt Tryz.prog 71 1 = some (1, 3) := by kernel_rfl
@[go_sem] theorem fldt_71_2 : fldt Tryz.prog 71 2 = some (2, 3) := by kernel_rfl
@[go_sem] theorem fldt_71_3 : fldt Tryz.prog 71 3 = some (3, 4) := by kernel_rfl
@[go_sem] theorem fldt_71_4 : fldt Tryz.prog 71 4 = some (4, 3) := by kernel_rfl
@[go_sem] theorem fldt_71_5 : fldt Tryz.prog 71 5 = some (5, 3) := by kernel_rfl
@[go_sem] theorem fldt_71_6 : fldt Tryz.prog 71 6 = some (6, 3) := by kernel_rfl
@[go_sem] theorem fldt_71_7 : fldt Tryz.prog 71 7 = some (7, 3) := by kernel_rfl
@[go_sem] theorem fldt_71_8 : fldt Tryz.prog 71 8 = some (8, 3) := by kernel_rfl
@[go_sem] theorem fldt_71_9 : fldt Tryz.prog 71 9 = some (9, 3) := by kernel_rfl
@[go_sem] theorem places_71 : places Tryz.prog 71 = some ([(0, 1), (1, 1), (2, 1), (3, 1), (4, 1), (5, 1), (6, 1), (7, 1), (8, 1), (9, 1)]) := by kernel_rfl
@[go_sem] theorem uis_72 : (Tryz.prog.underlying 72).isSome = true := by kernel_rfl
@[go_sem] theorem tyi_72 : tyi Tryz.prog 72 = some ⟨false, 1, 8, [Value.nilFunc]⟩ := by kernel_rfl
@[go_sem] theorem uis_73 : (Tryz.prog.underlying 73).isSome = true := by kernel_rfl
@[go_sem] theorem tyi_73 : tyi Tryz.prog 73 = some ⟨false, 1, 0, [Value.tuple (Array.mk [Value.slice none 0 0, Value.slice none 0 0])]⟩ := by kernel_rfl
@[go_sem] theorem uis_74 : (Tryz.prog.underlying 74).isSome = true := by kernel_rfl
@[go_sem] theorem tyi_74 : tyi Tryz.prog 74 = some ⟨false, 1, 8, [Value.nilFunc]⟩ := by kernel_rfl
@[go_sem] theorem uis_75 : (Tryz.prog.underlying 75).isSome = true := by kernel_rfl
@[go_sem] theorem tyi_75 : tyi Tryz.prog 75 = some ⟨false, 1, 8, [Value.nilFunc]⟩ := by kernel_rfl
@[go_sem] theorem uis_76 : (Tryz.prog.underlying 76).isSome = true := by kernel_rfl
@[go_sem] theorem tyi_76 : tyi Tryz.prog 76 = some ⟨false, 1, 8, [Value.nilFunc]⟩ := by kernel_rfl
@[go_sem] theorem uis_77 : (Tryz.prog.underlying 77).isSome = true := by kernel_rfl
@[go_sem] theorem tyi_77 : tyi Tryz.prog 77 = some ⟨false, 1, 8, [Value.nilFunc]⟩ := by kernel_rfl
@[go_sem] theorem uis_78 : (Tryz.prog.underlying 78).isSome = true := by kernel_rfl
@[go_sem] theorem tyi_78 : tyi Tryz.prog 78 = some ⟨false, 1, 0, [Value.tuple (Array.mk [Value.string (ByteArray.mk #[]), Value.int IntKind.i64 0])]⟩ := by kernel_rfl
@[go_sem] theorem uis_79 : (Tryz.prog.underlying 79).isSome = true := by kernel_rfl
@[go_sem] theorem tyi_79 : tyi Tryz.prog 79 = some ⟨false, 1, 8, [Value.nilFunc]⟩ := by kernel_rfl
@[go_sem] theorem uis_80 : (Tryz.prog.underlying 80).isSome = true := by kernel_rfl
@[go_sem] theorem tyi_80 : tyi Tryz.prog 80 = some ⟨false, 1, 8, [Value.nilFunc]⟩ := by kernel_rfl
@[go_sem] theorem uis_81 : (Tryz.prog.underlying 81).isSome = true := by kernel_rfl
@[go_sem] theorem tyi_81 : tyi Tryz.prog 81 = some ⟨false, 1, 8, [Value.nilFunc]⟩ := by kernel_rfl
@[go_sem] theorem uis_82 : (Tryz.prog.underlying 82).isSome = true := by kernel_rfl
@[go_sem] theorem tyi_82 : tyi Tryz.prog 82 = some ⟨true, 2, 24, [Value.string (ByteArray.mk #[]), Value.int IntKind.i64 0]⟩ := by kernel_rfl
@[go_sem] theorem fldt_82_0 : fldt Tryz.prog 82 0 = some (0, 9) := by kernel_rfl
@[go_sem] theorem fldt_82_1 : fldt Tryz.prog 82 1 = some (1, 3) := by kernel_rfl
@[go_sem] theorem places_82 : places Tryz.prog 82 = some ([(0, 1), (1, 1)]) := by kernel_rfl
@[go_sem] theorem uis_83 : (Tryz.prog.underlying 83).isSome = true := by kernel_rfl
@[go_sem] theorem tyi_83 : tyi Tryz.prog 83 = some ⟨true, 2, 24, [Value.string (ByteArray.mk #[]), Value.int IntKind.i64 0]⟩ := by kernel_rfl
@[go_sem] theorem fldt_83_0 : fldt Tryz.prog 83 0 = some (0, 9) := by kernel_rfl
@[go_sem] theorem fldt_83_1 : fldt Tryz.prog 83 1 = some (1, 3) := by kernel_rfl
@[go_sem] theorem places_83 : places Tryz.prog 83 = some ([(0, 1), (1, 1)]) := by kernel_rfl
@[go_sem] theorem uis_84 : (Tryz.prog.underlying 84).isSome = true := by kernel_rfl
@[go_sem] theorem tyi_84 : tyi Tryz.prog 84 = some ⟨false, 1, 24, [Value.slice none 0 0]⟩ := by kernel_rfl
@[go_sem] theorem elt_84 : elt Tryz.prog 84 = some 9 := by kernel_rfl
@[go_sem] theorem arrt_84 : arrt Tryz.prog 84 = none := by kernel_rfl
@[go_sem] theorem uis_85 : (Tryz.prog.underlying 85).isSome = true := by kernel_rfl
@[go_sem] theorem tyi_85 : tyi Tryz.prog 85 = some ⟨false, 1, 8, [Value.nilFunc]⟩ := by kernel_rfl
@[go_sem] theorem uis_86 : (Tryz.prog.underlying 86).isSome = true := by kernel_rfl
@[go_sem] theorem tyi_86 : tyi Tryz.prog 86 = some ⟨false, 1, 0, [Value.tuple (Array.mk [Value.agg (Array.mk [Value.slice none 0 0, Value.slice none 0 0]), Value.int IntKind.i64 0, Value.slice none 0 0])]⟩ := by kernel_rfl
@[go_sem] theorem uis_87 : (Tryz.prog.underlying 87).isSome = true := by kernel_rfl
@[go_sem] theorem tyi_87 : tyi Tryz.prog 87 = some ⟨false, 1, 8, [Value.nilFunc]⟩ := by kernel_rfl
@[go_sem] theorem uis_88 : (Tryz.prog.underlying 88).isSome = true := by kernel_rfl
@[go_sem] theorem tyi_88 : tyi Tryz.prog 88 = some ⟨true, 4, 40, [Value.int IntKind.i64 0, Value.string (ByteArray.mk #[]), Value.int IntKind.i64 0, Value.int IntKind.i64 0]⟩ := by kernel_rfl
@[go_sem] theorem fldt_88_0 : fldt Tryz.prog 88 0 = some (0, 3) := by kernel_rfl
@[go_sem] theorem fldt_88_1 : fldt Tryz.prog 88 1 = some (1, 9) := by kernel_rfl
@[go_sem] theorem fldt_88_2 : fldt Tryz.prog 88 2 = some (2, 3) := by kernel_rfl
@[go_sem] theorem fldt_88_3 : fldt Tryz.prog 88 3 = some (3, 3) := by kernel_rfl
@[go_sem] theorem places_88 : places Tryz.prog 88 = some ([(0, 1), (1, 1), (2, 1), (3, 1)]) := by kernel_rfl
@[go_sem] theorem uis_89 : (Tryz.prog.underlying 89).isSome = true := by kernel_rfl
@[go_sem] theorem tyi_89 : tyi Tryz.prog 89 = some ⟨true, 4, 40, [Value.int IntKind.i64 0, Value.string (ByteArray.mk #[]), Value.int IntKind.i64 0, Value.int IntKind.i64 0]⟩ := by kernel_rfl
@[go_sem] theorem fldt_89_0 : fldt Tryz.prog 89 0 = some (0, 3) := by kernel_rfl
@[go_sem] theorem fldt_89_1 : fldt Tryz.prog 89 1 = some (1, 9) := by kernel_rfl
@[go_sem] theorem fldt_89_2 : fldt Tryz.prog 89 2 = some (2, 3) := by kernel_rfl
@[go_sem] theorem fldt_89_3 : fldt Tryz.prog 89 3 = some (3, 3) := by kernel_rfl
@[go_sem] theorem places_89 : places Tryz.prog 89 = some ([(0, 1), (1, 1), (2, 1), (3, 1)]) := by kernel_rfl
@[go_sem] theorem uis_90 : (Tryz.prog.underlying 90).isSome = true := by kernel_rfl
@[go_sem] theorem tyi_90 : tyi Tryz.prog 90 = some ⟨false, 1, 8, [Value.nilFunc]⟩ := by kernel_rfl
@[go_sem] theorem uis_91 : (Tryz.prog.underlying 91).isSome = true := by kernel_rfl
@[go_sem] theorem tyi_91 : tyi Tryz.prog 91 = some ⟨false, 1, 8, [Value.nilFunc]⟩ := by kernel_rfl
@[go_sem] theorem uis_92 : (Tryz.prog.underlying 92).isSome = true := by kernel_rfl
@[go_sem] theorem tyi_92 : tyi Tryz.prog 92 = some ⟨false, 1, 8, [Value.nilFunc]⟩ := by kernel_rfl
@[go_sem] theorem uis_93 : (Tryz.prog.underlying 93).isSome = true := by kernel_rfl
@[go_sem] theorem tyi_93 : tyi Tryz.prog 93 = some ⟨false, 1, 8, [Value.nilFunc]⟩ := by kernel_rfl
@[go_sem] theorem uis_94 : (Tryz.prog.underlying 94).isSome = true := by kernel_rfl
@[go_sem] theorem tyi_94 : tyi Tryz.prog 94 = some ⟨false, 1, 8, [Value.nilFunc]⟩ := by kernel_rfl
@[go_sem] theorem uis_95 : (Tryz.prog.underlying 95).isSome = true := by kernel_rfl
@[go_sem] theorem tyi_95 : tyi Tryz.prog 95 = some ⟨false, 1, 8, [Value.nilFunc]⟩ := by kernel_rfl
@[go_sem] theorem uis_96 : (Tryz.prog.underlying 96).isSome = true := by kernel_rfl
@[go_sem] theorem tyi_96 : tyi Tryz.prog 96 = some ⟨false, 1, 8, [Value.nilFunc]⟩ := by kernel_rfl
@[go_sem] theorem uis_97 : (Tryz.prog.underlying 97).isSome = true := by kernel_rfl
@[go_sem] theorem tyi_97 : tyi Tryz.prog 97 = some ⟨false, 1, 8, [Value.nilFunc]⟩ := by kernel_rfl
@[go_sem] theorem uis_98 : (Tryz.prog.underlying 98).isSome = true := by kernel_rfl
@[go_sem] theorem tyi_98 : tyi Tryz.prog 98 = some ⟨false, 1, 8, [Value.nilFunc]⟩ := by kernel_rfl
@[go_sem] theorem uis_99 : (Tryz.prog.underlying 99).isSome = true := by kernel_rfl
@[go_sem] theorem tyi_99 : tyi Tryz.prog 99 = some ⟨false, 1, 8, [Value.nilFunc]⟩ := by kernel_rfl
@[go_sem] theorem uis_100 : (Tryz.prog.underlying 100).isSome = true := by kernel_rfl
@[go_sem] theorem tyi_100 : tyi Tryz.prog 100 = some ⟨false, 1, 8, [Value.nilFunc]⟩ := by kernel_rfl
@[go_sem] theorem uis_101 : (Tryz.prog.underlying 101).isSome = true := by kernel_rfl
@[go_sem] theorem tyi_101 : tyi Tryz.prog 101 = some ⟨false, 1, 8, [Value.nilFunc]⟩ := by kernel_rfl
@[go_sem] theorem uis_102 : (Tryz.prog.underlying 102).isSome = true := by kernel_rfl
@[go_sem] theorem tyi_102 : tyi Tryz.prog 102 = some ⟨false, 1, 8, [Value.nilFunc]⟩ := by kernel_rfl
@[go_sem] theorem uis_103 : (Tryz.prog.underlying 103).isSome = true := by kernel_rfl
@[go_sem] theorem tyi_103 : tyi Tryz.prog 103 = some ⟨false, 1, 8, [Value.nilFunc]⟩ := by kernel_rfl
@[go_sem] theorem uis_104 : (Tryz.prog.underlying 104).isSome = true := by kernel_rfl
@[go_sem] theorem tyi_104 : tyi Tryz.prog 104 = some ⟨false, 1, 8, [Value.nilFunc]⟩ := by kernel_rfl
@[go_sem] theorem uis_105 : (Tryz.prog.underlying 105).isSome = true := by kernel_rfl
@[go_sem] theorem tyi_105 : tyi Tryz.prog 105 = some ⟨false, 1, 8, [Value.nilFunc]⟩ := by kernel_rfl
@[go_sem] theorem uis_106 : (Tryz.prog.underlying 106).isSome = true := by kernel_rfl
@[go_sem] theorem tyi_106 : tyi Tryz.prog 106 = some ⟨false, 1, 8, [Value.nilFunc]⟩ := by kernel_rfl
@[go_sem] theorem uis_107 : (Tryz.prog.underlying 107).isSome = true := by kernel_rfl
@[go_sem] theorem tyi_107 : tyi Tryz.prog 107 = some ⟨false, 1, 8, [Value.nilFunc]⟩ := by kernel_rfl
@[go_sem] theorem uis_108 : (Tryz.prog.underlying 108).isSome = true := by kernel_rfl
@[go_sem] theorem tyi_108 : tyi Tryz.prog 108 = some ⟨false, 1, 8, [Value.pointer none]⟩ := by kernel_rfl
@[go_sem] theorem uis_109 : (Tryz.prog.underlying 109).isSome = true := by kernel_rfl
@[go_sem] theorem tyi_109 : tyi Tryz.prog 109 = some ⟨false, 1, 8, [Value.pointer none]⟩ := by kernel_rfl
@[go_sem] theorem uis_110 : (Tryz.prog.underlying 110).isSome = true := by kernel_rfl
@[go_sem] theorem tyi_110 : tyi Tryz.prog 110 = some ⟨true, 18, 184, [Value.bool false, Value.int IntKind.i64 0, Value.string (ByteArray.mk #[]), Value.int IntKind.i64 0, Value.int IntKind.i64 0, Value.int IntKind.i64 0, Value.int IntKind.i64 0, Value.int IntKind.i64 0, Value.int IntKind.i64 0, Value.int IntKind.i64 0, Value.int IntKind.i64 0, Value.int IntKind.i64 0, Value.int IntKind.i64 0, Value.int IntKind.i64 0, Value.int IntKind.i64 0, Value.int IntKind.i64 0, Value.slice none 0 0, Value.slice none 0 0]⟩ := by kernel_rfl
@[go_sem] theorem fldt_110_0 : fldt Tryz.prog 110 0 = some (0, 4) := by kernel_rfl
@[go_sem] theorem fldt_110_1 : fldt Tryz.prog 110 1 = some (1, 89) := by kernel_rfl
@[go_sem] theorem fldt_110_2 : fldt Tryz.prog 110 2 = some (5, 3) := by kernel_rfl
@[go_sem] theorem fldt_110_3 : fldt Tryz.prog 110 3 = some (6, 3) := by kernel_rfl
@[go_sem] theorem fldt_110_4 : fldt Tryz.prog 110 4 = some (7, 3) := by kernel_rfl
@[go_sem] theorem fldt_110_5 : fldt Tryz.prog 110 5 = some (8, 3) := by kernel_rfl
@[go_sem] theorem fldt_110_6 : fldt Tryz.prog 110 6 = some (9, 3) := by kernel_rfl
@[go_sem] theorem fldt_110_7 : fldt Tryz.prog 110 7 = some (10, 3) := by kernel_rfl
@[go_sem] theorem fldt_110_8 : fldt Tryz.prog 110 8 = some (11, 3) := by kernel_rfl
@[go_sem] theorem fldt_110_9 : fldt Tryz.prog 110 9 = some (12, 3) := by kernel_rfl
@[go_sem] theorem fldt_110_10 : fldt Tryz.prog 110 10 = some (13, 3) := by kernel_rfl
@[go_sem] theorem fldt_110_11 : fldt Tryz.prog 110 11 = some (14, 3) := by kernel_rfl
@[go_sem] theorem fldt_110_12 : fldt Tryz.prog 110 12 = some (15, 3) := by kernel_rfl
@[go_sem] theorem fldt_110_13 : fldt Tryz.prog 110 13 = some (16, 22) := by kernel_rfl
@[go_sem] theorem fldt_110_14 : fldt Tryz.prog 110 14 = some (17, 22) := by kernel_rfl
@[go_sem] theorem places_110 : places Tryz.prog 110 = some ([(0, 1), (1, 4), (5, 1), (6, 1), (7, 1), (8, 1), (9, 1), (10, 1), (11, 1), (12, 1), (13, 1), (14, 1), (15, 1), (16, 1), (17, 1)]) := by kernel_rfl
@[go_sem] theorem uis_111 : (Tryz.prog.underlying 111).isSome = true := by kernel_rfl
@[go_sem] theorem tyi_111 : tyi Tryz.prog 111 = some ⟨true, 18, 184, [Value.bool false, Value.int IntKind.i64 0, Value.string (ByteArray.mk #[]), Value.int IntKind.i64 0, Value.int IntKind.i64 0, Value.int IntKind.i64 0, Value.int IntKind.i64 0, Value.int IntKind.i64 0, Value.int IntKind.i64 0, Value.int IntKind.i64 0, Value.int IntKind.i64 0, Value.int IntKind.i64 0, Value.int IntKind.i64 0, Value.int IntKind.i64 0, Value.int IntKind.i64 0, Value.int IntKind.i64 0, Value.slice none 0 0, Value.slice none 0 0]⟩ := by kernel_rfl
@[go_sem] theorem fldt_111_0 : fldt Tryz.prog 111 0 = some (0, 4) := by kernel_rfl
@[go_sem] theorem fldt_111_1 : fldt Tryz.prog 111 1 = some (1, 89) := by kernel_rfl
@[go_sem] theorem fldt_111_2 : fldt Tryz.prog 111 2 = some (5, 3) := by kernel_rfl
@[go_sem] theorem fldt_111_3 : fldt Tryz.prog 111 3 = some (6, 3) := by kernel_rfl
@[go_sem] theorem fldt_111_4 : fldt Tryz.prog 111 4 = some (7, 3) := by kernel_rfl
@[go_sem] theorem fldt_111_5 : fldt Tryz.prog 111 5 = some (8, 3) := by kernel_rfl
@[go_sem] theorem fldt_111_6 : fldt Tryz.prog 111 6 = some (9, 3) := by kernel_rfl
@[go_sem] theorem fldt_111_7 : fldt Tryz.prog 111 7 = some (10, 3) := by kernel_rfl
@[go_sem] theorem fldt_111_8 : fldt Tryz.prog 111 8 = some (11, 3) := by kernel_rfl
@[go_sem] theorem fldt_111_9 : fldt Tryz.prog 111 9 = some (12, 3) := by kernel_rfl
@[go_sem] theorem fldt_111_10 : fldt Tryz.prog 111 10 = some (13, 3) := by kernel_rfl
@[go_sem] theorem fldt_111_11 : fldt Tryz.prog 111 11 = some (14, 3) := by kernel_rfl
@[go_sem] theorem fldt_111_12 : fldt Tryz.prog 111 12 = some (15, 3) := by kernel_rfl
@[go_sem] theorem fldt_111_13 : fldt Tryz.prog 111 13 = some (16, 22) := by kernel_rfl
@[go_sem] theorem fldt_111_14 : fldt Tryz.prog 111 14 = some (17, 22) := by kernel_rfl
@[go_sem] theorem places_111 : places Tryz.prog 111 = some ([(0, 1), (1, 4), (5, 1), (6, 1), (7, 1), (8, 1), (9, 1), (10, 1), (11, 1), (12, 1), (13, 1), (14, 1), (15, 1), (16, 1), (17, 1)]) := by kernel_rfl
@[go_sem] theorem uis_112 : (Tryz.prog.underlying 112).isSome = true := by kernel_rfl
@[go_sem] theorem tyi_112 : tyi Tryz.prog 112 = some ⟨true, 3, 24, [Value.pointer none, Value.int IntKind.i64 0, Value.pointer none]⟩ := by kernel_rfl
@[go_sem] theorem fldt_112_0 : fldt Tryz.prog 112 0 = some (0, 108) := by kernel_rfl
@[go_sem] theorem fldt_112_1 : fldt Tryz.prog 112 1 = some (1, 3) := by kernel_rfl
@[go_sem] theorem fldt_112_2 : fldt Tryz.prog 112 2 = some (2, 109) := by kernel_rfl
@[go_sem] theorem places_112 : places Tryz.prog 112 = some ([(0, 1), (1, 1), (2, 1)]) := by kernel_rfl
@[go_sem] theorem uis_113 : (Tryz.prog.underlying 113).isSome = true := by kernel_rfl
@[go_sem] theorem tyi_113 : tyi Tryz.prog 113 = some ⟨true, 3, 24, [Value.pointer none, Value.int IntKind.i64 0, Value.pointer none]⟩ := by kernel_rfl
@[go_sem] theorem fldt_113_0 : fldt Tryz.prog 113 0 = some (0, 108) := by kernel_rfl
@[go_sem] theorem fldt_113_1 : fldt Tryz.prog 113 1 = some (1, 3) := by kernel_rfl
@[go_sem] theorem fldt_113_2 : fldt Tryz.prog 113 2 = some (2, 109) := by kernel_rfl
@[go_sem] theorem places_113 : places Tryz.prog 113 = some ([(0, 1), (1, 1), (2, 1)]) := by kernel_rfl
@[go_sem] theorem uis_114 : (Tryz.prog.underlying 114).isSome = true := by kernel_rfl
@[go_sem] theorem tyi_114 : tyi Tryz.prog 114 = some ⟨false, 1, 24, [Value.slice none 0 0]⟩ := by kernel_rfl
@[go_sem] theorem elt_114 : elt Tryz.prog 114 = some 89 := by kernel_rfl
@[go_sem] theorem arrt_114 : arrt Tryz.prog 114 = none := by kernel_rfl
@[go_sem] theorem uis_115 : (Tryz.prog.underlying 115).isSome = true := by kernel_rfl
@[go_sem] theorem tyi_115 : tyi Tryz.prog 115 = some ⟨true, 1, 24, [Value.slice none 0 0]⟩ := by kernel_rfl
@[go_sem] theorem fldt_115_0 : fldt Tryz.prog 115 0 = some (0, 114) := by kernel_rfl
@[go_sem] theorem places_115 : places Tryz.prog 115 = some ([(0, 1)]) := by kernel_rfl
@[go_sem] theorem uis_116 : (Tryz.prog.underlying 116).isSome = true := by kernel_rfl
@[go_sem] theorem tyi_116 : tyi Tryz.prog 116 = some ⟨true, 1, 24, [Value.slice none 0 0]⟩ := by kernel_rfl
@[go_sem] theorem fldt_116_0 : fldt Tryz.prog 116 0 = some (0, 114) := by kernel_rfl
@[go_sem] theorem places_116 : places Tryz.prog 116 = some ([(0, 1)]) := by kernel_rfl
@[go_sem] theorem uis_117 : (Tryz.prog.underlying 117).isSome = true := by kernel_rfl
@[go_sem] theorem tyi_117 : tyi Tryz.prog 117 = some ⟨false, 1, 8, [Value.nilFunc]⟩ := by kernel_rfl
@[go_sem] theorem uis_118 : (Tryz.prog.underlying 118).isSome = true := by kernel_rfl
@[go_sem] theorem tyi_118 : tyi Tryz.prog 118 = some ⟨true, 13, 128, [Value.int IntKind.i64 0, Value.int IntKind.i64 0, Value.int IntKind.i64 0, Value.int IntKind.i64 0, Value.int IntKind.i64 0, Value.string (ByteArray.mk #[]), Value.int IntKind.i64 0, Value.int IntKind.i64 0, Value.int IntKind.i64 0, Value.int IntKind.i64 0, Value.int IntKind.i64 0, Value.int IntKind.i64 0, Value.slice none 0 0]⟩ := by kernel_rfl
@[go_sem] theorem fldt_118_0 : fldt Tryz.prog 118 0 = some (0, 3) := by kernel_rfl
@[go_sem] theorem fldt_118_1 : fldt Tryz.prog 118 1 = some (1, 3) := by kernel_rfl
@[go_sem] theorem fldt_118_2 : fldt Tryz.prog 118 2 = some (2, 3) := by kernel_rfl
@[go_sem] theorem fldt_118_3 : fldt Tryz.prog 118 3 = some (3, 3) := by kernel_rfl
@[go_sem] theorem fldt_118_4 : fldt Tryz.prog 118 4 = some (4, 89) := by kernel_rfl
@[go_sem] theorem fldt_118_5 : fldt Tryz.prog 118 5 = some (8, 3) := by kernel_rfl
@[go_sem] theorem fldt_118_6 : fldt Tryz.prog 118 6 = some (9, 3) := by kernel_rfl
@[go_sem] theorem fldt_118_7 : fldt Tryz.prog 118 7 = some (10, 3) := by kernel_rfl
@[go_sem] theorem fldt_118_8 : fldt Tryz.prog 118 8 = some (11, 3) := by kernel_rfl
@[go_sem] theorem fldt_118_9 : fldt Tryz.prog 118 9 = some (12, 24) := by kernel_rfl
@[go_sem] theorem places_118 : places Tryz.prog 118 = some ([(0, 1), (1, 1), (2, 1), (3, 1), (4, 4), (8, 1), (9, 1), (10, 1), (11, 1), (12, 1)]) := by kernel_rfl
@[go_sem] theorem uis_119 : (Tryz.prog.underlying 119).isSome = true := by kernel_rfl
@[go_sem] theorem tyi_119 : tyi Tryz.prog 119 = some ⟨true, 13, 128, [Value.int IntKind.i64 0, Value.int IntKind.i64 0, Value.int IntKind.i64 0, Value.int IntKind.i64 0, Value.int IntKind.i64 0, Value.string (ByteArray.mk #[]), Value.int IntKind.i64 0, Value.int IntKind.i64 0, Value.int IntKind.i64 0, Value.int IntKind.i64 0, Value.int IntKind.i64 0, Value.int IntKind.i64 0, Value.slice none 0 0]⟩ := by kernel_rfl
@[go_sem] theorem fldt_119_0 : fldt Tryz.prog 119 0 = some (0, 3) := by kernel_rfl
@[go_sem] theorem fldt_119_1 : fldt Tryz.prog 119 1 = some (1, 3) := by kernel_rfl
@[go_sem] theorem fldt_119_2 : fldt Tryz.prog 119 2 = some (2, 3) := by kernel_rfl
@[go_sem] theorem fldt_119_3 : fldt Tryz.prog 119 3 = some (3, 3) := by kernel_rfl
@[go_sem] theorem fldt_119_4 : fldt Tryz.prog 119 4 = some (4, 89) := by kernel_rfl
@[go_sem] theorem fldt_119_5 : fldt Tryz.prog 119 5 = some (8, 3) := by kernel_rfl
@[go_sem] theorem fldt_119_6 : fldt Tryz.prog 119 6 = some (9, 3) := by kernel_rfl
@[go_sem] theorem fldt_119_7 : fldt Tryz.prog 119 7 = some (10, 3) := by kernel_rfl
@[go_sem] theorem fldt_119_8 : fldt Tryz.prog 119 8 = some (11, 3) := by kernel_rfl
@[go_sem] theorem fldt_119_9 : fldt Tryz.prog 119 9 = some (12, 24) := by kernel_rfl
@[go_sem] theorem places_119 : places Tryz.prog 119 = some ([(0, 1), (1, 1), (2, 1), (3, 1), (4, 4), (8, 1), (9, 1), (10, 1), (11, 1), (12, 1)]) := by kernel_rfl
@[go_sem] theorem uis_120 : (Tryz.prog.underlying 120).isSome = true := by kernel_rfl
@[go_sem] theorem tyi_120 : tyi Tryz.prog 120 = some ⟨false, 1, 8, [Value.pointer none]⟩ := by kernel_rfl
@[go_sem] theorem uis_121 : (Tryz.prog.underlying 121).isSome = true := by kernel_rfl
@[go_sem] theorem tyi_121 : tyi Tryz.prog 121 = some ⟨false, 1, 8, [Value.nilFunc]⟩ := by kernel_rfl
@[go_sem] theorem uis_122 : (Tryz.prog.underlying 122).isSome = true := by kernel_rfl
@[go_sem] theorem tyi_122 : tyi Tryz.prog 122 = some ⟨false, 1, 8, [Value.nilFunc]⟩ := by kernel_rfl
@[go_sem] theorem uis_123 : (Tryz.prog.underlying 123).isSome = true := by kernel_rfl
@[go_sem] theorem tyi_123 : tyi Tryz.prog 123 = some ⟨false, 1, 8, [Value.nilFunc]⟩ := by kernel_rfl
@[go_sem] theorem uis_124 : (Tryz.prog.underlying 124).isSome = true := by kernel_rfl
@[go_sem] theorem tyi_124 : tyi Tryz.prog 124 = some ⟨false, 1, 8, [Value.nilFunc]⟩ := by kernel_rfl
@[go_sem] theorem uis_125 : (Tryz.prog.underlying 125).isSome = true := by kernel_rfl
@[go_sem] theorem tyi_125 : tyi Tryz.prog 125 = some ⟨false, 1, 8, [Value.nilFunc]⟩ := by kernel_rfl
@[go_sem] theorem uis_126 : (Tryz.prog.underlying 126).isSome = true := by kernel_rfl
@[go_sem] theorem tyi_126 : tyi Tryz.prog 126 = some ⟨false, 1, 8, [Value.nilFunc]⟩ := by kernel_rfl
@[go_sem] theorem uis_127 : (Tryz.prog.underlying 127).isSome = true := by kernel_rfl
@[go_sem] theorem tyi_127 : tyi Tryz.prog 127 = some ⟨false, 1, 8, [Value.nilFunc]⟩ := by kernel_rfl
@[go_sem] theorem uis_128 : (Tryz.prog.underlying 128).isSome = true := by kernel_rfl
@[go_sem] theorem tyi_128 : tyi Tryz.prog 128 = some ⟨false, 1, 8, [Value.nilFunc]⟩ := by kernel_rfl
@[go_sem] theorem uis_129 : (Tryz.prog.underlying 129).isSome = true := by kernel_rfl
@[go_sem] theorem tyi_129 : tyi Tryz.prog 129 = some ⟨false, 1, 8, [Value.nilFunc]⟩ := by kernel_rfl
@[go_sem] theorem uis_130 : (Tryz.prog.underlying 130).isSome = true := by kernel_rfl
@[go_sem] theorem tyi_130 : tyi Tryz.prog 130 = some ⟨false, 1, 8, [Value.nilFunc]⟩ := by kernel_rfl
@[go_sem] theorem uis_131 : (Tryz.prog.underlying 131).isSome = true := by kernel_rfl
@[go_sem] theorem tyi_131 : tyi Tryz.prog 131 = some ⟨false, 1, 8, [Value.nilFunc]⟩ := by kernel_rfl
@[go_sem] theorem uis_132 : (Tryz.prog.underlying 132).isSome = true := by kernel_rfl
@[go_sem] theorem tyi_132 : tyi Tryz.prog 132 = some ⟨false, 1, 8, [Value.nilFunc]⟩ := by kernel_rfl
@[go_sem] theorem uis_133 : (Tryz.prog.underlying 133).isSome = true := by kernel_rfl
@[go_sem] theorem tyi_133 : tyi Tryz.prog 133 = some ⟨false, 1, 0, [Value.tuple (Array.mk [Value.slice none 0 0, Value.bool false])]⟩ := by kernel_rfl
@[go_sem] theorem uis_134 : (Tryz.prog.underlying 134).isSome = true := by kernel_rfl
@[go_sem] theorem tyi_134 : tyi Tryz.prog 134 = some ⟨false, 1, 8, [Value.nilFunc]⟩ := by kernel_rfl
@[go_sem] theorem uis_135 : (Tryz.prog.underlying 135).isSome = true := by kernel_rfl
@[go_sem] theorem tyi_135 : tyi Tryz.prog 135 = some ⟨false, 1, 8, [Value.nilFunc]⟩ := by kernel_rfl
@[go_sem] theorem uis_136 : (Tryz.prog.underlying 136).isSome = true := by kernel_rfl
@[go_sem] theorem tyi_136 : tyi Tryz.prog 136 = some ⟨false, 1, 0, [Value.tuple (Array.mk [Value.int IntKind.i64 0, Value.int IntKind.i64 0, Value.int IntKind.i64 0])]⟩ := by kernel_rfl
@[go_sem] theorem uis_137 : (Tryz.prog.underlying 137).isSome = true := by kernel_rfl
@[go_sem] theorem tyi_137 : tyi Tryz.prog 137 = some ⟨false, 1, 8, [Value.nilFunc]⟩ := by kernel_rfl
@[go_sem] theorem uis_138 : (Tryz.prog.underlying 138).isSome = true := by kernel_rfl
@[go_sem] theorem tyi_138 : tyi Tryz.prog 138 = some ⟨false, 1, 8, [Value.nilFunc]⟩ := by kernel_rfl
@[go_sem] theorem uis_139 : (Tryz.prog.underlying 139).isSome = true := by kernel_rfl
@[go_sem] theorem tyi_139 : tyi Tryz.prog 139 = some ⟨false, 1, 8, [Value.nilFunc]⟩ := by kernel_rfl
@[go_sem] theorem uis_140 : (Tryz.prog.underlying 140).isSome = true := by kernel_rfl
@[go_sem] theorem tyi_140 : tyi Tryz.prog 140 = some ⟨false, 1, 8, [Value.nilFunc]⟩ := by kernel_rfl
@[go_sem] theorem uis_141 : (Tryz.prog.underlying 141).isSome = true := by kernel_rfl
@[go_sem] theorem tyi_141 : tyi Tryz.prog 141 = some ⟨false, 1, 8, [Value.nilFunc]⟩ := by kernel_rfl
@[go_sem] theorem uis_142 : (Tryz.prog.underlying 142).isSome = true := by kernel_rfl
@[go_sem] theorem tyi_142 : tyi Tryz.prog 142 = some ⟨false, 1, 8, [Value.nilFunc]⟩ := by kernel_rfl
@[go_sem] theorem uis_143 : (Tryz.prog.underlying 143).isSome = true := by kernel_rfl
@[go_sem] theorem tyi_143 : tyi Tryz.prog 143 = some ⟨false, 1, 0, [Value.tuple (Array.mk [Value.string (ByteArray.mk #[]), Value.bool false])]⟩ := by kernel_rfl
@[go_sem] theorem uis_144 : (Tryz.prog.underlying 144).isSome = true := by kernel_rfl
@[go_sem] theorem tyi_144 : tyi Tryz.prog 144 = some ⟨false, 1, 8, [Value.nilFunc]⟩ := by kernel_rfl
@[go_sem] theorem uis_145 : (Tryz.prog.underlying 145).isSome = true := by kernel_rfl
@[go_sem] theorem tyi_145 : tyi Tryz.prog 145 = some ⟨false, 1, 8, [Value.nilFunc]⟩ := by kernel_rfl
@[go_sem] theorem uis_146 : (Tryz.prog.underlying 146).isSome = true := by kernel_rfl
@[go_sem] theorem tyi_146 : tyi Tryz.prog 146 = some ⟨false, 1, 0, [Value.tuple (Array.mk [Value.int IntKind.i64 0, Value.bool false])]⟩ := by kernel_rfl
@[go_sem] theorem uis_147 : (Tryz.prog.underlying 147).isSome = true := by kernel_rfl
@[go_sem] theorem tyi_147 : tyi Tryz.prog 147 = some ⟨false, 1, 8, [Value.nilFunc]⟩ := by kernel_rfl
@[go_sem] theorem uis_148 : (Tryz.prog.underlying 148).isSome = true := by kernel_rfl
@[go_sem] theorem tyi_148 : tyi Tryz.prog 148 = some ⟨false, 1, 8, [Value.nilFunc]⟩ := by kernel_rfl
@[go_sem] theorem uis_149 : (Tryz.prog.underlying 149).isSome = true := by kernel_rfl
@[go_sem] theorem tyi_149 : tyi Tryz.prog 149 = some ⟨false, 1, 8, [Value.nilFunc]⟩ := by kernel_rfl
@[go_sem] theorem uis_150 : (Tryz.prog.underlying 150).isSome = true := by kernel_rfl
@[go_sem] theorem tyi_150 : tyi Tryz.prog 150 = some ⟨false, 1, 8, [Value.nilFunc]⟩ := by kernel_rfl
@[go_sem] theorem uis_151 : (Tryz.prog.underlying 151).isSome = true := by kernel_rfl
@[go_sem] theorem tyi_151 : tyi Tryz.prog 151 = some ⟨false, 1, 8, [Value.nilFunc]⟩ := by kernel_rfl
@[go_sem] theorem uis_152 : (Tryz.prog.underlying 152).isSome = true := by kernel_rfl
@[go_sem] theorem tyi_152 : tyi Tryz.prog 152 = some ⟨false, 1, 8, [Value.nilFunc]⟩ := by kernel_rfl
@[go_sem] theorem uis_153 : (Tryz.prog.underlying 153).isSome = true := by kernel_rfl
@[go_sem] theorem tyi_153 : tyi Tryz.prog 153 = some ⟨false, 1, 8, [Value.nilFunc]⟩ := by kernel_rfl
@[go_sem] theorem uis_154 : (Tryz.prog.underlying 154).isSome = true := by kernel_rfl
@[go_sem] theorem tyi_154 : tyi Tryz.prog 154 = some ⟨false, 1, 8, [Value.nilFunc]⟩ := by kernel_rfl
@[go_sem] theorem uis_155 : (Tryz.prog.underlying 155).isSome = true := by kernel_rfl
@[go_sem] theorem tyi_155 : tyi Tryz.prog 155 = some ⟨false, 1, 8, [Value.nilFunc]⟩ := by kernel_rfl
@[go_sem] theorem uis_156 : (Tryz.prog.underlying 156).isSome = true := by kernel_rfl
@[go_sem] theorem tyi_156 : tyi Tryz.prog 156 = some ⟨false, 1, 24, [Value.slice none 0 0]⟩ := by kernel_rfl
@[go_sem] theorem elt_156 : elt Tryz.prog 156 = some 172 := by kernel_rfl
@[go_sem] theorem arrt_156 : arrt Tryz.prog 156 = none := by kernel_rfl
@[go_sem] theorem uis_157 : (Tryz.prog.underlying 157).isSome = true := by kernel_rfl
@[go_sem] theorem tyi_157 : tyi Tryz.prog 157 = some ⟨true, 1, 24, [Value.slice none 0 0]⟩ := by kernel_rfl
@[go_sem] theorem fldt_157_0 : fldt Tryz.prog 157 0 = some (0, 156) := by kernel_rfl
@[go_sem] theorem places_157 : places Tryz.prog 157 = some ([(0, 1)]) := by kernel_rfl
@[go_sem] theorem uis_158 : (Tryz.prog.underlying 158).isSome = true := by kernel_rfl
@[go_sem] theorem tyi_158 : tyi Tryz.prog 158 = some ⟨true, 1, 24, [Value.slice none 0 0]⟩ := by kernel_rfl
@[go_sem] theorem fldt_158_0 : fldt Tryz.prog 158 0 = some (0, 156) := by kernel_rfl
@[go_sem] theorem places_158 : places Tryz.prog 158 = some ([(0, 1)]) := by kernel_rfl
@[go_sem] theorem uis_159 : (Tryz.prog.underlying 159).isSome = true := by kernel_rfl
@[go_sem] theorem tyi_159 : tyi Tryz.prog 159 = some ⟨false, 1, 8, [Value.nilFunc]⟩ := by kernel_rfl
@[go_sem] theorem uis_160 : (Tryz.prog.underlying 160).isSome = true := by kernel_rfl
@[go_sem] theorem tyi_160 : tyi Tryz.prog 160 = some ⟨false, 1, 8, [Value.nilFunc]⟩ := by kernel_rfl
@[go_sem] theorem uis_161 : (Tryz.prog.underlying 161).isSome = true := by kernel_rfl
@[go_sem] theorem tyi_161 : tyi Tryz.prog 161 = some ⟨false, 1, 8, [Value.nilFunc]⟩ := by kernel_rfl
@[go_sem] theorem uis_162 : (Tryz.prog.underlying 162).isSome = true := by kernel_rfl
@[go_sem] theorem tyi_162 : tyi Tryz.prog 162 = some ⟨false, 1, 0, [Value.tuple (Array.mk [Value.agg (Array.mk [Value.slice none 0 0, Value.slice none 0 0, Value.slice none 0 0, Value.slice none 0 0, Value.int IntKind.i64 0, Value.int IntKind.i64 0]), Value.agg (Array.mk [Value.bool false, Value.int IntKind.i64 0, Value.string (ByteArray.mk #[]), Value.int IntKind.i64 0, Value.int IntKind.i64 0, Value.int IntKind.i64 0, Value.int IntKind.i64 0, Value.int IntKind.i64 0, Value.int IntKind.i64 0, Value.int IntKind.i64 0, Value.int IntKind.i64 0, Value.int IntKind.i64 0, Value.int IntKind.i64 0, Value.int IntKind.i64 0, Value.int IntKind.i64 0, Value.int IntKind.i64 0, Value.slice none 0 0, Value.slice none 0 0])])]⟩ := by kernel_rfl
@[go_sem] theorem uis_163 : (Tryz.prog.underlying 163).isSome = true := by kernel_rfl
@[go_sem] theorem tyi_163 : tyi Tryz.prog 163 = some ⟨false, 1, 8, [Value.nilFunc]⟩ := by kernel_rfl
@[go_sem] theorem uis_164 : (Tryz.prog.underlying 164).isSome = true := by kernel_rfl
@[go_sem] theorem tyi_164 : tyi Tryz.prog 164 = some ⟨false, 1, 8, [Value.nilFunc]⟩ := by kernel_rfl
@[go_sem] theorem uis_165 : (Tryz.prog.underlying 165).isSome = true := by kernel_rfl
@[go_sem] theorem tyi_165 : tyi Tryz.prog 165 = some ⟨false, 1, 8, [Value.nilFunc]⟩ := by kernel_rfl
@[go_sem] theorem uis_166 : (Tryz.prog.underlying 166).isSome = true := by kernel_rfl
@[go_sem] theorem tyi_166 : tyi Tryz.prog 166 = some ⟨false, 1, 8, [Value.nilFunc]⟩ := by kernel_rfl
@[go_sem] theorem uis_167 : (Tryz.prog.underlying 167).isSome = true := by kernel_rfl
@[go_sem] theorem tyi_167 : tyi Tryz.prog 167 = some ⟨false, 1, 8, [Value.nilFunc]⟩ := by kernel_rfl
@[go_sem] theorem uis_168 : (Tryz.prog.underlying 168).isSome = true := by kernel_rfl
@[go_sem] theorem tyi_168 : tyi Tryz.prog 168 = some ⟨false, 1, 8, [Value.nilFunc]⟩ := by kernel_rfl
@[go_sem] theorem uis_169 : (Tryz.prog.underlying 169).isSome = true := by kernel_rfl
@[go_sem] theorem tyi_169 : tyi Tryz.prog 169 = some ⟨false, 1, 8, [Value.nilFunc]⟩ := by kernel_rfl
@[go_sem] theorem uis_170 : (Tryz.prog.underlying 170).isSome = true := by kernel_rfl
@[go_sem] theorem tyi_170 : tyi Tryz.prog 170 = some ⟨false, 1, 8, [Value.nilFunc]⟩ := by kernel_rfl
@[go_sem] theorem uis_171 : (Tryz.prog.underlying 171).isSome = true := by kernel_rfl
@[go_sem] theorem tyi_171 : tyi Tryz.prog 171 = some ⟨false, 1, 8, [Value.nilFunc]⟩ := by kernel_rfl
@[go_sem] theorem uis_172 : (Tryz.prog.underlying 172).isSome = true := by kernel_rfl
@[go_sem] theorem tyi_172 : tyi Tryz.prog 172 = some ⟨true, 4, 40, [Value.int IntKind.i64 0, Value.string (ByteArray.mk #[]), Value.int IntKind.i64 0, Value.int IntKind.i64 0]⟩ := by kernel_rfl
@[go_sem] theorem fldt_172_0 : fldt Tryz.prog 172 0 = some (0, 3) := by kernel_rfl
@[go_sem] theorem fldt_172_1 : fldt Tryz.prog 172 1 = some (1, 9) := by kernel_rfl
@[go_sem] theorem fldt_172_2 : fldt Tryz.prog 172 2 = some (2, 3) := by kernel_rfl
@[go_sem] theorem fldt_172_3 : fldt Tryz.prog 172 3 = some (3, 3) := by kernel_rfl
@[go_sem] theorem places_172 : places Tryz.prog 172 = some ([(0, 1), (1, 1), (2, 1), (3, 1)]) := by kernel_rfl
@[go_sem] theorem uis_173 : (Tryz.prog.underlying 173).isSome = true := by kernel_rfl
@[go_sem] theorem tyi_173 : tyi Tryz.prog 173 = some ⟨true, 18, 184, [Value.bool false, Value.int IntKind.i64 0, Value.string (ByteArray.mk #[]), Value.int IntKind.i64 0, Value.int IntKind.i64 0, Value.int IntKind.i64 0, Value.int IntKind.i64 0, Value.int IntKind.i64 0, Value.int IntKind.i64 0, Value.int IntKind.i64 0, Value.int IntKind.i64 0, Value.int IntKind.i64 0, Value.int IntKind.i64 0, Value.int IntKind.i64 0, Value.int IntKind.i64 0, Value.int IntKind.i64 0, Value.slice none 0 0, Value.slice none 0 0]⟩ := by kernel_rfl
@[go_sem] theorem fldt_173_0 : fldt Tryz.prog 173 0 = some (0, 4) := by kernel_rfl
@[go_sem] theorem fldt_173_1 : fldt Tryz.prog 173 1 = some (1, 172) := by kernel_rfl
@[go_sem] theorem fldt_173_2 : fldt Tryz.prog 173 2 = some (5, 3) := by kernel_rfl
@[go_sem] theorem fldt_173_3 : fldt Tryz.prog 173 3 = some (6, 3) := by kernel_rfl
@[go_sem] theorem fldt_173_4 : fldt Tryz.prog 173 4 = some (7, 3) := by kernel_rfl
@[go_sem] theorem fldt_173_5 : fldt Tryz.prog 173 5 = some (8, 3) := by kernel_rfl
@[go_sem] theorem fldt_173_6 : fldt Tryz.prog 173 6 = some (9, 3) := by kernel_rfl
@[go_sem] theorem fldt_173_7 : fldt Tryz.prog 173 7 = some (10, 3) := by kernel_rfl
@[go_sem] theorem fldt_173_8 : fldt Tryz.prog 173 8 = some (11, 3) := by kernel_rfl
@[go_sem] theorem fldt_173_9 : fldt Tryz.prog 173 9 = some (12, 3) := by kernel_rfl
@[go_sem] theorem fldt_173_10 : fldt Tryz.prog 173 10 = some (13, 3) := by kernel_rfl
@[go_sem] theorem fldt_173_11 : fldt Tryz.prog 173 11 = some (14, 3) := by kernel_rfl
@[go_sem] theorem fldt_173_12 : fldt Tryz.prog 173 12 = some (15, 3) := by kernel_rfl
@[go_sem] theorem fldt_173_13 : fldt Tryz.prog 173 13 = some (16, 22) := by kernel_rfl
@[go_sem] theorem fldt_173_14 : fldt Tryz.prog 173 14 = some (17, 22) := by kernel_rfl
@[go_sem] theorem places_173 : places Tryz.prog 173 = some ([(0, 1), (1, 4), (5, 1), (6, 1), (7, 1), (8, 1), (9, 1), (10, 1), (11, 1), (12, 1), (13, 1), (14, 1), (15, 1), (16, 1), (17, 1)]) := by kernel_rfl
@[go_sem] theorem uis_174 : (Tryz.prog.underlying 174).isSome = true := by kernel_rfl
@[go_sem] theorem tyi_174 : tyi Tryz.prog 174 = some ⟨true, 18, 184, [Value.bool false, Value.int IntKind.i64 0, Value.string (ByteArray.mk #[]), Value.int IntKind.i64 0, Value.int IntKind.i64 0, Value.int IntKind.i64 0, Value.int IntKind.i64 0, Value.int IntKind.i64 0, Value.int IntKind.i64 0, Value.int IntKind.i64 0, Value.int IntKind.i64 0, Value.int IntKind.i64 0, Value.int IntKind.i64 0, Value.int IntKind.i64 0, Value.int IntKind.i64 0, Value.int IntKind.i64 0, Value.slice none 0 0, Value.slice none 0 0]⟩ := by kernel_rfl
@[go_sem] theorem fldt_174_0 : fldt Tryz.prog 174 0 = some (0, 4) := by kernel_rfl
@[go_sem] theorem fldt_174_1 : fldt Tryz.prog 174 1 = some (1, 172) := by kernel_rfl
@[go_sem] theorem fldt_174_2 : fldt Tryz.prog 174 2 = some (5, 3) := by kernel_rfl
@[go_sem] theorem fldt_174_3 : fldt Tryz.prog 174 3 = some (6, 3) := by kernel_rfl
@[go_sem] theorem fldt_174_4 : fldt Tryz.prog 174 4 = some (7, 3) := by kernel_rfl
@[go_sem] theorem fldt_174_5 : fldt Tryz.prog 174 5 = some (8, 3) := by kernel_rfl
@[go_sem] theorem fldt_174_6 : fldt Tryz.prog 174 6 = some (9, 3) := by kernel_rfl
@[go_sem] theorem fldt_174_7 : fldt Tryz.prog 174 7 = some (10, 3) := by kernel_rfl
@[go_sem] theorem fldt_174_8 : fldt Tryz.prog 174 8 = some (11, 3) := by kernel_rfl
@[go_sem] theorem fldt_174_9 : fldt Tryz.prog 174 9 = some (12, 3) := by kernel_rfl
@[go_sem] theorem fldt_174_10 : fldt Tryz.prog 174 10 = some (13, 3) := by kernel_rfl
@[go_sem] theorem fldt_174_11 : fldt Tryz.prog 174 11 = some (14, 3) := by kernel_rfl
@[go_sem] theorem fldt_174_12 : fldt Tryz.prog 174 12 = some (15, 3) := by kernel_rfl
@[go_sem] theorem fldt_174_13 : fldt Tryz.prog 174 13 = some (16, 22) := by kernel_rfl
@[go_sem] theorem fldt_174_14 : fldt Tryz.prog 174 14 = some (17, 22) := by kernel_rfl
@[go_sem] theorem places_174 : places Tryz.prog 174 = some ([(0, 1), (1, 4), (5, 1), (6, 1), (7, 1), (8, 1), (9, 1), (10, 1), (11, 1), (12, 1), (13, 1), (14, 1), (15, 1), (16, 1), (17, 1)]) := by kernel_rfl
@[go_sem] theorem uis_175 : (Tryz.prog.underlying 175).isSome = true := by kernel_rfl
@[go_sem] theorem tyi_175 : tyi Tryz.prog 175 = some ⟨false, 1, 8, [Value.nilFunc]⟩ := by kernel_rfl
@[go_sem] theorem uis_176 : (Tryz.prog.underlying 176).isSome = true := by kernel_rfl
@[go_sem] theorem tyi_176 : tyi Tryz.prog 176 = some ⟨false, 1, 24, [Value.slice none 0 0]⟩ := by kernel_rfl
@[go_sem] theorem elt_176 : elt Tryz.prog 176 = some 233 := by kernel_rfl
@[go_sem] theorem arrt_176 : arrt Tryz.prog 176 = none := by kernel_rfl
@[go_sem] theorem uis_177 : (Tryz.prog.underlying 177).isSome = true := by kernel_rfl
@[go_sem] theorem tyi_177 : tyi Tryz.prog 177 = some ⟨true, 13, 128, [Value.int IntKind.i64 0, Value.int IntKind.i64 0, Value.int IntKind.i64 0, Value.int IntKind.i64 0, Value.int IntKind.i64 0, Value.string (ByteArray.mk #[]), Value.int IntKind.i64 0, Value.int IntKind.i64 0, Value.int IntKind.i64 0, Value.int IntKind.i64 0, Value.int IntKind.i64 0, Value.int IntKind.i64 0, Value.slice none 0 0]⟩ := by kernel_rfl
@[go_sem] theorem fldt_177_0 : fldt Tryz.prog 177 0 = some (0, 3) := by kernel_rfl
@[go_sem] theorem fldt_177_1 : fldt Tryz.prog 177 1 = some (1, 3) := by kernel_rfl
@[go_sem] theorem fldt_177_2 : fldt Tryz.prog 177 2 = some (2, 3) := by kernel_rfl
@[go_sem] theorem fldt_177_3 : fldt Tryz.prog 177 3 = some (3, 3) := by kernel_rfl
@[go_sem] theorem fldt_177_4 : fldt Tryz.prog 177 4 = some (4, 172) := by kernel_rfl
@[go_sem] theorem fldt_177_5 : fldt Tryz.prog 177 5 = some (8, 3) := by kernel_rfl
@[go_sem] theorem fldt_177_6 : fldt Tryz.prog 177 6 = some (9, 3) := by kernel_rfl
@[go_sem] theorem fldt_177_7 : fldt Tryz.prog 177 7 = some (10, 3) := by kernel_rfl
@[go_sem] theorem fldt_177_8 : fldt Tryz.prog 177 8 = some (11, 3) := by kernel_rfl
@[go_sem] theorem fldt_177_9 : fldt Tryz.prog 177 9 = some (12, 176) := by kernel_rfl
@[go_sem] theorem places_177 : places Tryz.prog 177 = some ([(0, 1), (1, 1), (2, 1), (3, 1), (4, 4), (8, 1), (9, 1), (10, 1), (11, 1), (12, 1)]) := by kernel_rfl
@[go_sem] theorem uis_178 : (Tryz.prog.underlying 178).isSome = true := by kernel_rfl
@[go_sem] theorem tyi_178 : tyi Tryz.prog 178 = some ⟨true, 13, 128, [Value.int IntKind.i64 0, Value.int IntKind.i64 0, Value.int IntKind.i64 0, Value.int IntKind.i64 0, Value.int IntKind.i64 0, Value.string (ByteArray.mk #[]), Value.int IntKind.i64 0, Value.int IntKind.i64 0, Value.int IntKind.i64 0, Value.int IntKind.i64 0, Value.int IntKind.i64 0, Value.int IntKind.i64 0, Value.slice none 0 0]⟩ := by kernel_rfl
@[go_sem] theorem fldt_178_0 : fldt Tryz.prog 178 0 = some (0, 3) := by kernel_rfl
@[go_sem] theorem fldt_178_1 : fldt Tryz.prog 178 1 = some (1, 3) := by kernel_rfl
@[go_sem] theorem fldt_178_2 : fldt Tryz.prog 178 2 = some (2, 3) := by kernel_rfl
@[go_sem] theorem fldt_178_3 : fldt Tryz.prog 178 3 = some (3, 3) := by kernel_rfl
@[go_sem] theorem fldt_178_4 : fldt Tryz.prog 178 4 = some (4, 172) := by kernel_rfl
@[go_sem] theorem fldt_178_5 : fldt Tryz.prog 178 5 = some (8, 3) := by kernel_rfl
@[go_sem] theorem fldt_178_6 : fldt Tryz.prog 178 6 = some (9, 3) := by kernel_rfl
@[go_sem] theorem fldt_178_7 : fldt Tryz.prog 178 7 = some (10, 3) := by kernel_rfl
@[go_sem] theorem fldt_178_8 : fldt Tryz.prog 178 8 = some (11, 3) := by kernel_rfl
@[go_sem] theorem fldt_178_9 : fldt Tryz.prog 178 9 = some (12, 176) := by kernel_rfl
@[go_sem] theorem places_178 : places Tryz.prog 178 = some ([(0, 1), (1, 1), (2, 1), (3, 1), (4, 4), (8, 1), (9, 1), (10, 1), (11, 1), (12, 1)]) := by kernel_rfl
@[go_sem] theorem uis_179 : (Tryz.prog.underlying 179).isSome = true := by kernel_rfl
@[go_sem] theorem tyi_179 : tyi Tryz.prog 179 = some ⟨false, 1, 8, [Value.nilFunc]⟩ := by kernel_rfl
@[go_sem] theorem uis_180 : (Tryz.prog.underlying 180).isSome = true := by kernel_rfl
@[go_sem] theorem tyi_180 : tyi Tryz.prog 180 = some ⟨false, 1, 8, [Value.nilFunc]⟩ := by kernel_rfl
@[go_sem] theorem uis_181 : (Tryz.prog.underlying 181).isSome = true := by kernel_rfl
@[go_sem] theorem tyi_181 : tyi Tryz.prog 181 = some ⟨false, 1, 8, [Value.nilFunc]⟩ := by kernel_rfl
@[go_sem] theorem uis_182 : (Tryz.prog.underlying 182).isSome = true := by kernel_rfl
@[go_sem] theorem tyi_182 : tyi Tryz.prog 182 = some ⟨false, 1, 8, [Value.nilFunc]⟩ := by kernel_rfl
@[go_sem] theorem uis_183 : (Tryz.prog.underlying 183).isSome = true := by kernel_rfl
@[go_sem] theorem tyi_183 : tyi Tryz.prog 183 = some ⟨false, 1, 8, [Value.nilFunc]⟩ := by kernel_rfl
@[go_sem] theorem uis_184 : (Tryz.prog.underlying 184).isSome = true := by kernel_rfl
@[go_sem] theorem tyi_184 : tyi Tryz.prog 184 = some ⟨false, 1, 8, [Value.nilFunc]⟩ := by kernel_rfl
@[go_sem] theorem uis_185 : (Tryz.prog.underlying 185).isSome = true := by kernel_rfl
@[go_sem] theorem tyi_185 : tyi Tryz.prog 185 = some ⟨false, 1, 8, [Value.nilFunc]⟩ := by kernel_rfl
@[go_sem] theorem uis_186 : (Tryz.prog.underlying 186).isSome = true := by kernel_rfl
@[go_sem] theorem tyi_186 : tyi Tryz.prog 186 = some ⟨false, 1, 8, [Value.nilFunc]⟩ := by kernel_rfl
@[go_sem] theorem uis_187 : (Tryz.prog.underlying 187).isSome = true := by kernel_rfl
@[go_sem] theorem tyi_187 : tyi Tryz.prog 187 = some ⟨false, 1, 8, [Value.nilFunc]⟩ := by kernel_rfl
@[go_sem] theorem uis_188 : (Tryz.prog.underlying 188).isSome = true := by kernel_rfl
@[go_sem] theorem tyi_188 : tyi Tryz.prog 188 = some ⟨false, 1, 8, [Value.nilFunc]⟩ := by kernel_rfl
@[go_sem] theorem uis_189 : (Tryz.prog.underlying 189).isSome = true := by kernel_rfl
@[go_sem] theorem tyi_189 : tyi Tryz.prog 189 = some ⟨true, 3, 40, [Value.slice none 0 0, Value.int IntKind.i64 0, Value.int IntKind.i64 0]⟩ := by kernel_rfl
@[go_sem] theorem fldt_189_0 : fldt Tryz.prog 189 0 = some (0, 62) := by kernel_rfl
@[go_sem] theorem fldt_189_1 : fldt Tryz.prog 189 1 = some (1, 3) := by kernel_rfl
@[go_sem] theorem fldt_189_2 : fldt Tryz.prog 189 2 = some (2, 3) := by kernel_rfl
@[go_sem] theorem places_189 : places Tryz.prog 189 = some ([(0, 1), (1, 1), (2, 1)]) := by kernel_rfl
@[go_sem] theorem uis_190 : (Tryz.prog.underlying 190).isSome = true := by kernel_rfl
@[go_sem] theorem tyi_190 : tyi Tryz.prog 190 = some ⟨true, 3, 40, [Value.slice none 0 0, Value.int IntKind.i64 0, Value.int IntKind.i64 0]⟩ := by kernel_rfl
@[go_sem] theorem fldt_190_0 : fldt Tryz.prog 190 0 = some (0, 62) := by kernel_rfl
@[go_sem] theorem fldt_190_1 : fldt Tryz.prog 190 1 = some (1, 3) := by kernel_rfl
@[go_sem] theorem fldt_190_2 : fldt Tryz.prog 190 2 = some (2, 3) := by kernel_rfl
@[go_sem] theorem places_190 : places Tryz.prog 190 = some ([(0, 1), (1, 1), (2, 1)]) := by kernel_rfl
@[go_sem] theorem uis_191 : (Tryz.prog.underlying 191).isSome = true := by kernel_rfl
@[go_sem] theorem tyi_191 : tyi Tryz.prog 191 = some ⟨false, 1, 8, [Value.nilFunc]⟩ := by kernel_rfl
@[go_sem] theorem uis_192 : (Tryz.prog.underlying 192).isSome = true := by kernel_rfl
@[go_sem] theorem tyi_192 : tyi Tryz.prog 192 = some ⟨false, 1, 8, [Value.nilFunc]⟩ := by kernel_rfl
@[go_sem] theorem uis_193 : (Tryz.prog.underlying 193).isSome = true := by kernel_rfl
@[go_sem] theorem tyi_193 : tyi Tryz.prog 193 = some ⟨false, 1, 8, [Value.nilFunc]⟩ := by kernel_rfl
@[go_sem] theorem uis_194 : (Tryz.prog.underlying 194).isSome = true := by kernel_rfl
@[go_sem] theorem tyi_194 : tyi Tryz.prog 194 = some ⟨false, 1, 8, [Value.nilFunc]⟩ := by kernel_rfl
@[go_sem] theorem uis_195 : (Tryz.prog.underlying 195).isSome = true := by kernel_rfl
@[go_sem] theorem tyi_195 : tyi Tryz.prog 195 = some ⟨false, 1, 8, [Value.nilFunc]⟩ := by kernel_rfl
@[go_sem] theorem uis_196 : (Tryz.prog.underlying 196).isSome = true := by kernel_rfl
@[go_sem] theorem tyi_196 : tyi Tryz.prog 196 = some ⟨false, 1, 8, [Value.nilFunc]⟩ := by kernel_rfl
@[go_sem] theorem uis_197 : (Tryz.prog.underlying 197).isSome = true := by kernel_rfl
@[go_sem] theorem tyi_197 : tyi Tryz.prog 197 = some ⟨false, 1, 8, [Value.nilFunc]⟩ := by kernel_rfl
@[go_sem] theorem uis_198 : (Tryz.prog.underlying 198).isSome = true := by kernel_rfl
@[go_sem] theorem tyi_198 : tyi Tryz.prog 198 = some ⟨false, 1, 8, [Value.nilFunc]⟩ := by kernel_rfl
@[go_sem] theorem uis_199 : (Tryz.prog.underlying 199).isSome = true := by kernel_rfl
@[go_sem] theorem tyi_199 : tyi Tryz.prog 199 = some ⟨false, 1, 8, [Value.nilFunc]⟩ := by kernel_rfl
@[go_sem] theorem uis_200 : (Tryz.prog.underlying 200).isSome = true := by kernel_rfl
@[go_sem] theorem tyi_200 : tyi Tryz.prog 200 = some ⟨false, 1, 8, [Value.nilFunc]⟩ := by kernel_rfl
@[go_sem] theorem uis_201 : (Tryz.prog.underlying 201).isSome = true := by kernel_rfl
@[go_sem] theorem tyi_201 : tyi Tryz.prog 201 = some ⟨false, 1, 8, [Value.nilFunc]⟩ := by kernel_rfl
@[go_sem] theorem uis_202 : (Tryz.prog.underlying 202).isSome = true := by kernel_rfl
@[go_sem] theorem tyi_202 : tyi Tryz.prog 202 = some ⟨false, 1, 8, [Value.nilFunc]⟩ := by kernel_rfl
@[go_sem] theorem uis_203 : (Tryz.prog.underlying 203).isSome = true := by kernel_rfl
@[go_sem] theorem tyi_203 : tyi Tryz.prog 203 = some ⟨false, 1, 8, [Value.nilFunc]⟩ := by kernel_rfl
@[go_sem] theorem uis_204 : (Tryz.prog.underlying 204).isSome = true := by kernel_rfl
@[go_sem] theorem tyi_204 : tyi Tryz.prog 204 = some ⟨false, 1, 8, [Value.nilFunc]⟩ := by kernel_rfl
@[go_sem] theorem uis_205 : (Tryz.prog.underlying 205).isSome = true := by kernel_rfl
@[go_sem] theorem tyi_205 : tyi Tryz.prog 205 = some ⟨false, 1, 8, [Value.nilFunc]⟩ := by kernel_rfl
@[go_sem] theorem uis_206 : (Tryz.prog.underlying 206).isSome = true := by kernel_rfl
@[go_sem] theorem tyi_206 : tyi Tryz.prog 206 = some ⟨false, 1, 8, [Value.nilFunc]⟩ := by kernel_rfl
@[go_sem] theorem uis_207 : (Tryz.prog.underlying 207).isSome = true := by kernel_rfl
@[go_sem] theorem tyi_207 : tyi Tryz.prog 207 = some ⟨false, 1, 8, [Value.nilFunc]⟩ := by kernel_rfl
@[go_sem] theorem uis_208 : (Tryz.prog.underlying 208).isSome = true := by kernel_rfl
@[go_sem] theorem tyi_208 : tyi Tryz.prog 208 = some ⟨false, 1, 8, [Value.nilFunc]⟩ := by kernel_rfl
@[go_sem] theorem uis_209 : (Tryz.prog.underlying 209).isSome = true := by kernel_rfl
@[go_sem] theorem tyi_209 : tyi Tryz.prog 209 = some ⟨false, 1, 8, [Value.nilFunc]⟩ := by kernel_rfl
@[go_sem] theorem uis_210 : (Tryz.prog.underlying 210).isSome = true := by kernel_rfl
@[go_sem] theorem tyi_210 : tyi Tryz.prog 210 = some ⟨false, 1, 0, [Value.tuple (Array.mk [Value.agg (Array.mk [Value.slice none 0 0, Value.slice none 0 0, Value.slice none 0 0, Value.slice none 0 0, Value.int IntKind.i64 0, Value.int IntKind.i64 0]), Value.int IntKind.i64 0])]⟩ := by kernel_rfl
@[go_sem] theorem uis_211 : (Tryz.prog.underlying 211).isSome = true := by kernel_rfl
@[go_sem] theorem tyi_211 : tyi Tryz.prog 211 = some ⟨false, 1, 8, [Value.nilFunc]⟩ := by kernel_rfl
@[go_sem] theorem uis_212 : (Tryz.prog.underlying 212).isSome = true := by kernel_rfl
@[go_sem] theorem tyi_212 : tyi Tryz.prog 212 = some ⟨false, 1, 8, [Value.nilFunc]⟩ := by kernel_rfl
@[go_sem] theorem uis_213 : (Tryz.prog.underlying 213).isSome = true := by kernel_rfl
@[go_sem] theorem tyi_213 : tyi Tryz.prog 213 = some ⟨false, 1, 8, [Value.nilFunc]⟩ := by kernel_rfl
@[go_sem] theorem uis_214 : (Tryz.prog.underlying 214).isSome = true := by kernel_rfl
@[go_sem] theorem tyi_214 : tyi Tryz.prog 214 = some ⟨false, 1, 8, [Value.nilFunc]⟩ := by kernel_rfl
@[go_sem] theorem uis_215 : (Tryz.prog.underlying 215).isSome = true := by kernel_rfl
@[go_sem] theorem tyi_215 : tyi Tryz.prog 215 = some ⟨false, 1, 8, [Value.nilFunc]⟩ := by kernel_rfl
@[go_sem] theorem uis_216 : (Tryz.prog.underlying 216).isSome = true := by kernel_rfl
@[go_sem] theorem tyi_216 : tyi Tryz.prog 216 = some ⟨false, 1, 8, [Value.nilFunc]⟩ := by kernel_rfl
@[go_sem] theorem uis_217 : (Tryz.prog.underlying 217).isSome = true := by kernel_rfl
@[go_sem] theorem tyi_217 : tyi Tryz.prog 217 = some ⟨false, 1, 8, [Value.nilFunc]⟩ := by kernel_rfl
@[go_sem] theorem uis_218 : (Tryz.prog.underlying 218).isSome = true := by kernel_rfl
@[go_sem] theorem tyi_218 : tyi Tryz.prog 218 = some ⟨false, 1, 8, [Value.nilFunc]⟩ := by kernel_rfl
@[go_sem] theorem uis_219 : (Tryz.prog.underlying 219).isSome = true := by kernel_rfl
@[go_sem] theorem tyi_219 : tyi Tryz.prog 219 = some ⟨false, 1, 8, [Value.nilFunc]⟩ := by kernel_rfl
@[go_sem] theorem uis_220 : (Tryz.prog.underlying 220).isSome = true := by kernel_rfl
@[go_sem] theorem tyi_220 : tyi Tryz.prog 220 = some ⟨false, 1, 8, [Value.nilFunc]⟩ := by kernel_rfl
@[go_sem] theorem uis_221 : (Tryz.prog.underlying 221).isSome = true := by kernel_rfl
@[go_sem] theorem tyi_221 : tyi Tryz.prog 221 = some ⟨false, 1, 8, [Value.nilFunc]⟩ := by kernel_rfl
@[go_sem] theorem uis_222 : (Tryz.prog.underlying 222).isSome = true := by kernel_rfl
@[go_sem] theorem tyi_222 : tyi Tryz.prog 222 = some ⟨false, 1, 8, [Value.nilFunc]⟩ := by kernel_rfl
@[go_sem] theorem uis_223 : (Tryz.prog.underlying 223).isSome = true := by kernel_rfl
@[go_sem] theorem tyi_223 : tyi Tryz.prog 223 = some ⟨false, 1, 8, [Value.nilFunc]⟩ := by kernel_rfl
@[go_sem] theorem uis_224 : (Tryz.prog.underlying 224).isSome = true := by kernel_rfl
@[go_sem] theorem tyi_224 : tyi Tryz.prog 224 = some ⟨false, 1, 8, [Value.nilFunc]⟩ := by kernel_rfl
@[go_sem] theorem uis_225 : (Tryz.prog.underlying 225).isSome = true := by kernel_rfl
@[go_sem] theorem tyi_225 : tyi Tryz.prog 225 = some ⟨false, 1, 8, [Value.nilFunc]⟩ := by kernel_rfl
@[go_sem] theorem uis_226 : (Tryz.prog.underlying 226).isSome = true := by kernel_rfl
@[go_sem] theorem tyi_226 : tyi Tryz.prog 226 = some ⟨false, 1, 8, [Value.nilFunc]⟩ := by kernel_rfl
@[go_sem] theorem uis_227 : (Tryz.prog.underlying 227).isSome = true := by kernel_rfl
@[go_sem] theorem tyi_227 : tyi Tryz.prog 227 = some ⟨false, 1, 8, [Value.int IntKind.u64 0]⟩ := by kernel_rfl
@[go_sem] theorem intKd_227 : intKd Tryz.prog 227 = some IntKind.u64 := by kernel_rfl
@[go_sem] theorem uis_228 : (Tryz.prog.underlying 228).isSome = true := by kernel_rfl
@[go_sem] theorem tyi_228 : tyi Tryz.prog 228 = some ⟨false, 1, 8, [Value.nilFunc]⟩ := by kernel_rfl
@[go_sem] theorem uis_229 : (Tryz.prog.underlying 229).isSome = true := by kernel_rfl
@[go_sem] theorem tyi_229 : tyi Tryz.prog 229 = some ⟨false, 1, 8, [Value.nilFunc]⟩ := by kernel_rfl
@[go_sem] theorem uis_230 : (Tryz.prog.underlying 230).isSome = true := by kernel_rfl
@[go_sem] theorem tyi_230 : tyi Tryz.prog 230 = some ⟨false, 1, 8, [Value.nilFunc]⟩ := by kernel_rfl
@[go_sem] theorem uis_231 : (Tryz.prog.underlying 231).isSome = true := by kernel_rfl
@[go_sem] theorem tyi_231 : tyi Tryz.prog 231 = some ⟨false, 1, 8, [Value.nilFunc]⟩ := by kernel_rfl
@[go_sem] theorem uis_232 : (Tryz.prog.underlying 232).isSome = true := by kernel_rfl
@[go_sem] theorem tyi_232 : tyi Tryz.prog 232 = some ⟨false, 1, 8, [Value.nilFunc]⟩ := by kernel_rfl
@[go_sem] theorem uis_233 : (Tryz.prog.underlying 233).isSome = true := by kernel_rfl
@[go_sem] theorem tyi_233 : tyi Tryz.prog 233 = some ⟨true, 10, 88, [Value.string (ByteArray.mk #[]), Value.int IntKind.i64 0, Value.int IntKind.i64 0, Value.bool false, Value.int IntKind.i64 0, Value.int IntKind.i64 0, Value.int IntKind.i64 0, Value.int IntKind.i64 0, Value.int IntKind.i64 0, Value.int IntKind.i64 0]⟩ := by kernel_rfl
@[go_sem] theorem fldt_233_0 : fldt Tryz.prog 233 0 = some (0, 9) := by kernel_rfl
@[go_sem] theorem fldt_233_1 : fldt Tryz.prog 233 1 = some (1, 3) := by kernel_rfl
@[go_sem] theorem fldt_233_2 : fldt Tryz.prog 233 2 = some (2, 3) := by kernel_rfl
@[go_sem] theorem fldt_233_3 : fldt Tryz.prog 233 3 = some (3, 4) := by kernel_rfl
@[go_sem] theorem fldt_233_4 : fldt Tryz.prog 233 4 = some (4, 3) := by kernel_rfl
@[go_sem] theorem fldt_233_5 : fldt Tryz.prog 233 5 = some (5, 3) := by kernel_rfl
@[go_sem] theorem fldt_233_6 : fldt Tryz.prog 233 6 = some (6, 3) := by kernel_rfl
@[go_sem] theorem fldt_233_7 : fldt Tryz.prog 233 7 = some (7, 3) := by kernel_rfl
@[go_sem] theorem fldt_233_8 : fldt Tryz.prog 233 8 = some (8, 3) := by kernel_rfl
@[go_sem] theorem fldt_233_9 : fldt Tryz.prog 233 9 = some (9, 3) := by kernel_rfl
@[go_sem] theorem places_233 : places Tryz.prog 233 = some ([(0, 1), (1, 1), (2, 1), (3, 1), (4, 1), (5, 1), (6, 1), (7, 1), (8, 1), (9, 1)]) := by kernel_rfl
@[go_sem] theorem uis_234 : (Tryz.prog.underlying 234).isSome = true := by kernel_rfl
@[go_sem] theorem tyi_234 : tyi Tryz.prog 234 = some ⟨false, 1, 8, [Value.nilFunc]⟩ := by kernel_rfl
@[go_sem] theorem uis_235 : (Tryz.prog.underlying 235).isSome = true := by kernel_rfl
@[go_sem] theorem tyi_235 : tyi Tryz.prog 235 = some ⟨false, 1, 4, [Value.int IntKind.u32 0]⟩ := by kernel_rfl
@[go_sem] theorem intKd_235 : intKd Tryz.prog 235 = some IntKind.u32 := by kernel_rfl
@[go_sem] theorem uis_236 : (Tryz.prog.underlying 236).isSome = true := by kernel_rfl
@[go_sem] theorem tyi_236 : tyi Tryz.prog 236 = some ⟨false, 1, 8, [Value.nilFunc]⟩ := by kernel_rfl
@[go_sem] theorem uis_237 : (Tryz.prog.underlying 237).isSome = true := by kernel_rfl
@[go_sem] theorem tyi_237 : tyi Tryz.prog 237 = some ⟨false, 1, 0, [Value.tuple (Array.mk [Value.slice none 0 0, Value.int IntKind.i64 0, Value.int IntKind.i64 0])]⟩ := by kernel_rfl
@[go_sem] theorem uis_238 : (Tryz.prog.underlying 238).isSome = true := by kernel_rfl
@[go_sem] theorem tyi_238 : tyi Tryz.prog 238 = some ⟨false, 1, 8, [Value.nilFunc]⟩ := by kernel_rfl
@[go_sem] theorem uis_239 : (Tryz.prog.underlying 239).isSome = true := by kernel_rfl
@[go_sem] theorem tyi_239 : tyi Tryz.prog 239 = some ⟨false, 1, 8, [Value.nilFunc]⟩ := by kernel_rfl
@[go_sem] theorem uis_240 : (Tryz.prog.underlying 240).isSome = true := by kernel_rfl
@[go_sem] theorem tyi_240 : tyi Tryz.prog 240 = some ⟨false, 1, 8, [Value.nilFunc]⟩ := by kernel_rfl
@[go_sem] theorem uis_241 : (Tryz.prog.underlying 241).isSome = true := by kernel_rfl
@[go_sem] theorem tyi_241 : tyi Tryz.prog 241 = some ⟨false, 1, 8, [Value.nilFunc]⟩ := by kernel_rfl
@[go_sem] theorem uis_242 : (Tryz.prog.underlying 242).isSome = true := by kernel_rfl
@[go_sem] theorem tyi_242 : tyi Tryz.prog 242 = some ⟨true, 4, 40, [Value.pointer none, Value.pointer none, Value.pointer none, Value.string (ByteArray.mk #[])]⟩ := by kernel_rfl
@[go_sem] theorem fldt_242_0 : fldt Tryz.prog 242 0 = some (0, 17) := by kernel_rfl
@[go_sem] theorem fldt_242_1 : fldt Tryz.prog 242 1 = some (1, 17) := by kernel_rfl
@[go_sem] theorem fldt_242_2 : fldt Tryz.prog 242 2 = some (2, 17) := by kernel_rfl
@[go_sem] theorem fldt_242_3 : fldt Tryz.prog 242 3 = some (3, 9) := by kernel_rfl
@[go_sem] theorem places_242 : places Tryz.prog 242 = some ([(0, 1), (1, 1), (2, 1), (3, 1)]) := by kernel_rfl
@[go_sem] theorem uis_243 : (Tryz.prog.underlying 243).isSome = true := by kernel_rfl
@[go_sem] theorem tyi_243 : tyi Tryz.prog 243 = some ⟨true, 4, 40, [Value.pointer none, Value.pointer none, Value.pointer none, Value.string (ByteArray.mk #[])]⟩ := by kernel_rfl
@[go_sem] theorem fldt_243_0 : fldt Tryz.prog 243 0 = some (0, 17) := by kernel_rfl
@[go_sem] theorem fldt_243_1 : fldt Tryz.prog 243 1 = some (1, 17) := by kernel_rfl
@[go_sem] theorem fldt_243_2 : fldt Tryz.prog 243 2 = some (2, 17) := by kernel_rfl
@[go_sem] theorem fldt_243_3 : fldt Tryz.prog 243 3 = some (3, 9) := by kernel_rfl
@[go_sem] theorem places_243 : places Tryz.prog 243 = some ([(0, 1), (1, 1), (2, 1), (3, 1)]) := by kernel_rfl
@[go_sem] theorem uis_244 : (Tryz.prog.underlying 244).isSome = true := by kernel_rfl
@[go_sem] theorem tyi_244 : tyi Tryz.prog 244 = some ⟨true, 0, 0, []⟩ := by kernel_rfl
@[go_sem] theorem arrt_244 : arrt Tryz.prog 244 = some (0, 16) := by kernel_rfl
@[go_sem] theorem places_244 : places Tryz.prog 244 = none := by kernel_rfl
@[go_sem] theorem uis_245 : (Tryz.prog.underlying 245).isSome = true := by kernel_rfl
@[go_sem] theorem tyi_245 : tyi Tryz.prog 245 = some ⟨true, 0, 0, []⟩ := by kernel_rfl
@[go_sem] theorem fldt_245_0 : fldt Tryz.prog 245 0 = some (0, 244) := by kernel_rfl
@[go_sem] theorem places_245 : places Tryz.prog 245 = some ([(0, 0)]) := by kernel_rfl
@[go_sem] theorem uis_246 : (Tryz.prog.underlying 246).isSome = true := by kernel_rfl
@[go_sem] theorem tyi_246 : tyi Tryz.prog 246 = some ⟨true, 0, 0, []⟩ := by kernel_rfl
@[go_sem] theorem fldt_246_0 : fldt Tryz.prog 246 0 = some (0, 244) := by kernel_rfl
@[go_sem] theorem places_246 : places Tryz.prog 246 = some ([(0, 0)]) := by kernel_rfl
@[go_sem] theorem uis_247 : (Tryz.prog.underlying 247).isSome = true := by kernel_rfl
@[go_sem] theorem tyi_247 : tyi Tryz.prog 247 = some ⟨false, 1, 8, [Value.nilFunc]⟩ := by kernel_rfl
@[go_sem] theorem uis_248 : (Tryz.prog.underlying 248).isSome = true := by kernel_rfl
@[go_sem] theorem tyi_248 : tyi Tryz.prog 248 = some ⟨false, 1, 1, [Value.int IntKind.u8 0]⟩ := by kernel_rfl
@[go_sem] theorem intKd_248 : intKd Tryz.prog 248 = some IntKind.u8 := by kernel_rfl
@[go_sem] theorem uis_249 : (Tryz.prog.underlying 249).isSome = true := by kernel_rfl
@[go_sem] theorem tyi_249 : tyi Tryz.prog 249 = some ⟨false, 1, 1, [Value.int IntKind.u8 0]⟩ := by kernel_rfl
@[go_sem] theorem intKd_249 : intKd Tryz.prog 249 = some IntKind.u8 := by kernel_rfl
@[go_sem] theorem uis_250 : (Tryz.prog.underlying 250).isSome = true := by kernel_rfl
@[go_sem] theorem tyi_250 : tyi Tryz.prog 250 = some ⟨false, 1, 8, [Value.nilFunc]⟩ := by kernel_rfl
@[go_sem] theorem uis_251 : (Tryz.prog.underlying 251).isSome = true := by kernel_rfl
@[go_sem] theorem tyi_251 : tyi Tryz.prog 251 = some ⟨false, 1, 8, [Value.pointer none]⟩ := by kernel_rfl
@[go_sem] theorem uis_252 : (Tryz.prog.underlying 252).isSome = true := by kernel_rfl
@[go_sem] theorem tyi_252 : tyi Tryz.prog 252 = some ⟨false, 1, 4, [Value.int IntKind.i32 0]⟩ := by kernel_rfl
@[go_sem] theorem intKd_252 : intKd Tryz.prog 252 = some IntKind.i32 := by kernel_rfl
@[go_sem] theorem uis_253 : (Tryz.prog.underlying 253).isSome = true := by kernel_rfl
@[go_sem] theorem tyi_253 : tyi Tryz.prog 253 = some ⟨false, 1, 4, [Value.int IntKind.i32 0]⟩ := by kernel_rfl
@[go_sem] theorem intKd_253 : intKd Tryz.prog 253 = some IntKind.i32 := by kernel_rfl
@[go_sem] theorem uis_254 : (Tryz.prog.underlying 254).isSome = true := by kernel_rfl
@[go_sem] theorem tyi_254 : tyi Tryz.prog 254 = some ⟨true, 11, 48, [Value.int IntKind.u64 0, Value.int IntKind.u64 0, Value.int IntKind.u32 0, Value.int IntKind.u8 0, Value.int IntKind.u8 0, Value.int IntKind.u8 0, Value.int IntKind.u8 0, Value.nilFunc, Value.pointer none, Value.int IntKind.i32 0, Value.int IntKind.i32 0]⟩ := by kernel_rfl
@[go_sem] theorem fldt_254_0 : fldt Tryz.prog 254 0 = some (0, 12) := by kernel_rfl
@[go_sem] theorem fldt_254_1 : fldt Tryz.prog 254 1 = some (1, 12) := by kernel_rfl
@[go_sem] theorem fldt_254_2 : fldt Tryz.prog 254 2 = some (2, 235) := by kernel_rfl
@[go_sem] theorem fldt_254_3 : fldt Tryz.prog 254 3 = some (3, 248) := by kernel_rfl
@[go_sem] theorem fldt_254_4 : fldt Tryz.prog 254 4 = some (4, 5) := by kernel_rfl
@[go_sem] theorem fldt_254_5 : fldt Tryz.prog 254 5 = some (5, 5) := by kernel_rfl
@[go_sem] theorem fldt_254_6 : fldt Tryz.prog 254 6 = some (6, 249) := by kernel_rfl
@[go_sem] theorem fldt_254_7 : fldt Tryz.prog 254 7 = some (7, 250) := by kernel_rfl
@[go_sem] theorem fldt_254_8 : fldt Tryz.prog 254 8 = some (8, 251) := by kernel_rfl
@[go_sem] theorem fldt_254_9 : fldt Tryz.prog 254 9 = some (9, 252) := by kernel_rfl
@[go_sem] theorem fldt_254_10 : fldt Tryz.prog 254 10 = some (10, 253) := by kernel_rfl
@[go_sem] theorem places_254 : places Tryz.prog 254 = some ([(0, 1), (1, 1), (2, 1), (3, 1), (4, 1), (5, 1), (6, 1), (7, 1), (8, 1), (9, 1), (10, 1)]) := by kernel_rfl
@[go_sem] theorem uis_255 : (Tryz.prog.underlying 255).isSome = true := by kernel_rfl
@[go_sem] theorem tyi_255 : tyi Tryz.prog 255 = some ⟨true, 11, 48, [Value.int IntKind.u64 0, Value.int IntKind.u64 0, Value.int IntKind.u32 0, Value.int IntKind.u8 0, Value.int IntKind.u8 0, Value.int IntKind.u8 0, Value.int IntKind.u8 0, Value.nilFunc, Value.pointer none, Value.int IntKind.i32 0, Value.int IntKind.i32 0]⟩ := by kernel_rfl
@[go_sem] theorem fldt_255_0 : fldt Tryz.prog 255 0 = some (0, 12) := by kernel_rfl
@[go_sem] theorem fldt_255_1 : fldt Tryz.prog 255 1 = some (1, 12) := by kernel_rfl
@[go_sem] theorem fldt_255_2 : fldt Tryz.prog 255 2 = some (2, 235) := by kernel_rfl
@[go_sem] theorem fldt_255_3 : fldt Tryz.prog 255 3 = some (3, 248) := by kernel_rfl
@[go_sem] theorem fldt_255_4 : fldt Tryz.prog 255 4 = some (4, 5) := by kernel_rfl
@[go_sem] theorem fldt_255_5 : fldt Tryz.prog 255 5 = some (5, 5) := by kernel_rfl
@[go_sem] theorem fldt_255_6 : fldt Tryz.prog 255 6 = some (6, 249) := by kernel_rfl
@[go_sem] theorem fldt_255_7 : fldt Tryz.prog 255 7 = some (7, 250) := by kernel_rfl
@[go_sem] theorem fldt_255_8 : fldt Tryz.prog 255 8 = some (8, 251) := by kernel_rfl
@[go_sem] theorem fldt_255_9 : fldt Tryz.prog 255 9 = some (9, 252) := by kernel_rfl
@[go_sem] theorem fldt_255_10 : fldt Tryz.prog 255 10 = some (10, 253) := by kernel_rfl
@[go_sem] theorem places_255 : places Tryz.prog 255 = some ([(0, 1), (1, 1), (2, 1), (3, 1), (4, 1), (5, 1), (6, 1), (7, 1), (8, 1), (9, 1), (10, 1)]) := by kernel_rfl
@[go_sem] theorem uis_256 : (Tryz.prog.underlying 256).isSome = true := by kernel_rfl
@[go_sem] theorem tyi_256 : tyi Tryz.prog 256 = some ⟨false, 1, 8, [Value.pointer none]⟩ := by kernel_rfl
@[go_sem] theorem res_0 : Tryz.f0.results.toList = ([] : List ResultVar) := by kernel_rfl
@[go_sem] theorem res_1 : Tryz.f1.results.toList = ([] : List ResultVar) := by kernel_rfl
@[go_sem] theorem res_2 : Tryz.f2.results.toList = ([] : List ResultVar) := by kernel_rfl
@[go_sem] theorem res_3 : Tryz.f3.results.toList = ([ResultVar.tmp 2] : List ResultVar) := by kernel_rfl
@[go_sem] theorem res_4 : Tryz.f4.results.toList = ([ResultVar.tmp 2] : List ResultVar) := by kernel_rfl
@[go_sem] theorem res_5 : Tryz.f5.results.toList = ([ResultVar.tmp 4] : List ResultVar) := by kernel_rfl
@[go_sem] theorem res_6 : Tryz.f6.results.toList = ([ResultVar.tmp 4] : List ResultVar) := by kernel_rfl
@[go_sem] theorem res_7 : Tryz.f7.results.toList = ([ResultVar.tmp 2] : List ResultVar) := by kernel_rfl
@[go_sem] theorem res_8 : Tryz.f8.results.toList = ([ResultVar.tmp 2] : List ResultVar) := by kernel_rfl
@[go_sem] theorem res_9 : Tryz.f9.results.toList = ([ResultVar.cell 2 26] : List ResultVar) := by kernel_rfl
@[go_sem] theorem res_10 : Tryz.f10.results.toList = ([ResultVar.tmp 2] : List ResultVar) := by kernel_rfl
@[go_sem] theorem res_11 : Tryz.f11.results.toList = ([ResultVar.cell 2 26] : List ResultVar) := by kernel_rfl
@[go_sem] theorem res_12 : Tryz.f12.results.toList = ([ResultVar.tmp 4] : List ResultVar) := by kernel_rfl
@[go_sem] theorem res_13 : Tryz.f13.results.toList = ([ResultVar.tmp 4] : List ResultVar) := by kernel_rfl
@[go_sem] theorem res_14 : Tryz.f14.results.toList = ([ResultVar.tmp 4] : List ResultVar) := by kernel_rfl
@[go_sem] theorem res_15 : Tryz.f15.results.toList = ([ResultVar.tmp 4] : List ResultVar) := by kernel_rfl
@[go_sem] theorem res_16 : Tryz.f16.results.toList = ([ResultVar.tmp 4] : List ResultVar) := by kernel_rfl
@[go_sem] theorem res_17 : Tryz.f17.results.toList = ([ResultVar.tmp 4] : List ResultVar) := by kernel_rfl
@[go_sem] theorem res_18 : Tryz.f18.results.toList = ([ResultVar.cell 2 42] : List ResultVar) := by kernel_rfl
@[go_sem] theorem res_19 : Tryz.f19.results.toList = ([ResultVar.cell 2 45] : List ResultVar) := by kernel_rfl
@[go_sem] theorem res_20 : Tryz.f20.results.toList = ([ResultVar.cell 2 42] : List ResultVar) := by kernel_rfl
@[go_sem] theorem res_21 : Tryz.f21.results.toList = ([ResultVar.tmp 4] : List ResultVar) := by kernel_rfl
@[go_sem] theorem res_22 : Tryz.f22.results.toList = ([ResultVar.tmp 4] : List ResultVar) := by kernel_rfl
@[go_sem] theorem res_23 : Tryz.f23.results.toList = ([ResultVar.tmp 4] : List ResultVar) := by kernel_rfl
@[go_sem] theorem res_24 : Tryz.f24.results.toList = ([ResultVar.tmp 4] : List ResultVar) := by kernel_rfl
@[go_sem] theorem res_25 : Tryz.f25.results.toList = ([ResultVar.tmp 4] : List ResultVar) := by kernel_rfl
@[go_sem] theorem res_26 : Tryz.f26.results.toList = ([ResultVar.tmp 4] : List ResultVar) := by kernel_rfl
@[go_sem] theorem res_27 : Tryz.f27.results.toList = ([ResultVar.cell 4 42] : List ResultVar) := by kernel_rfl
@[go_sem] theorem res_28 : Tryz.f28.results.toList = ([ResultVar.cell 2 42] : List ResultVar) := by kernel_rfl
@[go_sem] theorem res_29 : Tryz.f29.results.toList = ([ResultVar.cell 4 42] : List ResultVar) := by kernel_rfl
@[go_sem] theorem res_30 : Tryz.f30.results.toList = ([ResultVar.cell 4 42] : List ResultVar) := by kernel_rfl
@[go_sem] theorem res_31 : Tryz.f31.results.toList = ([ResultVar.cell 4 42] : List ResultVar) := by kernel_rfl
@[go_sem] theorem res_32 : Tryz.f32.results.toList = ([ResultVar.cell 2 42] : List ResultVar) := by kernel_rfl
@[go_sem] theorem res_33 : Tryz.f33.results.toList = ([ResultVar.cell 2 42] : List ResultVar) := by kernel_rfl
@[go_sem] theorem res_34 : Tryz.f34.results.toList = ([ResultVar.tmp 2] : List ResultVar) := by kernel_rfl
@[go_sem] theorem res_35 : Tryz.f35.results.toList = ([ResultVar.tmp 2, ResultVar.tmp 3, ResultVar.tmp 4, ResultVar.tmp 5] : List ResultVar) := by kernel_rfl
@[go_sem] theorem res_36 : Tryz.f36.results.toList = ([ResultVar.tmp 8, ResultVar.tmp 9] : List ResultVar) := by kernel_rfl
@[go_sem] theorem res_37 : Tryz.f37.results.toList = ([ResultVar.tmp 8, ResultVar.tmp 9] : List ResultVar) := by kernel_rfl
@[go_sem] theorem res_38 : Tryz.f38.results.toList = ([ResultVar.tmp 4] : List ResultVar) := by kernel_rfl
@[go_sem] theorem res_39 : Tryz.f39.results.toList = ([ResultVar.tmp 4, ResultVar.tmp 5] : List ResultVar) := by kernel_rfl
@[go_sem] theorem res_40 : Tryz.f40.results.toList = ([ResultVar.cell 6 71] : List ResultVar) := by kernel_rfl
@[go_sem] theorem res_41 : Tryz.f41.results.toList = ([ResultVar.cell 6 71] : List ResultVar) := by kernel_rfl
@[go_sem] theorem res_42 : Tryz.f42.results.toList = ([ResultVar.tmp 2, ResultVar.tmp 3] : List ResultVar) := by kernel_rfl
@[go_sem] theorem res_43 : Tryz.f43.results.toList = ([ResultVar.tmp 4] : List ResultVar) := by kernel_rfl
@[go_sem] theorem res_44 : Tryz.f44.results.toList = ([ResultVar.tmp 4] : List ResultVar) := by kernel_rfl
@[go_sem] theorem res_45 : Tryz.f45.results.toList = ([ResultVar.tmp 4] : List ResultVar) := by kernel_rfl
@[go_sem] theorem res_46 : Tryz.f46.results.toList = ([ResultVar.tmp 2] : List ResultVar) := by kernel_rfl
@[go_sem] theorem res_47 : Tryz.f47.results.toList = ([ResultVar.tmp 2, ResultVar.tmp 3] : List ResultVar) := by kernel_rfl
@[go_sem] theorem res_48 : Tryz.f48.results.toList = ([ResultVar.tmp 2] : List ResultVar) := by kernel_rfl
@[go_sem] theorem res_49 : Tryz.f49.results.toList = ([ResultVar.tmp 4] : List ResultVar) := by kernel_rfl
@[go_sem] theorem res_50 : Tryz.f50.results.toList = ([ResultVar.tmp 2] : List ResultVar) := by kernel_rfl
@[go_sem] theorem res_51 : Tryz.f51.results.toList = ([ResultVar.tmp 2] : List ResultVar) := by kernel_rfl
@[go_sem] theorem res_52 : Tryz.f52.results.toList = ([ResultVar.tmp 4, ResultVar.tmp 5] : List ResultVar) := by kernel_rfl
@[go_sem] theorem res_53 : Tryz.f53.results.toList = ([ResultVar.cell 4 26, ResultVar.tmp 5, ResultVar.tmp 6] : List ResultVar) := by kernel_rfl
@[go_sem] theorem res_54 : Tryz.f54.results.toList = ([ResultVar.tmp 4] : List ResultVar) := by kernel_rfl
@[go_sem] theorem res_55 : Tryz.f55.results.toList = ([ResultVar.tmp 4] : List ResultVar) := by kernel_rfl
@[go_sem] theorem res_56 : Tryz.f56.results.toList = ([ResultVar.tmp 4] : List ResultVar) := by kernel_rfl
@[go_sem] theorem res_57 : Tryz.f57.results.toList = ([ResultVar.tmp 4] : List ResultVar) := by kernel_rfl
@[go_sem] theorem res_58 : Tryz.f58.results.toList = ([ResultVar.tmp 4] : List ResultVar) := by kernel_rfl
@[go_sem] theorem res_59 : Tryz.f59.results.toList = ([ResultVar.tmp 4] : List ResultVar) := by kernel_rfl
@[go_sem] theorem res_60 : Tryz.f60.results.toList = ([ResultVar.tmp 4] : List ResultVar) := by kernel_rfl
@[go_sem] theorem res_61 : Tryz.f61.results.toList = ([ResultVar.tmp 4] : List ResultVar) := by kernel_rfl
@[go_sem] theorem res_62 : Tryz.f62.results.toList = ([ResultVar.tmp 4] : List ResultVar) := by kernel_rfl
@[go_sem] theorem res_63 : Tryz.f63.results.toList = ([ResultVar.cell 2 42] : List ResultVar) := by kernel_rfl
@[go_sem] theorem res_64 : Tryz.f64.results.toList = ([ResultVar.tmp 6] : List ResultVar) := by kernel_rfl
@[go_sem] theorem res_65 : Tryz.f65.results.toList = ([ResultVar.cell 4 42] : List ResultVar) := by kernel_rfl
@[go_sem] theorem res_66 : Tryz.f66.results.toList = ([ResultVar.cell 2 42] : List ResultVar) := by kernel_rfl
@[go_sem] theorem res_67 : Tryz.f67.results.toList = ([ResultVar.tmp 2] : List ResultVar) := by kernel_rfl
@[go_sem] theorem res_68 : Tryz.f68.results.toList = ([ResultVar.cell 2 42] : List ResultVar) := by kernel_rfl
@[go_sem] theorem res_69 : Tryz.f69.results.toList = ([ResultVar.tmp 4] : List ResultVar) := by kernel_rfl
@[go_sem] theorem res_70 : Tryz.f70.results.toList = ([ResultVar.tmp 4] : List ResultVar) := by kernel_rfl
@[go_sem] theorem res_71 : Tryz.f71.results.toList = ([ResultVar.tmp 4] : List ResultVar) := by kernel_rfl
@[go_sem] theorem res_72 : Tryz.f72.results.toList = ([ResultVar.tmp 4] : List ResultVar) := by kernel_rfl
@[go_sem] theorem res_73 : Tryz.f73.results.toList = ([ResultVar.tmp 4] : List ResultVar) := by kernel_rfl
@[go_sem] theorem res_74 : Tryz.f74.results.toList = ([ResultVar.tmp 4] : List ResultVar) := by kernel_rfl
@[go_sem] theorem res_75 : Tryz.f75.results.toList = ([ResultVar.tmp 4] : List ResultVar) := by kernel_rfl
@[go_sem] theorem res_76 : Tryz.f76.results.toList = ([ResultVar.tmp 4] : List ResultVar) := by kernel_rfl
@[go_sem] theorem res_77 : Tryz.f77.results.toList = ([ResultVar.tmp 4] : List ResultVar) := by kernel_rfl
@[go_sem] theorem res_78 : Tryz.f78.results.toList = ([ResultVar.tmp 4] : List ResultVar) := by kernel_rfl
@[go_sem] theorem res_79 : Tryz.f79.results.toList = ([ResultVar.tmp 4] : List ResultVar) := by kernel_rfl
@[go_sem] theorem res_80 : Tryz.f80.results.toList = ([ResultVar.tmp 4] : List ResultVar) := by kernel_rfl
@[go_sem] theorem res_81 : Tryz.f81.results.toList = ([ResultVar.tmp 2] : List ResultVar) := by kernel_rfl
@[go_sem] theorem res_82 : Tryz.f82.results.toList = ([ResultVar.tmp 2] : List ResultVar) := by kernel_rfl
@[go_sem] theorem res_83 : Tryz.f83.results.toList = ([ResultVar.tmp 2] : List ResultVar) := by kernel_rfl
@[go_sem] theorem res_84 : Tryz.f84.results.toList = ([ResultVar.cell 2 42] : List ResultVar) := by kernel_rfl
@[go_sem] theorem res_85 : Tryz.f85.results.toList = ([ResultVar.tmp 2] : List ResultVar) := by kernel_rfl
@[go_sem] theorem res_86 : Tryz.f86.results.toList = ([ResultVar.tmp 6] : List ResultVar) := by kernel_rfl
@[go_sem] theorem res_87 : Tryz.f87.results.toList = ([] : List ResultVar) := by kernel_rfl
@[go_sem] theorem res_88 : Tryz.f88.results.toList = ([] : List ResultVar) := by kernel_rfl
@[go_sem] theorem res_89 : Tryz.f89.results.toList = ([ResultVar.tmp 2] : List ResultVar) := by kernel_rfl
@[go_sem] theorem res_90 : Tryz.f90.results.toList = ([ResultVar.tmp 2] : List ResultVar) := by kernel_rfl
@[go_sem] theorem res_91 : Tryz.f91.results.toList = ([ResultVar.tmp 2] : List ResultVar) := by kernel_rfl
@[go_sem] theorem res_92 : Tryz.f92.results.toList = ([ResultVar.tmp 2] : List ResultVar) := by kernel_rfl
@[go_sem] theorem res_93 : Tryz.f93.results.toList = ([ResultVar.tmp 2] : List ResultVar) := by kernel_rfl
@[go_sem] theorem res_94 : Tryz.f94.results.toList = ([ResultVar.tmp 2] : List ResultVar) := by kernel_rfl
@[go_sem] theorem res_95 : Tryz.f95.results.toList = ([ResultVar.tmp 4] : List ResultVar) := by kernel_rfl
@[go_sem] theorem res_96 : Tryz.f96.results.toList = ([ResultVar.tmp 4] : List ResultVar) := by kernel_rfl
@[go_sem] theorem res_97 : Tryz.f97.results.toList = ([ResultVar.tmp 2] : List ResultVar) := by kernel_rfl
@[go_sem] theorem res_98 : Tryz.f98.results.toList = ([ResultVar.tmp 4] : List ResultVar) := by kernel_rfl
@[go_sem] theorem res_99 : Tryz.f99.results.toList = ([ResultVar.tmp 2] : List ResultVar) := by kernel_rfl
@[go_sem] theorem res_100 : Tryz.f100.results.toList = ([ResultVar.tmp 2] : List ResultVar) := by kernel_rfl
@[go_sem] theorem res_101 : Tryz.f101.results.toList = ([ResultVar.tmp 2] : List ResultVar) := by kernel_rfl
@[go_sem] theorem res_102 : Tryz.f102.results.toList = ([ResultVar.tmp 6, ResultVar.tmp 7] : List ResultVar) := by kernel_rfl
@[go_sem] theorem res_103 : Tryz.f103.results.toList = ([ResultVar.tmp 6] : List ResultVar) := by kernel_rfl
@[go_sem] theorem res_104 : Tryz.f104.results.toList = ([ResultVar.tmp 4] : List ResultVar) := by kernel_rfl
@[go_sem] theorem res_105 : Tryz.f105.results.toList = ([ResultVar.tmp 2, ResultVar.tmp 3] : List ResultVar) := by kernel_rfl
@[go_sem] theorem res_106 : Tryz.f106.results.toList = ([ResultVar.tmp 4] : List ResultVar) := by kernel_rfl
@[go_sem] theorem res_107 : Tryz.f107.results.toList = ([ResultVar.tmp 6, ResultVar.tmp 7] : List ResultVar) := by kernel_rfl
@[go_sem] theorem res_108 : Tryz.f108.results.toList = ([ResultVar.tmp 4] : List ResultVar) := by kernel_rfl
@[go_sem] theorem res_109 : Tryz.f109.results.toList = ([ResultVar.tmp 4] : List ResultVar) := by kernel_rfl
@[go_sem] theorem res_110 : Tryz.f110.results.toList = ([ResultVar.tmp 6] : List ResultVar) := by kernel_rfl
@[go_sem] theorem res_111 : Tryz.f111.results.toList = ([ResultVar.tmp 2] : List ResultVar) := by kernel_rfl
@[go_sem] theorem res_112 : Tryz.f112.results.toList = ([ResultVar.tmp 2] : List ResultVar) := by kernel_rfl
@[go_sem] theorem res_113 : Tryz.f113.results.toList = ([ResultVar.tmp 2] : List ResultVar) := by kernel_rfl
@[go_sem] theorem res_114 : Tryz.f114.results.toList = ([ResultVar.tmp 12, ResultVar.tmp 13] : List ResultVar) := by kernel_rfl
@[go_sem] theorem res_115 : Tryz.f115.results.toList = ([ResultVar.tmp 4, ResultVar.tmp 5, ResultVar.tmp 6] : List ResultVar) := by kernel_rfl
@[go_sem] theorem res_116 : Tryz.f116.results.toList = ([ResultVar.tmp 4] : List ResultVar) := by kernel_rfl
@[go_sem] theorem res_117 : Tryz.f117.results.toList = ([ResultVar.cell 4 71] : List ResultVar) := by kernel_rfl
@[go_sem] theorem res_118 : Tryz.f118.results.toList = ([ResultVar.tmp 2] : List ResultVar) := by kernel_rfl
@[go_sem] theorem res_119 : Tryz.f119.results.toList = ([ResultVar.tmp 4] : List ResultVar) := by kernel_rfl
@[go_sem] theorem res_120 : Tryz.f120.results.toList = ([ResultVar.cell 4 71] : List ResultVar) := by kernel_rfl
@[go_sem] theorem res_121 : Tryz.f121.results.toList = ([ResultVar.tmp 6] : List ResultVar) := by kernel_rfl
@[go_sem] theorem res_122 : Tryz.f122.results.toList = ([ResultVar.tmp 4] : List ResultVar) := by kernel_rfl
@[go_sem] theorem res_123 : Tryz.f123.results.toList = ([ResultVar.tmp 2] : List ResultVar) := by kernel_rfl
@[go_sem] theorem res_124 : Tryz.f124.results.toList = ([ResultVar.tmp 2] : List ResultVar) := by kernel_rfl
@[go_sem] theorem res_125 : Tryz.f125.results.toList = ([ResultVar.tmp 4] : List ResultVar) := by kernel_rfl
@[go_sem] theorem res_126 : Tryz.f126.results.toList = ([ResultVar.tmp 4] : List ResultVar) := by kernel_rfl
@[go_sem] theorem res_127 : Tryz.f127.results.toList = ([ResultVar.tmp 2, ResultVar.tmp 3] : List ResultVar) := by kernel_rfl
@[go_sem] theorem res_128 : Tryz.f128.results.toList = ([ResultVar.tmp 2] : List ResultVar) := by kernel_rfl
@[go_sem] theorem res_129 : Tryz.f129.results.toList = ([ResultVar.tmp 2, ResultVar.tmp 3] : List ResultVar) := by kernel_rfl
@[go_sem] theorem res_130 : Tryz.f130.results.toList = ([ResultVar.tmp 4, ResultVar.tmp 5] : List ResultVar) := by kernel_rfl
@[go_sem] theorem res_131 : Tryz.f131.results.toList = ([ResultVar.cell 2 26] : List ResultVar) := by kernel_rfl
@[go_sem] theorem res_132 : Tryz.f132.results.toList = ([ResultVar.tmp 2] : List ResultVar) := by kernel_rfl
@[go_sem] theorem res_133 : Tryz.f133.results.toList = ([ResultVar.tmp 2] : List ResultVar) := by kernel_rfl
@[go_sem] theorem res_134 : Tryz.f134.results.toList = ([ResultVar.tmp 4] : List ResultVar) := by kernel_rfl
@[go_sem] theorem res_135 : Tryz.f135.results.toList = ([ResultVar.cell 4 26, ResultVar.tmp 5, ResultVar.tmp 6] : List ResultVar) := by kernel_rfl
@[go_sem] theorem res_136 : Tryz.f136.results.toList = ([ResultVar.tmp 6] : List ResultVar) := by kernel_rfl
@[go_sem] theorem res_137 : Tryz.f137.results.toList = ([ResultVar.tmp 4] : List ResultVar) := by kernel_rfl
@[go_sem] theorem res_138 : Tryz.f138.results.toList = ([ResultVar.tmp 4] : List ResultVar) := by kernel_rfl
@[go_sem] theorem res_139 : Tryz.f139.results.toList = ([ResultVar.tmp 4] : List ResultVar) := by kernel_rfl
@[go_sem] theorem res_140 : Tryz.f140.results.toList = ([ResultVar.tmp 2] : List ResultVar) := by kernel_rfl
@[go_sem] theorem res_141 : Tryz.f141.results.toList = ([ResultVar.tmp 4] : List ResultVar) := by kernel_rfl
@[go_sem] theorem res_142 : Tryz.f142.results.toList = ([ResultVar.tmp 2] : List ResultVar) := by kernel_rfl
@[go_sem] theorem res_143 : Tryz.f143.results.toList = ([ResultVar.tmp 2] : List ResultVar) := by kernel_rfl
@[go_sem] theorem res_144 : Tryz.f144.results.toList = ([ResultVar.cell 4 42] : List ResultVar) := by kernel_rfl
@[go_sem] theorem res_145 : Tryz.f145.results.toList = ([ResultVar.tmp 2] : List ResultVar) := by kernel_rfl
@[go_sem] theorem res_146 : Tryz.f146.results.toList = ([ResultVar.cell 6 42, ResultVar.cell 7 111] : List ResultVar) := by kernel_rfl
@[go_sem] theorem res_147 : Tryz.f147.results.toList = ([ResultVar.cell 6 42, ResultVar.cell 7 111] : List ResultVar) := by kernel_rfl
@[go_sem] theorem res_148 : Tryz.f148.results.toList = ([ResultVar.cell 6 42, ResultVar.cell 7 111] : List ResultVar) := by kernel_rfl
@[go_sem] theorem res_149 : Tryz.f149.results.toList = ([ResultVar.cell 6 42, ResultVar.cell 7 111] : List ResultVar) := by kernel_rfl
@[go_sem] theorem res_150 : Tryz.f150.results.toList = ([ResultVar.tmp 2] : List ResultVar) := by kernel_rfl
@[go_sem] theorem res_151 : Tryz.f151.results.toList = ([ResultVar.cell 2 111] : List ResultVar) := by kernel_rfl
@[go_sem] theorem res_152 : Tryz.f152.results.toList = ([ResultVar.cell 2 116] : List ResultVar) := by kernel_rfl
@[go_sem] theorem res_153 : Tryz.f153.results.toList = ([ResultVar.tmp 2] : List ResultVar) := by kernel_rfl
@[go_sem] theorem res_154 : Tryz.f154.results.toList = ([ResultVar.tmp 2] : List ResultVar) := by kernel_rfl
@[go_sem] theorem res_155 : Tryz.f155.results.toList = ([ResultVar.tmp 4] : List ResultVar) := by kernel_rfl
@[go_sem] theorem res_156 : Tryz.f156.results.toList = ([ResultVar.tmp 4] : List ResultVar) := by kernel_rfl
@[go_sem] theorem res_157 : Tryz.f157.results.toList = ([ResultVar.tmp 4] : List ResultVar) := by kernel_rfl
@[go_sem] theorem res_158 : Tryz.f158.results.toList = ([ResultVar.tmp 4] : List ResultVar) := by kernel_rfl
@[go_sem] theorem res_159 : Tryz.f159.results.toList = ([ResultVar.tmp 4] : List ResultVar) := by kernel_rfl
@[go_sem] theorem res_160 : Tryz.f160.results.toList = ([ResultVar.tmp 4] : List ResultVar) := by kernel_rfl
@[go_sem] theorem res_161 : Tryz.f161.results.toList = ([ResultVar.tmp 4] : List ResultVar) := by kernel_rfl
@[go_sem] theorem res_162 : Tryz.f162.results.toList = ([ResultVar.tmp 2] : List ResultVar) := by kernel_rfl
@[go_sem] theorem res_163 : Tryz.f163.results.toList = ([ResultVar.tmp 2] : List ResultVar) := by kernel_rfl
@[go_sem] theorem res_164 : Tryz.f164.results.toList = ([ResultVar.cell 2 111] : List ResultVar) := by kernel_rfl
@[go_sem] theorem res_165 : Tryz.f165.results.toList = ([ResultVar.cell 2 119] : List ResultVar) := by kernel_rfl
@[go_sem] theorem res_166 : Tryz.f166.results.toList = ([ResultVar.cell 2 111] : List ResultVar) := by kernel_rfl
@[go_sem] theorem res_167 : Tryz.f167.results.toList = ([ResultVar.cell 2 119] : List ResultVar) := by kernel_rfl
@[go_sem] theorem res_168 : Tryz.f168.results.toList = ([ResultVar.tmp 4] : List ResultVar) := by kernel_rfl
@[go_sem] theorem res_169 : Tryz.f169.results.toList = ([ResultVar.tmp 2] : List ResultVar) := by kernel_rfl
@[go_sem] theorem res_170 : Tryz.f170.results.toList = ([] : List ResultVar) := by kernel_rfl
@[go_sem] theorem res_171 : Tryz.f171.results.toList = ([ResultVar.tmp 8, ResultVar.tmp 9] : List ResultVar) := by kernel_rfl
@[go_sem] theorem res_172 : Tryz.f172.results.toList = ([ResultVar.tmp 4] : List ResultVar) := by kernel_rfl
@[go_sem] theorem res_173 : Tryz.f173.results.toList = ([ResultVar.tmp 4] : List ResultVar) := by kernel_rfl
@[go_sem] theorem res_174 : Tryz.f174.results.toList = ([] : List ResultVar) := by kernel_rfl
@[go_sem] theorem res_175 : Tryz.f175.results.toList = ([ResultVar.tmp 6] : List ResultVar) := by kernel_rfl
@[go_sem] theorem res_176 : Tryz.f176.results.toList = ([ResultVar.tmp 2] : List ResultVar) := by kernel_rfl
@[go_sem] theorem res_177 : Tryz.f177.results.toList = ([] : List ResultVar) := by kernel_rfl
@[go_sem] theorem res_178 : Tryz.f178.results.toList = ([ResultVar.tmp 2] : List ResultVar) := by kernel_rfl
@[go_sem] theorem res_179 : Tryz.f179.results.toList = ([] : List ResultVar) := by kernel_rfl
@[go_sem] theorem res_180 : Tryz.f180.results.toList = ([ResultVar.tmp 4] : List ResultVar) := by kernel_rfl
@[go_sem] theorem res_181 : Tryz.f181.results.toList = ([ResultVar.tmp 2] : List ResultVar) := by kernel_rfl
@[go_sem] theorem res_182 : Tryz.f182.results.toList = ([ResultVar.tmp 4] : List ResultVar) := by kernel_rfl
@[go_sem] theorem res_183 : Tryz.f183.results.toList = ([ResultVar.tmp 2] : List ResultVar) := by kernel_rfl
@[go_sem] theorem res_184 : Tryz.f184.results.toList = ([ResultVar.tmp 2] : List ResultVar) := by kernel_rfl
@[go_sem] theorem res_185 : Tryz.f185.results.toList = ([ResultVar.tmp 2] : List ResultVar) := by kernel_rfl
@[go_sem] theorem res_186 : Tryz.f186.results.toList = ([ResultVar.tmp 4] : List ResultVar) := by kernel_rfl
@[go_sem] theorem res_187 : Tryz.f187.results.toList = ([ResultVar.tmp 2] : List ResultVar) := by kernel_rfl
@[go_sem] theorem res_188 : Tryz.f188.results.toList = ([ResultVar.tmp 2] : List ResultVar) := by kernel_rfl
@[go_sem] theorem res_189 : Tryz.f189.results.toList = ([ResultVar.tmp 4] : List ResultVar) := by kernel_rfl
@[go_sem] theorem res_190 : Tryz.f190.results.toList = ([ResultVar.tmp 2] : List ResultVar) := by kernel_rfl
@[go_sem] theorem res_191 : Tryz.f191.results.toList = ([ResultVar.tmp 2] : List ResultVar) := by kernel_rfl
@[go_sem] theorem res_192 : Tryz.f192.results.toList = ([ResultVar.tmp 2] : List ResultVar) := by kernel_rfl
@[go_sem] theorem res_193 : Tryz.f193.results.toList = ([ResultVar.tmp 4, ResultVar.tmp 5] : List ResultVar) := by kernel_rfl
@[go_sem] theorem res_194 : Tryz.f194.results.toList = ([ResultVar.tmp 6] : List ResultVar) := by kernel_rfl
@[go_sem] theorem res_195 : Tryz.f195.results.toList = ([ResultVar.tmp 2] : List ResultVar) := by kernel_rfl
@[go_sem] theorem res_196 : Tryz.f196.results.toList = ([ResultVar.tmp 6] : List ResultVar) := by kernel_rfl
@[go_sem] theorem res_197 : Tryz.f197.results.toList = ([ResultVar.tmp 2] : List ResultVar) := by kernel_rfl
@[go_sem] theorem res_198 : Tryz.f198.results.toList = ([ResultVar.tmp 4] : List ResultVar) := by kernel_rfl
@[go_sem] theorem res_199 : Tryz.f199.results.toList = ([ResultVar.tmp 2, ResultVar.tmp 3] : List ResultVar) := by kernel_rfl
@[go_sem] theorem res_200 : Tryz.f200.results.toList = ([ResultVar.tmp 4] : List ResultVar) := by kernel_rfl
@[go_sem] theorem res_201 : Tryz.f201.results.toList = ([ResultVar.tmp 4] : List ResultVar) := by kernel_rfl
@[go_sem] theorem res_202 : Tryz.f202.results.toList = ([ResultVar.tmp 4] : List ResultVar) := by kernel_rfl
@[go_sem] theorem res_203 : Tryz.f203.results.toList = ([ResultVar.tmp 6] : List ResultVar) := by kernel_rfl
@[go_sem] theorem res_204 : Tryz.f204.results.toList = ([ResultVar.tmp 4] : List ResultVar) := by kernel_rfl
@[go_sem] theorem res_205 : Tryz.f205.results.toList = ([ResultVar.cell 4 71] : List ResultVar) := by kernel_rfl
@[go_sem] theorem res_206 : Tryz.f206.results.toList = ([ResultVar.cell 4 71] : List ResultVar) := by kernel_rfl
@[go_sem] theorem res_207 : Tryz.f207.results.toList = ([ResultVar.tmp 4] : List ResultVar) := by kernel_rfl
@[go_sem] theorem res_208 : Tryz.f208.results.toList = ([ResultVar.tmp 2, ResultVar.tmp 3] : List ResultVar) := by kernel_rfl
@[go_sem] theorem res_209 : Tryz.f209.results.toList = ([ResultVar.tmp 2] : List ResultVar) := by kernel_rfl
@[go_sem] theorem res_210 : Tryz.f210.results.toList = ([ResultVar.tmp 2] : List ResultVar) := by kernel_rfl
@[go_sem] theorem res_211 : Tryz.f211.results.toList = ([ResultVar.tmp 2] : List ResultVar) := by kernel_rfl
@[go_sem] theorem res_212 : Tryz.f212.results.toList = ([ResultVar.tmp 4] : List ResultVar) := by kernel_rfl
@[go_sem] theorem res_213 : Tryz.f213.results.toList = ([ResultVar.tmp 3] : List ResultVar) := by kernel_rfl
@[go_sem] theorem res_214 : Tryz.f214.results.toList = ([ResultVar.tmp 2] : List ResultVar) := by kernel_rfl
@[go_sem] theorem res_215 : Tryz.f215.results.toList = ([ResultVar.cell 4 71] : List ResultVar) := by kernel_rfl
@[go_sem] theorem res_216 : Tryz.f216.results.toList = ([ResultVar.cell 4 71] : List ResultVar) := by kernel_rfl
@[go_sem] theorem res_217 : Tryz.f217.results.toList = ([ResultVar.tmp 4] : List ResultVar) := by kernel_rfl
@[go_sem] theorem res_218 : Tryz.f218.results.toList = ([ResultVar.tmp 6] : List ResultVar) := by kernel_rfl
@[go_sem] theorem res_219 : Tryz.f219.results.toList = ([] : List ResultVar) := by kernel_rfl
@[go_sem] theorem res_220 : Tryz.f220.results.toList = ([] : List ResultVar) := by kernel_rfl
@[go_sem] theorem res_221 : Tryz.f221.results.toList = ([ResultVar.tmp 6, ResultVar.tmp 7] : List ResultVar) := by kernel_rfl
@[go_sem] theorem res_222 : Tryz.f222.results.toList = ([ResultVar.tmp 4] : List ResultVar) := by kernel_rfl
@[go_sem] theorem res_223 : Tryz.f223.results.toList = ([ResultVar.tmp 4] : List ResultVar) := by kernel_rfl
@[go_sem] theorem res_224 : Tryz.f224.results.toList = ([ResultVar.tmp 2] : List ResultVar) := by kernel_rfl
@[go_sem] theorem res_225 : Tryz.f225.results.toList = ([ResultVar.tmp 6] : List ResultVar) := by kernel_rfl
@[go_sem] theorem res_226 : Tryz.f226.results.toList = ([ResultVar.tmp 4] : List ResultVar) := by kernel_rfl
@[go_sem] theorem res_227 : Tryz.f227.results.toList = ([ResultVar.tmp 2] : List ResultVar) := by kernel_rfl
@[go_sem] theorem res_228 : Tryz.f228.results.toList = ([ResultVar.cell 8 42, ResultVar.cell 9 111] : List ResultVar) := by kernel_rfl
@[go_sem] theorem res_229 : Tryz.f229.results.toList = ([ResultVar.tmp 4] : List ResultVar) := by kernel_rfl
@[go_sem] theorem res_230 : Tryz.f230.results.toList = ([ResultVar.cell 6 42, ResultVar.tmp 7] : List ResultVar) := by kernel_rfl
@[go_sem] theorem res_231 : Tryz.f231.results.toList = ([ResultVar.cell 6 42, ResultVar.cell 7 111] : List ResultVar) := by kernel_rfl
@[go_sem] theorem res_232 : Tryz.f232.results.toList = ([ResultVar.cell 10 42, ResultVar.cell 11 111] : List ResultVar) := by kernel_rfl
@[go_sem] theorem res_233 : Tryz.f233.results.toList = ([ResultVar.tmp 2] : List ResultVar) := by kernel_rfl
@[go_sem] theorem res_234 : Tryz.f234.results.toList = ([ResultVar.tmp 2] : List ResultVar) := by kernel_rfl
@[go_sem] theorem res_235 : Tryz.f235.results.toList = ([ResultVar.tmp 4] : List ResultVar) := by kernel_rfl
@[go_sem] theorem res_236 : Tryz.f236.results.toList = ([ResultVar.tmp 4] : List ResultVar) := by kernel_rfl
@[go_sem] theorem res_237 : Tryz.f237.results.toList = ([ResultVar.tmp 4] : List ResultVar) := by kernel_rfl
@[go_sem] theorem res_238 : Tryz.f238.results.toList = ([ResultVar.tmp 4] : List ResultVar) := by kernel_rfl
@[go_sem] theorem res_239 : Tryz.f239.results.toList = ([ResultVar.tmp 2] : List ResultVar) := by kernel_rfl
@[go_sem] theorem res_240 : Tryz.f240.results.toList = ([ResultVar.tmp 2] : List ResultVar) := by kernel_rfl
@[go_sem] theorem res_241 : Tryz.f241.results.toList = ([ResultVar.cell 2 89] : List ResultVar) := by kernel_rfl
@[go_sem] theorem res_242 : Tryz.f242.results.toList = ([ResultVar.tmp 2] : List ResultVar) := by kernel_rfl
@[go_sem] theorem res_243 : Tryz.f243.results.toList = ([ResultVar.tmp 4] : List ResultVar) := by kernel_rfl
@[go_sem] theorem res_244 : Tryz.f244.results.toList = ([ResultVar.tmp 2] : List ResultVar) := by kernel_rfl
@[go_sem] theorem res_245 : Tryz.f245.results.toList = ([ResultVar.tmp 2] : List ResultVar) := by kernel_rfl
@[go_sem] theorem res_246 : Tryz.f246.results.toList = ([] : List ResultVar) := by kernel_rfl
@[go_sem] theorem res_247 : Tryz.f247.results.toList = ([ResultVar.tmp 6, ResultVar.tmp 7] : List ResultVar) := by kernel_rfl
@[go_sem] theorem res_248 : Tryz.f248.results.toList = ([ResultVar.tmp 4] : List ResultVar) := by kernel_rfl
@[go_sem] theorem res_249 : Tryz.f249.results.toList = ([ResultVar.tmp 4] : List ResultVar) := by kernel_rfl
@[go_sem] theorem res_250 : Tryz.f250.results.toList = ([ResultVar.tmp 4] : List ResultVar) := by kernel_rfl
@[go_sem] theorem res_251 : Tryz.f251.results.toList = ([ResultVar.tmp 2, ResultVar.tmp 3] : List ResultVar) := by kernel_rfl
@[go_sem] theorem res_252 : Tryz.f252.results.toList = ([ResultVar.tmp 4] : List ResultVar) := by kernel_rfl
@[go_sem] theorem res_253 : Tryz.f253.results.toList = ([ResultVar.tmp 6] : List ResultVar) := by kernel_rfl
@[go_sem] theorem res_254 : Tryz.f254.results.toList = ([ResultVar.tmp 2] : List ResultVar) := by kernel_rfl
@[go_sem] theorem res_255 : Tryz.f255.results.toList = ([ResultVar.tmp 2] : List ResultVar) := by kernel_rfl
@[go_sem] theorem res_256 : Tryz.f256.results.toList = ([ResultVar.tmp 2] : List ResultVar) := by kernel_rfl
@[go_sem] theorem res_257 : Tryz.f257.results.toList = ([ResultVar.tmp 4] : List ResultVar) := by kernel_rfl
@[go_sem] theorem res_258 : Tryz.f258.results.toList = ([ResultVar.tmp 4] : List ResultVar) := by kernel_rfl
@[go_sem] theorem res_259 : Tryz.f259.results.toList = ([ResultVar.tmp 3] : List ResultVar) := by kernel_rfl
@[go_sem] theorem res_260 : Tryz.f260.results.toList = ([] : List ResultVar) := by kernel_rfl
@[go_sem] theorem res_261 : Tryz.f261.results.toList = ([ResultVar.tmp 2] : List ResultVar) := by kernel_rfl
@[go_sem] theorem res_262 : Tryz.f262.results.toList = ([] : List ResultVar) := by kernel_rfl
@[go_sem] theorem res_263 : Tryz.f263.results.toList = ([] : List ResultVar) := by kernel_rfl
@[go_sem] theorem res_264 : Tryz.f264.results.toList = ([ResultVar.tmp 2] : List ResultVar) := by kernel_rfl
@[go_sem] theorem res_265 : Tryz.f265.results.toList = ([ResultVar.tmp 4] : List ResultVar) := by kernel_rfl
@[go_sem] theorem res_266 : Tryz.f266.results.toList = ([ResultVar.cell 2 71] : List ResultVar) := by kernel_rfl
@[go_sem] theorem res_267 : Tryz.f267.results.toList = ([ResultVar.tmp 4, ResultVar.tmp 5] : List ResultVar) := by kernel_rfl
@[go_sem] theorem res_268 : Tryz.f268.results.toList = ([ResultVar.tmp 6, ResultVar.tmp 7, ResultVar.tmp 8] : List ResultVar) := by kernel_rfl
@[go_sem] theorem res_269 : Tryz.f269.results.toList = ([ResultVar.tmp 4] : List ResultVar) := by kernel_rfl
@[go_sem] theorem res_270 : Tryz.f270.results.toList = ([ResultVar.tmp 2] : List ResultVar) := by kernel_rfl
@[go_sem] theorem res_271 : Tryz.f271.results.toList = ([] : List ResultVar) := by kernel_rfl
@[go_sem] theorem res_272 : Tryz.f272.results.toList = ([] : List ResultVar) := by kernel_rfl
@[go_sem] theorem res_273 : Tryz.f273.results.toList = ([] : List ResultVar) := by kernel_rfl
@[go_sem] theorem res_274 : Tryz.f274.results.toList = ([] : List ResultVar) := by kernel_rfl
@[go_sem] theorem res_275 : Tryz.f275.results.toList = ([] : List ResultVar) := by kernel_rfl
@[go_sem] theorem res_276 : Tryz.f276.results.toList = ([] : List ResultVar) := by kernel_rfl
@[go_sem] theorem res_277 : Tryz.f277.results.toList = ([] : List ResultVar) := by kernel_rfl
@[go_sem] theorem res_278 : Tryz.f278.results.toList = ([] : List ResultVar) := by kernel_rfl
@[go_sem] theorem res_279 : Tryz.f279.results.toList = ([] : List ResultVar) := by kernel_rfl
@[go_sem] theorem res_280 : Tryz.f280.results.toList = ([] : List ResultVar) := by kernel_rfl
@[go_sem] theorem res_281 : Tryz.f281.results.toList = ([] : List ResultVar) := by kernel_rfl
@[go_sem] theorem res_282 : Tryz.f282.results.toList = ([] : List ResultVar) := by kernel_rfl
@[go_sem] theorem res_283 : Tryz.f283.results.toList = ([] : List ResultVar) := by kernel_rfl
@[go_sem] theorem res_284 : Tryz.f284.results.toList = ([] : List ResultVar) := by kernel_rfl
@[go_sem] theorem res_285 : Tryz.f285.results.toList = ([] : List ResultVar) := by kernel_rfl
@[go_sem] theorem res_286 : Tryz.f286.results.toList = ([] : List ResultVar) := by kernel_rfl
@[go_sem] theorem res_287 : Tryz.f287.results.toList = ([] : List ResultVar) := by kernel_rfl
@[go_sem] theorem res_288 : Tryz.f288.results.toList = ([] : List ResultVar) := by kernel_rfl
@[go_sem] theorem res_289 : Tryz.f289.results.toList = ([] : List ResultVar) := by kernel_rfl
end Go.Proofs.YtipfnhfcoolhaaaGreat.Aw
