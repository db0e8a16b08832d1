/- Facts about the seat's types, printed by ty.py. -/
import Derived.Test.YtiapkahjolbgmaaAx2
import Derived.Test.YtiapkahjolbgmaaProg
namespace Go.Proofs.Ytiapkahjolbgmaa.Aw
open Go
@[go_sem] theorem uis_0 : (Try.prog.underlying 0).isSome = true := by kernel_rfl
@[go_sem] theorem tyi_0 : tyi Try.prog 0 = some ⟨false, 1, 0, [Value.tuple #[]]⟩ := by kernel_rfl
@[go_sem] theorem uis_1 : (Try.prog.underlying 1).isSome = true := by kernel_rfl
@[go_sem] theorem tyi_1 : tyi Try.prog 1 = some ⟨false, 1, 8, [Value.nilFunc]⟩ := by kernel_rfl
@[go_sem] theorem uis_2 : (Try.prog.underlying 2).isSome = true := by kernel_rfl
@[go_sem] theorem tyi_2 : tyi Try.prog 2 = some ⟨false, 1, 8, [Value.int IntKind.i64 0]⟩ := by kernel_rfl
@[go_sem] theorem intKd_2 : intKd Try.prog 2 = some IntKind.i64 := by kernel_rfl
@[go_sem] theorem uis_3 : (Try.prog.underlying 3).isSome = true := by kernel_rfl
@[go_sem] theorem tyi_3 : tyi Try.prog 3 = some ⟨false, 1, 8, [Value.int IntKind.i64 0]⟩ := by kernel_rfl
@[go_sem] theorem intKd_3 : intKd Try.prog 3 = some IntKind.i64 := by kernel_rfl
@[go_sem] theorem uis_4 : (Try.prog.underlying 4).isSome = true := by kernel_rfl
@[go_sem] theorem tyi_4 : tyi Try.prog 4 = some ⟨false, 1, 1, [Value.bool false]⟩ := by kernel_rfl
@[go_sem] theorem und_4 : Try.prog.underlying 4 = some .bool := by kernel_rfl
@[go_sem] theorem uis_5 : (Try.prog.underlying 5).isSome = true := by kernel_rfl
@[go_sem] theorem tyi_5 : tyi Try.prog 5 = some ⟨false, 1, 1, [Value.int IntKind.u8 0]⟩ := by kernel_rfl
@[go_sem] theorem intKd_5 : intKd Try.prog 5 = some IntKind.u8 := by kernel_rfl
@[go_sem] theorem uis_6 : (Try.prog.underlying 6).isSome = true := by kernel_rfl
@[go_sem] theorem tyi_6 : tyi Try.prog 6 = some ⟨false, 1, 1, [Value.int IntKind.u8 0]⟩ := by kernel_rfl
@[go_sem] theorem intKd_6 : intKd Try.prog 6 = some IntKind.u8 := by kernel_rfl
@[go_sem] theorem uis_7 : (Try.prog.underlying 7).isSome = true := by kernel_rfl
@[go_sem] theorem tyi_7 : tyi Try.prog 7 = some ⟨true, 4, 24, [Value.int IntKind.i64 0, Value.int IntKind.i64 0, Value.bool false, Value.int IntKind.u8 0]⟩ := by kernel_rfl
@[go_sem] theorem fldt_7_0 : fldt Try.prog 7 0 = some (0, 2) := by kernel_rfl
@[go_sem] theorem fldt_7_1 : fldt Try.prog 7 1 = some (1, 3) := by kernel_rfl
@[go_sem] theorem fldt_7_2 : fldt Try.prog 7 2 = some (2, 4) := by kernel_rfl
@[go_sem] theorem fldt_7_3 : fldt Try.prog 7 3 = some (3, 6) := by kernel_rfl
@[go_sem] theorem places_7 : places Try.prog 7 = some ([(0, 1), (1, 1), (2, 1), (3, 1)]) := by kernel_rfl
@[go_sem] theorem uis_8 : (Try.prog.underlying 8).isSome = true := by kernel_rfl
@[go_sem] theorem tyi_8 : tyi Try.prog 8 = some ⟨true, 4, 24, [Value.int IntKind.i64 0, Value.int IntKind.i64 0, Value.bool false, Value.int IntKind.u8 0]⟩ := by kernel_rfl
@[go_sem] theorem fldt_8_0 : fldt Try.prog 8 0 = some (0, 2) := by kernel_rfl
@[go_sem] theorem fldt_8_1 : fldt Try.prog 8 1 = some (1, 3) := by kernel_rfl
@[go_sem] theorem fldt_8_2 : fldt Try.prog 8 2 = some (2, 4) := by kernel_rfl
@[go_sem] theorem fldt_8_3 : fldt Try.prog 8 3 = some (3, 6) := by kernel_rfl
@[go_sem] theorem places_8 : places Try.prog 8 = some ([(0, 1), (1, 1), (2, 1), (3, 1)]) := by kernel_rfl
@[go_sem] theorem uis_9 : (Try.prog.underlying 9).isSome = true := by kernel_rfl
@[go_sem] theorem tyi_9 : tyi Try.prog 9 = some ⟨false, 1, 16, [Value.string (ByteArray.mk #[])]⟩ := by kernel_rfl
@[go_sem] theorem isStr_9 : isStr Try.prog 9 = true := by kernel_rfl
@[go_sem] theorem uis_10 : (Try.prog.underlying 10).isSome = true := by kernel_rfl
@[go_sem] theorem tyi_10 : tyi Try.prog 10 = some ⟨false, 1, 16, [Value.string (ByteArray.mk #[])]⟩ := by kernel_rfl
@[go_sem] theorem isStr_10 : isStr Try.prog 10 = true := by kernel_rfl
@[go_sem] theorem uis_11 : (Try.prog.underlying 11).isSome = true := by kernel_rfl
@[go_sem] theorem tyi_11 : tyi Try.prog 11 = some ⟨false, 1, 16, [Value.string (ByteArray.mk #[])]⟩ := by kernel_rfl
@[go_sem] theorem isStr_11 : isStr Try.prog 11 = true := by kernel_rfl
@[go_sem] theorem uis_12 : (Try.prog.underlying 12).isSome = true := by kernel_rfl
@[go_sem] theorem tyi_12 : tyi Try.prog 12 = some ⟨false, 1, 8, [Value.int IntKind.u64 0]⟩ := by kernel_rfl
@[go_sem] theorem intKd_12 : intKd Try.prog 12 = some IntKind.u64 := by kernel_rfl
@[go_sem] theorem uis_13 : (Try.prog.underlying 13).isSome = true := by kernel_rfl
@[go_sem] theorem tyi_13 : tyi Try.prog 13 = some ⟨true, 2, 24, [Value.string (ByteArray.mk #[]), Value.int IntKind.u64 0]⟩ := by kernel_rfl
@[go_sem] theorem fldt_13_0 : fldt Try.prog 13 0 = some (0, 9) := by kernel_rfl
@[go_sem] theorem fldt_13_1 : fldt Try.prog 13 1 = some (1, 12) := by kernel_rfl
@[go_sem] theorem places_13 : places Try.prog 13 = some ([(0, 1), (1, 1)]) := by kernel_rfl
@[go_sem] theorem uis_14 : (Try.prog.underlying 14).isSome = true := by kernel_rfl
@[go_sem] theorem tyi_14 : tyi Try.prog 14 = some ⟨true, 2, 24, [Value.string (ByteArray.mk #[]), Value.int IntKind.u64 0]⟩ := by kernel_rfl
@[go_sem] theorem fldt_14_0 : fldt Try.prog 14 0 = some (0, 9) := by kernel_rfl
@[go_sem] theorem fldt_14_1 : fldt Try.prog 14 1 = some (1, 12) := by kernel_rfl
@[go_sem] theorem places_14 : places Try.prog 14 = some ([(0, 1), (1, 1)]) := by kernel_rfl
@[go_sem] theorem uis_15 : (Try.prog.underlying 15).isSome = true := by kernel_rfl
@[go_sem] theorem tyi_15 : tyi Try.prog 15 = some ⟨false, 1, 8, [Value.pointer none]⟩ := by kernel_rfl
@[go_sem] theorem uis_16 : (Try.prog.underlying 16).isSome = true := by kernel_rfl
@[go_sem] theorem tyi_16 : tyi Try.prog 16 = some ⟨false, 1, 8, [Value.pointer none]⟩ := by kernel_rfl
@[go_sem] theorem uis_17 : (Try.prog.underlying 17).isSome = true := by kernel_rfl
@[go_sem] theorem tyi_17 : tyi Try.prog 17 = some ⟨false, 1, 8, [Value.pointer none]⟩ := by kernel_rfl
@[go_sem] theorem uis_18 : (Try.prog.underlying 18).isSome = true := by kernel_rfl
@[go_sem] theorem tyi_18 : tyi Try.prog 18 = some ⟨true, 1, 8, [Value.pointer none]⟩ := by kernel_rfl
@[go_sem] theorem fldt_18_0 : fldt Try.prog 18 0 = some (0, 17) := by kernel_rfl
@[go_sem] theorem places_18 : places Try.prog 18 = some ([(0, 1)]) := by kernel_rfl
@[go_sem] theorem uis_19 : (Try.prog.underlying 19).isSome = true := by kernel_rfl
@[go_sem] theorem tyi_19 : tyi Try.prog 19 = some ⟨true, 1, 8, [Value.pointer none]⟩ := by kernel_rfl
@[go_sem] theorem fldt_19_0 : fldt Try.prog 19 0 = some (0, 17) := by kernel_rfl
@[go_sem] theorem places_19 : places Try.prog 19 = some ([(0, 1)]) := by kernel_rfl
@[go_sem] theorem uis_20 : (Try.prog.underlying 20).isSome = true := by kernel_rfl
@[go_sem] theorem tyi_20 : tyi Try.prog 20 = some ⟨false, 1, 16, [Value.nilIface]⟩ := by kernel_rfl
@[go_sem] theorem uis_21 : (Try.prog.underlying 21).isSome = true := by kernel_rfl
@[go_sem] theorem tyi_21 : tyi Try.prog 21 = some ⟨false, 1, 4, [Value.int IntKind.i32 0]⟩ := by kernel_rfl
@[go_sem] theorem intKd_21 : intKd Try.prog 21 = some IntKind.i32 := by kernel_rfl
@[go_sem] theorem uis_22 : (Try.prog.underlying 22).isSome = true := by kernel_rfl
@[go_sem] theorem tyi_22 : tyi Try.prog 22 = some ⟨false, 1, 8, [Value.nilFunc]⟩ := by kernel_rfl
@[go_sem] theorem uis_23 : (Try.prog.underlying 23).isSome = true := by kernel_rfl
@[go_sem] theorem tyi_23 : tyi Try.prog 23 = some ⟨false, 1, 8, [Value.nilFunc]⟩ := by kernel_rfl
@[go_sem] theorem uis_24 : (Try.prog.underlying 24).isSome = true := by kernel_rfl
@[go_sem] theorem tyi_24 : tyi Try.prog 24 = some ⟨true, 4, 40, [Value.int IntKind.i64 0, Value.string (ByteArray.mk #[]), Value.int IntKind.i64 0, Value.int IntKind.i64 0]⟩ := by kernel_rfl
@[go_sem] theorem fldt_24_0 : fldt Try.prog 24 0 = some (0, 3) := by kernel_rfl
@[go_sem] theorem fldt_24_1 : fldt Try.prog 24 1 = some (1, 9) := by kernel_rfl
@[go_sem] theorem fldt_24_2 : fldt Try.prog 24 2 = some (2, 3) := by kernel_rfl
@[go_sem] theorem fldt_24_3 : fldt Try.prog 24 3 = some (3, 3) := by kernel_rfl
@[go_sem] theorem places_24 : places Try.prog 24 = some ([(0, 1), (1, 1), (2, 1), (3, 1)]) := by kernel_rfl
@[go_sem] theorem uis_25 : (Try.prog.underlying 25).isSome = true := by kernel_rfl
@[go_sem] theorem tyi_25 : tyi Try.prog 25 = some ⟨true, 4, 40, [Value.int IntKind.i64 0, Value.string (ByteArray.mk #[]), Value.int IntKind.i64 0, Value.int IntKind.i64 0]⟩ := by kernel_rfl
@[go_sem] theorem fldt_25_0 : fldt Try.prog 25 0 = some (0, 3) := by kernel_rfl
@[go_sem] theorem fldt_25_1 : fldt Try.prog 25 1 = some (1, 9) := by kernel_rfl
@[go_sem] theorem fldt_25_2 : fldt Try.prog 25 2 = some (2, 3) := by kernel_rfl
@[go_sem] theorem fldt_25_3 : fldt Try.prog 25 3 = some (3, 3) := by kernel_rfl
@[go_sem] theorem places_25 : places Try.prog 25 = some ([(0, 1), (1, 1), (2, 1), (3, 1)]) := by kernel_rfl
@[go_sem] theorem uis_26 : (Try.prog.underlying 26).isSome = true := by kernel_rfl
@[go_sem] theorem tyi_26 : tyi Try.prog 26 = some ⟨false, 1, 8, [Value.nilFunc]⟩ := by kernel_rfl
@[go_sem] theorem uis_27 : (Try.prog.underlying 27).isSome = true := by kernel_rfl
@[go_sem] theorem tyi_27 : tyi Try.prog 27 = some ⟨false, 1, 8, [Value.nilFunc]⟩ := by kernel_rfl
@[go_sem] theorem uis_28 : (Try.prog.underlying 28).isSome = true := by kernel_rfl
@[go_sem] theorem tyi_28 : tyi Try.prog 28 = some ⟨true, 4, 40, [Value.int IntKind.i64 0, Value.string (ByteArray.mk #[]), Value.int IntKind.i64 0, Value.int IntKind.i64 0]⟩ := by kernel_rfl
@[go_sem] theorem fldt_28_0 : fldt Try.prog 28 0 = some (0, 3) := by kernel_rfl
@[go_sem] theorem fldt_28_1 : fldt Try.prog 28 1 = some (1, 9) := by kernel_rfl
@[go_sem] theorem fldt_28_2 : fldt Try.prog 28 2 = some (2, 3) := by kernel_rfl
@[go_sem] theorem fldt_28_3 : fldt Try.prog 28 3 = some (3, 3) := by kernel_rfl
@[go_sem] theorem places_28 : places Try.prog 28 = some ([(0, 1), (1, 1), (2, 1), (3, 1)]) := by kernel_rfl
@[go_sem] theorem uis_29 : (Try.prog.underlying 29).isSome = true := by kernel_rfl
@[go_sem] theorem tyi_29 : tyi Try.prog 29 = some ⟨false, 1, 8, [Value.nilFunc]⟩ := by kernel_rfl
@[go_sem] theorem uis_30 : (Try.prog.underlying 30).isSome = true := by kernel_rfl
@[go_sem] theorem tyi_30 : tyi Try.prog 30 = some ⟨false, 1, 8, [Value.nilFunc]⟩ := by kernel_rfl
@[go_sem] theorem uis_31 : (Try.prog.underlying 31).isSome = true := by kernel_rfl
@[go_sem] theorem tyi_31 : tyi Try.prog 31 = some ⟨false, 1, 24, [Value.slice none 0 0]⟩ := by kernel_rfl
@[go_sem] theorem elt_31 : elt Try.prog 31 = some 113 := by kernel_rfl
@[go_sem] theorem arrt_31 : arrt Try.prog 31 = none := by kernel_rfl
@[go_sem] theorem uis_32 : (Try.prog.underlying 32).isSome = true := by kernel_rfl
@[go_sem] theorem tyi_32 : tyi Try.prog 32 = some ⟨false, 1, 24, [Value.slice none 0 0]⟩ := by kernel_rfl
@[go_sem] theorem elt_32 : elt Try.prog 32 = some 115 := by kernel_rfl
@[go_sem] theorem arrt_32 : arrt Try.prog 32 = none := by kernel_rfl
@[go_sem] theorem uis_33 : (Try.prog.underlying 33).isSome = true := by kernel_rfl
@[go_sem] theorem tyi_33 : tyi Try.prog 33 = some ⟨true, 2, 48, [Value.slice none 0 0, Value.slice none 0 0]⟩ := by kernel_rfl
@[go_sem] theorem fldt_33_0 : fldt Try.prog 33 0 = some (0, 31) := by kernel_rfl
@[go_sem] theorem fldt_33_1 : fldt Try.prog 33 1 = some (1, 32) := by kernel_rfl
@[go_sem] theorem places_33 : places Try.prog 33 = some ([(0, 1), (1, 1)]) := by kernel_rfl
@[go_sem] theorem uis_34 : (Try.prog.underlying 34).isSome = true := by kernel_rfl
@[go_sem] theorem tyi_34 : tyi Try.prog 34 = some ⟨true, 2, 48, [Value.slice none 0 0, Value.slice none 0 0]⟩ := by kernel_rfl
@[go_sem] theorem fldt_34_0 : fldt Try.prog 34 0 = some (0, 31) := by kernel_rfl
@[go_sem] theorem fldt_34_1 : fldt Try.prog 34 1 = some (1, 32) := by kernel_rfl
@[go_sem] theorem places_34 : places Try.prog 34 = some ([(0, 1), (1, 1)]) := by kernel_rfl
@[go_sem] theorem uis_35 : (Try.prog.underlying 35).isSome = true := by kernel_rfl
@[go_sem] theorem tyi_35 : tyi Try.prog 35 = some ⟨false, 1, 8, [Value.nilFunc]⟩ := by kernel_rfl
@[go_sem] theorem uis_36 : (Try.prog.underlying 36).isSome = true := by kernel_rfl
@[go_sem] theorem tyi_36 : tyi Try.prog 36 = some ⟨false, 1, 8, [Value.nilFunc]⟩ := by kernel_rfl
@[go_sem] theorem uis_37 : (Try.prog.underlying 37).isSome = true := by kernel_rfl
@[go_sem] theorem tyi_37 : tyi Try.prog 37 = some ⟨false, 1, 24, [Value.slice none 0 0]⟩ := by kernel_rfl
@[go_sem] theorem elt_37 : elt Try.prog 37 = some 83 := by kernel_rfl
@[go_sem] theorem arrt_37 : arrt Try.prog 37 = none := by kernel_rfl
@[go_sem] theorem uis_38 : (Try.prog.underlying 38).isSome = true := by kernel_rfl
@[go_sem] theorem tyi_38 : tyi Try.prog 38 = some ⟨false, 1, 24, [Value.slice none 0 0]⟩ := by kernel_rfl
@[go_sem] theorem elt_38 : elt Try.prog 38 = some 53 := by kernel_rfl
@[go_sem] theorem arrt_38 : arrt Try.prog 38 = none := by kernel_rfl
@[go_sem] theorem uis_39 : (Try.prog.underlying 39).isSome = true := by kernel_rfl
@[go_sem] theorem tyi_39 : tyi Try.prog 39 = some ⟨true, 2, 48, [Value.slice none 0 0, Value.slice none 0 0]⟩ := by kernel_rfl
@[go_sem] theorem fldt_39_0 : fldt Try.prog 39 0 = some (0, 37) := by kernel_rfl
@[go_sem] theorem fldt_39_1 : fldt Try.prog 39 1 = some (1, 38) := by kernel_rfl
@[go_sem] theorem places_39 : places Try.prog 39 = some ([(0, 1), (1, 1)]) := by kernel_rfl
@[go_sem] theorem uis_40 : (Try.prog.underlying 40).isSome = true := by kernel_rfl
@[go_sem] theorem tyi_40 : tyi Try.prog 40 = some ⟨true, 2, 48, [Value.slice none 0 0, Value.slice none 0 0]⟩ := by kernel_rfl
@[go_sem] theorem fldt_40_0 : fldt Try.prog 40 0 = some (0, 37) := by kernel_rfl
@[go_sem] theorem fldt_40_1 : fldt Try.prog 40 1 = some (1, 38) := by kernel_rfl
@[go_sem] theorem places_40 : places Try.prog 40 = some ([(0, 1), (1, 1)]) := by kernel_rfl
@[go_sem] theorem uis_41 : (Try.prog.underlying 41).isSome = true := by kernel_rfl
@[go_sem] theorem tyi_41 : tyi Try.prog 41 = some ⟨false, 1, 8, [Value.nilFunc]⟩ := by kernel_rfl
@[go_sem] theorem uis_42 : (Try.prog.underlying 42).isSome = true := by kernel_rfl
@[go_sem] theorem tyi_42 : tyi Try.prog 42 = some ⟨false, 1, 8, [Value.nilFunc]⟩ := by kernel_rfl
@[go_sem] theorem uis_43 : (Try.prog.underlying 43).isSome = true := by kernel_rfl
@[go_sem] theorem tyi_43 : tyi Try.prog 43 = some ⟨false, 1, 8, [Value.nilFunc]⟩ := by kernel_rfl
@[go_sem] theorem uis_44 : (Try.prog.underlying 44).isSome = true := by kernel_rfl
@[go_sem] theorem tyi_44 : tyi Try.prog 44 = some ⟨false, 1, 8, [Value.nilFunc]⟩ := by kernel_rfl
@[go_sem] theorem uis_45 : (Try.prog.underlying 45).isSome = true := by kernel_rfl
@[go_sem] theorem tyi_45 : tyi Try.prog 45 = some ⟨false, 1, 24, [Value.slice none 0 0]⟩ := by kernel_rfl
@[go_sem] theorem elt_45 : elt Try.prog 45 = some 91 := by kernel_rfl
@[go_sem] theorem arrt_45 : arrt Try.prog 45 = none := by kernel_rfl
@[go_sem] theorem uis_46 : (Try.prog.underlying 46).isSome = true := by kernel_rfl
@[go_sem] theorem tyi_46 : tyi Try.prog 46 = some ⟨false, 1, 8, [Value.nilFunc]⟩ := by kernel_rfl
@[go_sem] theorem uis_47 : (Try.prog.underlying 47).isSome = true := by kernel_rfl
@[go_sem] theorem tyi_47 : tyi Try.prog 47 = some ⟨false, 1, 8, [Value.nilFunc]⟩ := by kernel_rfl
@[go_sem] theorem uis_48 : (Try.prog.underlying 48).isSome = true := by kernel_rfl
@[go_sem] theorem tyi_48 : tyi Try.prog 48 = some ⟨false, 1, 24, [Value.slice none 0 0]⟩ := by kernel_rfl
@[go_sem] theorem elt_48 : elt Try.prog 48 = some 94 := by kernel_rfl
@[go_sem] theorem arrt_48 : arrt Try.prog 48 = none := by kernel_rfl
@[go_sem] theorem uis_49 : (Try.prog.underlying 49).isSome = true := by kernel_rfl
@[go_sem] theorem tyi_49 : tyi Try.prog 49 = some ⟨false, 1, 8, [Value.nilFunc]⟩ := by kernel_rfl
@[go_sem] theorem uis_50 : (Try.prog.underlying 50).isSome = true := by kernel_rfl
@[go_sem] theorem tyi_50 : tyi Try.prog 50 = some ⟨false, 1, 8, [Value.nilFunc]⟩ := by kernel_rfl
@[go_sem] theorem uis_51 : (Try.prog.underlying 51).isSome = true := by kernel_rfl
@[go_sem] theorem tyi_51 : tyi Try.prog 51 = some ⟨false, 1, 8, [Value.nilFunc]⟩ := by kernel_rfl
@[go_sem] theorem uis_52 : (Try.prog.underlying 52).isSome = true := by kernel_rfl
@[go_sem] theorem tyi_52 : tyi Try.prog 52 = some ⟨true, 10, 88, [Value.string (ByteArray.mk #[]), Value.int IntKind.i64 0, Value.int IntKind.i64 0, Value.bool false, Value.int IntKind.i64 0, Value.int IntKind.i64 0, Value.int IntKind.i64 0, Value.int IntKind.i64 0, Value.int IntKind.i64 0, Value.int IntKind.i64 0]⟩ := by kernel_rfl
@[go_sem] theorem fldt_52_0 : fldt Try.prog 52 0 = some (0, 9) := by kernel_rfl
@[go_sem] theorem fldt_52_1 : fldt Try.prog 52 1 = some (1, 3) := by kernel_rfl
@[go_sem] theorem fldt_52_2 : fldt Try.prog 52 2 = some (2, 3) := by kernel_rfl
@[go_sem] theorem fldt_52_3 : fldt Try.prog 52 3 = some (3, 4) := by kernel_rfl
@[go_sem] theorem fldt_52_4 : fldt Try.prog 52 4 = some (4, 3) := by kernel_rfl
@[go_sem] theorem fldt_52_5 : fldt Try.prog 52 5 = some (5, 3) := by kernel_rfl
@[go_sem] theorem fldt_52_6 : fldt Try.prog 52 6 = some (6, 3) := by kernel_rfl
@[go_sem] theorem fldt_52_7 : fldt Try.prog 52 7 = some (7, 3) := by kernel_rfl
@[go_sem] theorem fldt_52_8 : fldt Try.prog 52 8 = some (8, 3) := by kernel_rfl
@[go_sem] theorem fldt_52_9 : fldt Try.prog 52 9 = some (9, 3) := by kernel_rfl
@[go_sem] theorem places_52 : places Try.prog 52 = some ([(0, 1), (1, 1), (2, 1), (3, 1), (4, 1), (5, 1), (6, 1), (7, 1), (8, 1), (9, 1)]) := by kernel_rfl
@[go_sem] theorem uis_53 : (Try.prog.underlying 53).isSome = true := by kernel_rfl
@[go_sem] theorem tyi_53 : tyi Try.prog 53 = some ⟨true, 10, 88, [Value.string (ByteArray.mk #[]), Value.int IntKind.i64 0, Value.int IntKind.i64 0, Value.bool false, Value.int IntKind.i64 0, Value.int IntKind.i64 0, Value.int IntKind.i64 0, Value.int IntKind.i64 0, Value.int IntKind.i64 0, Value.int IntKind.i64 0]⟩ := by kernel_rfl
@[go_sem] theorem fldt_53_0 : fldt Try.prog 53 0 = some (0, 9) := by kernel_rfl
@[go_sem] theorem fldt_53_1 : fldt Try.prog 53 1 = some (1, 3) := by kernel_rfl
@[go_sem] theorem fldt_53_2 : fldt Try.prog 53 2 = some (2, 3) := by kernel_rfl
@[go_sem] theorem fldt_53_3 : fldt Try.prog 53 3 = some (3, 4) := by kernel_rfl
@[go_sem] theorem fldt_53_4 : fldt Try.prog 53 4 = some (4, 3) := by kernel_rfl
@[go_sem] theorem fldt_53_5 : fldt Try.prog 53 5 = some (5, 3) := by kernel_rfl
@[go_sem] theorem fldt_53_6 : fldt Try.prog 53 6 = some (6, 3) := by kernel_rfl
@[go_sem] theorem fldt_53_7 : fldt Try.prog 53 7 = some (7, 3) := by kernel_rfl
@[go_sem] theorem fldt_53_8 : fldt Try.prog 53 8 = some (8, 3) := by kernel_rfl
@[go_sem] theorem fldt_53_9 : fldt Try.prog 53 9 = some (9, 3) := by kernel_rfl
@[go_sem] theorem places_53 : places Try.prog 53 = some ([(0, 1), (1, 1), (2, 1), (3, 1), (4, 1), (5, 1), (6, 1), (7, 1), (8, 1), (9, 1)]) := by kernel_rfl
@[go_sem] theorem uis_54 : (Try.prog.underlying 54).isSome = true := by kernel_rfl
@[go_sem] theorem tyi_54 : tyi Try.prog 54 = some ⟨false, 1, 8, [Value.nilFunc]⟩ := by kernel_rfl
@[go_sem] theorem uis_55 : (Try.prog.underlying 55).isSome = true := by kernel_rfl
@[go_sem] theorem tyi_55 : tyi Try.prog 55 = some ⟨false, 1, 8, [Value.nilFunc]⟩ := by kernel_rfl
@[go_sem] theorem uis_56 : (Try.prog.underlying 56).isSome = true := by kernel_rfl
@[go_sem] theorem tyi_56 : tyi Try.prog 56 = some ⟨false, 1, 24, [Value.slice none 0 0]⟩ := by kernel_rfl
@[go_sem] theorem elt_56 : elt Try.prog 56 = some 100 := by kernel_rfl
@[go_sem] theorem arrt_56 : arrt Try.prog 56 = none := by kernel_rfl
@[go_sem] theorem uis_57 : (Try.prog.underlying 57).isSome = true := by kernel_rfl
@[go_sem] theorem tyi_57 : tyi Try.prog 57 = some ⟨false, 1, 8, [Value.nilFunc]⟩ := by kernel_rfl
@[go_sem] theorem uis_58 : (Try.prog.underlying 58).isSome = true := by kernel_rfl
@[go_sem] theorem tyi_58 : tyi Try.prog 58 = some ⟨false, 1, 8, [Value.nilFunc]⟩ := by kernel_rfl
@[go_sem] theorem uis_59 : (Try.prog.underlying 59).isSome = true := by kernel_rfl
@[go_sem] theorem tyi_59 : tyi Try.prog 59 = some ⟨false, 1, 24, [Value.slice none 0 0]⟩ := by kernel_rfl
@[go_sem] theorem elt_59 : elt Try.prog 59 = some 102 := by kernel_rfl
@[go_sem] theorem arrt_59 : arrt Try.prog 59 = none := by kernel_rfl
@[go_sem] theorem uis_60 : (Try.prog.underlying 60).isSome = true := by kernel_rfl
@[go_sem] theorem tyi_60 : tyi Try.prog 60 = some ⟨false, 1, 8, [Value.nilFunc]⟩ := by kernel_rfl
@[go_sem] theorem uis_61 : (Try.prog.underlying 61).isSome = true := by kernel_rfl
@[go_sem] theorem tyi_61 : tyi Try.prog 61 = some ⟨false, 1, 8, [Value.nilFunc]⟩ := by kernel_rfl
@[go_sem] theorem uis_62 : (Try.prog.underlying 62).isSome = true := by kernel_rfl
@[go_sem] theorem tyi_62 : tyi Try.prog 62 = some ⟨false, 1, 8, [Value.nilFunc]⟩ := by kernel_rfl
@[go_sem] theorem uis_63 : (Try.prog.underlying 63).isSome = true := by kernel_rfl
@[go_sem] theorem tyi_63 : tyi Try.prog 63 = some ⟨false, 1, 8, [Value.nilFunc]⟩ := by kernel_rfl
@[go_sem] theorem uis_64 : (Try.prog.underlying 64).isSome = true := by kernel_rfl
@[go_sem] theorem tyi_64 : tyi Try.prog 64 = some ⟨false, 1, 8, [Value.nilFunc]⟩ := by kernel_rfl
@[go_sem] theorem uis_65 : (Try.prog.underlying 65).isSome = true := by kernel_rfl
@[go_sem] theorem tyi_65 : tyi Try.prog 65 = some ⟨false, 1, 8, [Value.nilFunc]⟩ := by kernel_rfl
@[go_sem] theorem uis_66 : (Try.prog.underlying 66).isSome = true := by kernel_rfl
@[go_sem] theorem tyi_66 : tyi Try.prog 66 = some ⟨false, 1, 24, [Value.slice none 0 0]⟩ := by kernel_rfl
@[go_sem] theorem elt_66 : elt Try.prog 66 = some 3 := by kernel_rfl
@[go_sem] theorem arrt_66 : arrt Try.prog 66 = none := by kernel_rfl
@[go_sem] theorem uis_67 : (Try.prog.underlying 67).isSome = true := by kernel_rfl
@[go_sem] theorem tyi_67 : tyi Try.prog 67 = some ⟨true, 18, 184, [Value.bool false, Value.int IntKind.i64 0, Value.string (ByteArray.mk #[]), Value.int IntKind.i64 0, Value.int IntKind.i64 0, Value.int IntKind.i64 0, Value.int IntKind.i64 0, Value.int IntKind.i64 0, Value.int IntKind.i64 0, Value.int IntKind.i64 0, Value.int IntKind.i64 0, Value.int IntKind.i64 0, Value.int IntKind.i64 0, Value.int IntKind.i64 0, Value.int IntKind.i64 0, Value.int IntKind.i64 0, Value.slice none 0 0, Value.slice none 0 0]⟩ := by kernel_rfl
@[go_sem] theorem fldt_67_0 : fldt Try.prog 67 0 = some (0, 4) := by kernel_rfl
@[go_sem] theorem fldt_67_1 : fldt Try.prog 67 1 = some (1, 25) := by kernel_rfl
@[go_sem] theorem fldt_67_2 : fldt Try.prog 67 2 = some (5, 3) := by kernel_rfl
@[go_sem] theorem fldt_67_3 : fldt Try.prog 67 3 = some (6, 3) := by kernel_rfl
@[go_sem] theorem fldt_67_4 : fldt Try.prog 67 4 = some (7, 3) := by kernel_rfl
@[go_sem] theorem fldt_67_5 : fldt Try.prog 67 5 = some (8, 3) := by kernel_rfl
@[go_sem] theorem fldt_67_6 : fldt Try.prog 67 6 = some (9, 3) := by kernel_rfl
@[go_sem] theorem fldt_67_7 : fldt Try.prog 67 7 = some (10, 3) := by kernel_rfl
@[go_sem] theorem fldt_67_8 : fldt Try.prog 67 8 = some (11, 3) := by kernel_rfl
@[go_sem] theorem fldt_67_9 : fldt Try.prog 67 9 = some (12, 3) := by kernel_rfl
@[go_sem] theorem fldt_67_10 : fldt Try.prog 67 10 = some (13, 3) := by kernel_rfl
@[go_sem] theorem fldt_67_11 : fldt Try.prog 67 11 = some (14, 3) := by kernel_rfl
@[go_sem] theorem fldt_67_12 : fldt Try.prog 67 12 = some (15, 3) := by kernel_rfl
@[go_sem] theorem fldt_67_13 : fldt Try.prog 67 13 = some (16, 66) := by kernel_rfl
@[go_sem] theorem fldt_67_14 : fldt Try.prog 67 14 = some (17, 66) := by kernel_rfl
@[go_sem] theorem places_67 : places Try.prog 67 = some ([(0, 1), (1, 4), (5, 1), (6, 1), (7, 1), (8, 1), (9, 1), (10, 1), (11, 1), (12, 1), (13, 1), (14, 1), (15, 1), (16, 1), (17, 1)]) := by kernel_rfl
@[go_sem] theorem uis_68 : (Try.prog.underlying 68).isSome = true := by kernel_rfl
@[go_sem] theorem tyi_68 : tyi Try.prog 68 = some ⟨true, 18, 184, [Value.bool false, Value.int IntKind.i64 0, Value.string (ByteArray.mk #[]), Value.int IntKind.i64 0, Value.int IntKind.i64 0, Value.int IntKind.i64 0, Value.int IntKind.i64 0, Value.int IntKind.i64 0, Value.int IntKind.i64 0, Value.int IntKind.i64 0, Value.int IntKind.i64 0, Value.int IntKind.i64 0, Value.int IntKind.i64 0, Value.int IntKind.i64 0, Value.int IntKind.i64 0, Value.int IntKind.i64 0, Value.slice none 0 0, Value.slice none 0 0]⟩ := by kernel_rfl
@[go_sem] theorem fldt_68_0 : fldt Try.prog 68 0 = some (0, 4) := by kernel_rfl
@[go_sem] theorem fldt_68_1 : fldt Try.prog 68 1 = some (1, 25) := by kernel_rfl
@[go_sem] theorem fldt_68_2 : fldt Try.prog 68 2 = some (5, 3) := by kernel_rfl
@[go_sem] theorem fldt_68_3 : fldt Try.prog 68 3 = some (6, 3) := by kernel_rfl
@[go_sem] theorem fldt_68_4 : fldt Try.prog 68 4 = some (7, 3) := by kernel_rfl
@[go_sem] theorem fldt_68_5 : fldt Try.prog 68 5 = some (8, 3) := by kernel_rfl
@[go_sem] theorem fldt_68_6 : fldt Try.prog 68 6 = some (9, 3) := by kernel_rfl
@[go_sem] theorem fldt_68_7 : fldt Try.prog 68 7 = some (10, 3) := by kernel_rfl
@[go_sem] theorem fldt_68_8 : fldt Try.prog 68 8 = some (11, 3) := by kernel_rfl
@[go_sem] theorem fldt_68_9 : fldt Try.prog 68 9 = some (12, 3) := by kernel_rfl
@[go_sem] theorem fldt_68_10 : fldt Try.prog 68 10 = some (13, 3) := by kernel_rfl
@[go_sem] theorem fldt_68_11 : fldt Try.prog 68 11 = some (14, 3) := by kernel_rfl
@[go_sem] theorem fldt_68_12 : fldt Try.prog 68 12 = some (15, 3) := by kernel_rfl
@[go_sem] theorem fldt_68_13 : fldt Try.prog 68 13 = some (16, 66) := by kernel_rfl
@[go_sem] theorem fldt_68_14 : fldt Try.prog 68 14 = some (17, 66) := by kernel_rfl
@[go_sem] theorem places_68 : places Try.prog 68 = some ([(0, 1), (1, 4), (5, 1), (6, 1), (7, 1), (8, 1), (9, 1), (10, 1), (11, 1), (12, 1), (13, 1), (14, 1), (15, 1), (16, 1), (17, 1)]) := by kernel_rfl
@[go_sem] theorem uis_69 : (Try.prog.underlying 69).isSome = true := by kernel_rfl
@[go_sem] theorem tyi_69 : tyi Try.prog 69 = some ⟨false, 1, 8, [Value.nilFunc]⟩ := by kernel_rfl
@[go_sem] theorem uis_70 : (Try.prog.underlying 70).isSome = true := by kernel_rfl
@[go_sem] theorem tyi_70 : tyi Try.prog 70 = some ⟨false, 1, 8, [Value.nilFunc]⟩ := by kernel_rfl
@[go_sem] theorem uis_71 : (Try.prog.underlying 71).isSome = true := by kernel_rfl
@[go_sem] theorem tyi_71 : tyi Try.prog 71 = some ⟨true, 18, 184, [Value.bool false, Value.int IntKind.i64 0, Value.string (ByteArray.mk #[]), Value.int IntKind.i64 0, Value.int IntKind.i64 0, Value.int IntKind.i64 0, Value.int IntKind.i64 0, Value.int IntKind.i64 0, Value.int IntKind.i64 0, Value.int IntKind.i64 0, Value.int IntKind.i64 0, Value.int IntKind.i64 0, Value.int IntKind.i64 0, Value.int IntKind.i64 0, Value.int IntKind.i64 0, Value.int IntKind.i64 0, Value.slice none 0 0, Value.slice none 0 0]⟩ := by kernel_rfl
@[go_sem] theorem fldt_71_0 : fldt Try.prog 71 0 = some (0, 4) := by kernel_rfl
@[go_sem] theorem fldt_71_1 : fldt Try.prog 71 1 = some (1, 28) := by kernel_rfl
@[go_sem] theorem fldt_71_2 : fldt Try.prog 71 2 = some (5, 3) := by kernel_rfl
@[go_sem] theorem fldt_71_3 : fldt Try.prog 71 3 = some (6, 3) := by kernel_rfl
@[go_sem] theorem fldt_71_4 : fldt Try.prog 71 4 = some (7, 3) := by kernel_rfl
@[go_sem] theorem fldt_71_5 : fldt Try.prog 71 5 = some (8, 3) := by kernel_rfl
@[go_sem] theorem fldt_71_6 : fldt Try.prog 71 6 = some (9, 3) := by kernel_rfl
@[go_sem] theorem fldt_71_7 : fldt Try.prog 71 7 = some (10, 3) := by kernel_rfl
@[go_sem] theorem fldt_71_8 : fldt Try.prog 71 8 = some (11, 3) := by kernel_rfl
@[go_sem] theorem fldt_71_9 : fldt Try.prog 71 9 = some (12, 3) := by kernel_rfl
@[go_sem] theorem fldt_71_10 : fldt Try.prog 71 10 = some (13, 3) := by kernel_rfl
@[go_sem] theorem fldt_71_11 : fldt Try.prog 71 11 = some (14, 3) := by kernel_rfl
@[go_sem] theorem fldt_71_12 : fldt Try.prog 71 12 = some (15, 3) := by kernel_rfl
@[go_sem] theorem fldt_71_13 : fldt Try.prog 71 13 = some (16, 66) := by kernel_rfl
@[go_sem] theorem fldt_71_14 : fldt Try.prog 71 14 = some (17, 66) := by kernel_rfl
@[go_sem] theorem places_71 : places Try.prog 71 = some ([(0, 1), (1, 4), (5, 1), (6, 1), (7, 1), (8, 1), (9, 1), (10, 1), (11, 1), (12, 1), (13, 1), (14, 1), (15, 1), (16, 1), (17, 1)]) := by kernel_rfl
@[go_sem] theorem uis_72 : (Try.prog.underlying 72).isSome = true := by kernel_rfl
@[go_sem] theorem tyi_72 : tyi Try.prog 72 = some ⟨true, 18, 184, [Value.bool false, Value.int IntKind.i64 0, Value.string (ByteArray.mk #[]), Value.int IntKind.i64 0, Value.int IntKind.i64 0, Value.int IntKind.i64 0, Value.int IntKind.i64 0, Value.int IntKind.i64 0, Value.int IntKind.i64 0, Value.int IntKind.i64 0, Value.int IntKind.i64 0, Value.int IntKind.i64 0, Value.int IntKind.i64 0, Value.int IntKind.i64 0, Value.int IntKind.i64 0, Value.int IntKind.i64 0, Value.slice none 0 0, Value.slice none 0 0]⟩ := by kernel_rfl
@[go_sem] theorem fldt_72_0 : fldt Try.prog 72 0 = some (0, 4) := by kernel_rfl
@[go_sem] theorem fldt_72_1 : fldt Try.prog 72 1 = some (1, 28) := by kernel_rfl
@[go_sem] theorem fldt_72_2 : fldt Try.prog 72 2 = some (5, 3) := by kernel_rfl
@[go_sem] theorem fldt_72_3 : fldt Try.prog 72 3 = some (6, 3) := by kernel_rfl
@[go_sem] theorem fldt_72_4 : fldt Try.prog 72 4 = some (7, 3) := by kernel_rfl
@[go_sem] theorem fldt_72_5 : fldt Try.prog 72 5 = some (8, 3) := by kernel_rfl
@[go_sem] theorem fldt_72_6 : fldt Try.prog 72 6 = some (9, 3) := by kernel_rfl
@[go_sem] theorem fldt_72_7 : fldt Try.prog 72 7 = some (10, 3) := by kernel_rfl
@[go_sem] theorem fldt_72_8 : fldt Try.prog 72 8 = some (11, 3) := by kernel_rfl
@[go_sem] theorem fldt_72_9 : fldt Try.prog 72 9 = some (12, 3) := by kernel_rfl
@[go_sem] theorem fldt_72_10 : fldt Try.prog 72 10 = some (13, 3) := by kernel_rfl
@[go_sem] theorem fldt_72_11 : fldt Try.prog 72 11 = some (14, 3) := by kernel_rfl
@[go_sem] theorem fldt_72_12 : fldt Try.prog 72 12 = some (15, 3) := by kernel_rfl
@[go_sem] theorem fldt_72_13 : fldt Try.prog 72 13 = some (16, 66) := by kernel_rfl
@[go_sem] theorem fldt_72_14 : fldt Try.prog 72 14 = some (17, 66) := by kernel_rfl
@[go_sem] theorem places_72 : places Try.prog 72 = some ([(0, 1), (1, 4), (5, 1), (6, 1), (7, 1), (8, 1), (9, 1), (10, 1), (11, 1), (12, 1), (13, 1), (14, 1), (15, 1), (16, 1), (17, 1)]) := by kernel_rfl
@[go_sem] theorem uis_73 : (Try.prog.underlying 73).isSome = true := by kernel_rfl
@[go_sem] theorem tyi_73 : tyi Try.prog 73 = some ⟨false, 1, 8, [Value.nilFunc]⟩ := by kernel_rfl
@[go_sem] theorem uis_74 : (Try.prog.underlying 74).isSome = true := by kernel_rfl
@[go_sem] theorem tyi_74 : tyi Try.prog 74 = some ⟨false, 1, 8, [Value.nilFunc]⟩ := by kernel_rfl
@[go_sem] theorem uis_75 : (Try.prog.underlying 75).isSome = true := by kernel_rfl
@[go_sem] theorem tyi_75 : tyi Try.prog 75 = some ⟨false, 1, 8, [Value.nilFunc]⟩ := by kernel_rfl
@[go_sem] theorem uis_76 : (Try.prog.underlying 76).isSome = true := by kernel_rfl
@[go_sem] theorem tyi_76 : tyi Try.prog 76 = some ⟨false, 1, 8, [Value.nilFunc]⟩ := by kernel_rfl
@[go_sem] theorem uis_77 : (Try.prog.underlying 77).isSome = true := by kernel_rfl
@[go_sem] theorem tyi_77 : tyi Try.prog 77 = some ⟨false, 1, 24, [Value.slice none 0 0]⟩ := by kernel_rfl
@[go_sem] theorem elt_77 : elt Try.prog 77 = some 9 := by kernel_rfl
@[go_sem] theorem arrt_77 : arrt Try.prog 77 = none := by kernel_rfl
@[go_sem] theorem uis_78 : (Try.prog.underlying 78).isSome = true := by kernel_rfl
@[go_sem] theorem tyi_78 : tyi Try.prog 78 = some ⟨true, 16, 256, [Value.string (ByteArray.mk #[]), Value.string (ByteArray.mk #[]), Value.string (ByteArray.mk #[]), Value.string (ByteArray.mk #[]), Value.string (ByteArray.mk #[]), Value.string (ByteArray.mk #[]), Value.string (ByteArray.mk #[]), Value.string (ByteArray.mk #[]), Value.string (ByteArray.mk #[]), Value.string (ByteArray.mk #[]), Value.string (ByteArray.mk #[]), Value.string (ByteArray.mk #[]), Value.string (ByteArray.mk #[]), Value.string (ByteArray.mk #[]), Value.string (ByteArray.mk #[]), Value.string (ByteArray.mk #[])]⟩ := by kernel_rfl
@[go_sem] theorem arrt_78 : arrt Try.prog 78 = some (16, 9) := by kernel_rfl
@[go_sem] theorem places_78 : places Try.prog 78 = none := by kernel_rfl
@[go_sem] theorem uis_79 : (Try.prog.underlying 79).isSome = true := by kernel_rfl
@[go_sem] theorem tyi_79 : tyi Try.prog 79 = some ⟨false, 1, 8, [Value.nilFunc]⟩ := by kernel_rfl
@[go_sem] theorem uis_80 : (Try.prog.underlying 80).isSome = true := by kernel_rfl
@[go_sem] theorem tyi_80 : tyi Try.prog 80 = some ⟨false, 1, 8, [Value.nilFunc]⟩ := by kernel_rfl
@[go_sem] theorem uis_81 : (Try.prog.underlying 81).isSome = true := by kernel_rfl
@[go_sem] theorem tyi_81 : tyi Try.prog 81 = some ⟨false, 1, 8, [Value.nilFunc]⟩ := by kernel_rfl
@[go_sem] theorem uis_82 : (Try.prog.underlying 82).isSome = true := by kernel_rfl
@[go_sem] theorem tyi_82 : tyi Try.prog 82 = some ⟨true, 2, 24, [Value.string (ByteArray.mk #[]), Value.int IntKind.i64 0]⟩ := by kernel_rfl
@[go_sem] theorem fldt_82_0 : fldt Try.prog 82 0 = some (0, 9) := by kernel_rfl
@[go_sem] theorem fldt_82_1 : fldt Try.prog 82 1 = some (1, 3) := by kernel_rfl
@[go_sem] theorem places_82 : places Try.prog 82 = some ([(0, 1), (1, 1)]) := by kernel_rfl
@[go_sem] theorem uis_83 : (Try.prog.underlying 83).isSome = true := by kernel_rfl
@[go_sem] theorem tyi_83 : tyi Try.prog 83 = some ⟨true, 2, 24, [Value.string (ByteArray.mk #[]), Value.int IntKind.i64 0]⟩ := by kernel_rfl
@[go_sem] theorem fldt_83_0 : fldt Try.prog 83 0 = some (0, 9) := by kernel_rfl
@[go_sem] theorem fldt_83_1 : fldt Try.prog 83 1 = some (1, 3) := by kernel_rfl
@[go_sem] theorem places_83 : places Try.prog 83 = some ([(0, 1), (1, 1)]) := by kernel_rfl
@[go_sem] theorem uis_84 : (Try.prog.underlying 84).isSome = true := by kernel_rfl
@[go_sem] theorem tyi_84 : tyi Try.prog 84 = some ⟨false, 1, 8, [Value.nilFunc]⟩ := by kernel_rfl
@[go_sem] theorem uis_85 : (Try.prog.underlying 85).isSome = true := by kernel_rfl
@[go_sem] theorem tyi_85 : tyi Try.prog 85 = some ⟨false, 1, 8, [Value.nilFunc]⟩ := by kernel_rfl
@[go_sem] theorem uis_86 : (Try.prog.underlying 86).isSome = true := by kernel_rfl
@[go_sem] theorem tyi_86 : tyi Try.prog 86 = some ⟨false, 1, 8, [Value.nilFunc]⟩ := by kernel_rfl
@[go_sem] theorem uis_87 : (Try.prog.underlying 87).isSome = true := by kernel_rfl
@[go_sem] theorem tyi_87 : tyi Try.prog 87 = some ⟨false, 1, 8, [Value.nilFunc]⟩ := by kernel_rfl
@[go_sem] theorem uis_88 : (Try.prog.underlying 88).isSome = true := by kernel_rfl
@[go_sem] theorem tyi_88 : tyi Try.prog 88 = some ⟨false, 1, 8, [Value.nilFunc]⟩ := by kernel_rfl
@[go_sem] theorem uis_89 : (Try.prog.underlying 89).isSome = true := by kernel_rfl
@[go_sem] theorem tyi_89 : tyi Try.prog 89 = some ⟨false, 1, 24, [Value.slice none 0 0]⟩ := by kernel_rfl
@[go_sem] theorem elt_89 : elt Try.prog 89 = some 25 := by kernel_rfl
@[go_sem] theorem arrt_89 : arrt Try.prog 89 = none := by kernel_rfl
@[go_sem] theorem uis_90 : (Try.prog.underlying 90).isSome = true := by kernel_rfl
@[go_sem] theorem tyi_90 : tyi Try.prog 90 = some ⟨true, 1, 24, [Value.slice none 0 0]⟩ := by kernel_rfl
@[go_sem] theorem fldt_90_0 : fldt Try.prog 90 0 = some (0, 89) := by kernel_rfl
@[go_sem] theorem places_90 : places Try.prog 90 = some ([(0, 1)]) := by kernel_rfl
@[go_sem] theorem uis_91 : (Try.prog.underlying 91).isSome = true := by kernel_rfl
@[go_sem] theorem tyi_91 : tyi Try.prog 91 = some ⟨true, 1, 24, [Value.slice none 0 0]⟩ := by kernel_rfl
@[go_sem] theorem fldt_91_0 : fldt Try.prog 91 0 = some (0, 89) := by kernel_rfl
@[go_sem] theorem places_91 : places Try.prog 91 = some ([(0, 1)]) := by kernel_rfl
@[go_sem] theorem uis_92 : (Try.prog.underlying 92).isSome = true := by kernel_rfl
@[go_sem] theorem tyi_92 : tyi Try.prog 92 = some ⟨false, 1, 24, [Value.slice none 0 0]⟩ := by kernel_rfl
@[go_sem] theorem elt_92 : elt Try.prog 92 = some 28 := by kernel_rfl
@[go_sem] theorem arrt_92 : arrt Try.prog 92 = none := by kernel_rfl
@[go_sem] theorem uis_93 : (Try.prog.underlying 93).isSome = true := by kernel_rfl
@[go_sem] theorem tyi_93 : tyi Try.prog 93 = some ⟨true, 1, 24, [Value.slice none 0 0]⟩ := by kernel_rfl
@[go_sem] theorem fldt_93_0 : fldt Try.prog 93 0 = some (0, 92) := by kernel_rfl
@[go_sem] theorem places_93 : places Try.prog 93 = some ([(0, 1)]) := by kernel_rfl
@[go_sem] theorem uis_94 : (Try.prog.underlying 94).isSome = true := by kernel_rfl
@[go_sem] theorem tyi_94 : tyi Try.prog 94 = some ⟨true, 1, 24, [Value.slice none 0 0]⟩ := by kernel_rfl
@[go_sem] theorem fldt_94_0 : fldt Try.prog 94 0 = some (0, 92) := by kernel_rfl
@[go_sem] theorem places_94 : places Try.prog 94 = some ([(0, 1)]) := by kernel_rfl
@[go_sem] theorem uis_95 : (Try.prog.underlying 95).isSome = true := by kernel_rfl
@[go_sem] theorem tyi_95 : tyi Try.prog 95 = some ⟨false, 1, 8, [Value.nilFunc]⟩ := by kernel_rfl
@[go_sem] theorem uis_96 : (Try.prog.underlying 96).isSome = true := by kernel_rfl
@[go_sem] theorem tyi_96 : tyi Try.prog 96 = some ⟨false, 1, 8, [Value.nilFunc]⟩ := by kernel_rfl
@[go_sem] theorem uis_97 : (Try.prog.underlying 97).isSome = true := by kernel_rfl
@[go_sem] theorem tyi_97 : tyi Try.prog 97 = some ⟨false, 1, 8, [Value.nilFunc]⟩ := by kernel_rfl
@[go_sem] theorem uis_98 : (Try.prog.underlying 98).isSome = true := by kernel_rfl
@[go_sem] theorem tyi_98 : tyi Try.prog 98 = some ⟨false, 1, 8, [Value.nilFunc]⟩ := by kernel_rfl
@[go_sem] theorem uis_99 : (Try.prog.underlying 99).isSome = true := by kernel_rfl
@[go_sem] theorem tyi_99 : tyi Try.prog 99 = some ⟨true, 13, 128, [Value.int IntKind.i64 0, Value.int IntKind.i64 0, Value.int IntKind.i64 0, Value.int IntKind.i64 0, Value.int IntKind.i64 0, Value.string (ByteArray.mk #[]), Value.int IntKind.i64 0, Value.int IntKind.i64 0, Value.int IntKind.i64 0, Value.int IntKind.i64 0, Value.int IntKind.i64 0, Value.int IntKind.i64 0, Value.slice none 0 0]⟩ := by kernel_rfl
@[go_sem] theorem fldt_99_0 : fldt Try.prog 99 0 = some (0, 3) := by kernel_rfl
@[go_sem] theorem fldt_99_1 : fldt Try.prog 99 1 = some (1, 3) := by kernel_rfl
@[go_sem] theorem fldt_99_2 : fldt Try.prog 99 2 = some (2, 3) := by kernel_rfl
@[go_sem] theorem fldt_99_3 : fldt Try.prog 99 3 = some (3, 3) := by kernel_rfl
@[go_sem] theorem fldt_99_4 : fldt Try.prog 99 4 = some (4, 25) := by kernel_rfl
@[go_sem] theorem fldt_99_5 : fldt Try.prog 99 5 = some (8, 3) := by kernel_rfl
@[go_sem] theorem fldt_99_6 : fldt Try.prog 99 6 = some (9, 3) := by kernel_rfl
@[go_sem] theorem fldt_99_7 : fldt Try.prog 99 7 = some (10, 3) := by kernel_rfl
@[go_sem] theorem fldt_99_8 : fldt Try.prog 99 8 = some (11, 3) := by kernel_rfl
@[go_sem] theorem fldt_99_9 : fldt Try.prog 99 9 = some (12, 32) := by kernel_rfl
@[go_sem] theorem places_99 : places Try.prog 99 = some ([(0, 1), (1, 1), (2, 1), (3, 1), (4, 4), (8, 1), (9, 1), (10, 1), (11, 1), (12, 1)]) := by kernel_rfl
@[go_sem] theorem uis_100 : (Try.prog.underlying 100).isSome = true := by kernel_rfl
@[go_sem] theorem tyi_100 : tyi Try.prog 100 = some ⟨true, 13, 128, [Value.int IntKind.i64 0, Value.int IntKind.i64 0, Value.int IntKind.i64 0, Value.int IntKind.i64 0, Value.int IntKind.i64 0, Value.string (ByteArray.mk #[]), Value.int IntKind.i64 0, Value.int IntKind.i64 0, Value.int IntKind.i64 0, Value.int IntKind.i64 0, Value.int IntKind.i64 0, Value.int IntKind.i64 0, Value.slice none 0 0]⟩ := by kernel_rfl
@[go_sem] theorem fldt_100_0 : fldt Try.prog 100 0 = some (0, 3) := by kernel_rfl
@[go_sem] theorem fldt_100_1 : fldt Try.prog 100 1 = some (1, 3) := by kernel_rfl
@[go_sem] theorem fldt_100_2 : fldt Try.prog 100 2 = some (2, 3) := by kernel_rfl
@[go_sem] theorem fldt_100_3 : fldt Try.prog 100 3 = some (3, 3) := by kernel_rfl
@[go_sem] theorem fldt_100_4 : fldt Try.prog 100 4 = some (4, 25) := by kernel_rfl
@[go_sem] theorem fldt_100_5 : fldt Try.prog 100 5 = some (8, 3) := by kernel_rfl
@[go_sem] theorem fldt_100_6 : fldt Try.prog 100 6 = some (9, 3) := by kernel_rfl
@[go_sem] theorem fldt_100_7 : fldt Try.prog 100 7 = some (10, 3) := by kernel_rfl
@[go_sem] theorem fldt_100_8 : fldt Try.prog 100 8 = some (11, 3) := by kernel_rfl
@[go_sem] theorem fldt_100_9 : fldt Try.prog 100 9 = some (12, 32) := by kernel_rfl
@[go_sem] theorem places_100 : places Try.prog 100 = some ([(0, 1), (1, 1), (2, 1), (3, 1), (4, 4), (8, 1), (9, 1), (10, 1), (11, 1), (12, 1)]) := by kernel_rfl
@[go_sem] theorem uis_101 : (Try.prog.underlying 101).isSome = true := by kernel_rfl
@[go_sem] theorem tyi_101 : tyi Try.prog 101 = some ⟨true, 13, 128, [Value.int IntKind.i64 0, Value.int IntKind.i64 0, Value.int IntKind.i64 0, Value.int IntKind.i64 0, Value.int IntKind.i64 0, Value.string (ByteArray.mk #[]), Value.int IntKind.i64 0, Value.int IntKind.i64 0, Value.int IntKind.i64 0, Value.int IntKind.i64 0, Value.int IntKind.i64 0, Value.int IntKind.i64 0, Value.slice none 0 0]⟩ := by kernel_rfl
@[go_sem] theorem fldt_101_0 : fldt Try.prog 101 0 = some (0, 3) := by kernel_rfl
@[go_sem] theorem fldt_101_1 : fldt Try.prog 101 1 = some (1, 3) := by kernel_rfl
@[go_sem] theorem fldt_101_2 : fldt Try.prog 101 2 = some (2, 3) := by kernel_rfl
@[go_sem] theorem fldt_101_3 : fldt Try.prog 101 3 = some (3, 3) := by kernel_rfl
@[go_sem] theorem fldt_101_4 : fldt Try.prog 101 4 = some (4, 28) := by kernel_rfl
@[go_sem] theorem fldt_101_5 : fldt Try.prog 101 5 = some (8, 3) := by kernel_rfl
@[go_sem] theorem fldt_101_6 : fldt Try.prog 101 6 = some (9, 3) := by kernel_rfl
@[go_sem] theorem fldt_101_7 : fldt Try.prog 101 7 = some (10, 3) := by kernel_rfl
@[go_sem] theorem fldt_101_8 : fldt Try.prog 101 8 = some (11, 3) := by kernel_rfl
@[go_sem] theorem fldt_101_9 : fldt Try.prog 101 9 = some (12, 38) := by kernel_rfl
@[go_sem] theorem places_101 : places Try.prog 101 = some ([(0, 1), (1, 1), (2, 1), (3, 1), (4, 4), (8, 1), (9, 1), (10, 1), (11, 1), (12, 1)]) := by kernel_rfl
@[go_sem] theorem uis_102 : (Try.prog.underlying 102).isSome = true := by kernel_rfl
@[go_sem] theorem tyi_102 : tyi Try.prog 102 = some ⟨true, 13, 128, [Value.int IntKind.i64 0, Value.int IntKind.i64 0, Value.int IntKind.i64 0, Value.int IntKind.i64 0, Value.int IntKind.i64 0, Value.string (ByteArray.mk #[]), Value.int IntKind.i64 0, Value.int IntKind.i64 0, Value.int IntKind.i64 0, Value.int IntKind.i64 0, Value.int IntKind.i64 0, Value.int IntKind.i64 0, Value.slice none 0 0]⟩ := by kernel_rfl
@[go_sem] theorem fldt_102_0 : fldt Try.prog 102 0 = some (0, 3) := by kernel_rfl
@[go_sem] theorem fldt_102_1 : fldt Try.prog 102 1 = some (1, 3) := by kernel_rfl
@[go_sem] theorem fldt_102_2 : fldt Try.prog 102 2 = some (2, 3) := by kernel_rfl
@[go_sem] theorem fldt_102_3 : fldt Try.prog 102 3 = some (3, 3) := by kernel_rfl
@[go_sem] theorem fldt_102_4 : fldt Try.prog 102 4 = some (4, 28) := by kernel_rfl
@[go_sem] theorem fldt_102_5 : fldt Try.prog 102 5 = some (8, 3) := by kernel_rfl
@[go_sem] theorem fldt_102_6 : fldt Try.prog 102 6 = some (9, 3) := by kernel_rfl
@[go_sem] theorem fldt_102_7 : fldt Try.prog 102 7 = some (10, 3) := by kernel_rfl
@[go_sem] theorem fldt_102_8 : fldt Try.prog 102 8 = some (11, 3) := by kernel_rfl
@[go_sem] theorem fldt_102_9 : fldt Try.prog 102 9 = some (12, 38) := by kernel_rfl
@[go_sem] theorem places_102 : places Try.prog 102 = some ([(0, 1), (1, 1), (2, 1), (3, 1), (4, 4), (8, 1), (9, 1), (10, 1), (11, 1), (12, 1)]) := by kernel_rfl
@[go_sem] theorem uis_103 : (Try.prog.underlying 103).isSome = true := by kernel_rfl
@[go_sem] theorem tyi_103 : tyi Try.prog 103 = some ⟨false, 1, 8, [Value.nilFunc]⟩ := by kernel_rfl
@[go_sem] theorem uis_104 : (Try.prog.underlying 104).isSome = true := by kernel_rfl
@[go_sem] theorem tyi_104 : tyi Try.prog 104 = some ⟨false, 1, 8, [Value.nilFunc]⟩ := by kernel_rfl
@[go_sem] theorem uis_105 : (Try.prog.underlying 105).isSome = true := by kernel_rfl
@[go_sem] theorem tyi_105 : tyi Try.prog 105 = some ⟨false, 1, 8, [Value.nilFunc]⟩ := by kernel_rfl
@[go_sem] theorem uis_106 : (Try.prog.underlying 106).isSome = true := by kernel_rfl
@[go_sem] theorem tyi_106 : tyi Try.prog 106 = some ⟨false, 1, 8, [Value.nilFunc]⟩ := by kernel_rfl
@[go_sem] theorem uis_107 : (Try.prog.underlying 107).isSome = true := by kernel_rfl
@[go_sem] theorem tyi_107 : tyi Try.prog 107 = some ⟨false, 1, 8, [Value.nilFunc]⟩ := by kernel_rfl
@[go_sem] theorem uis_108 : (Try.prog.underlying 108).isSome = true := by kernel_rfl
@[go_sem] theorem tyi_108 : tyi Try.prog 108 = some ⟨false, 1, 8, [Value.nilFunc]⟩ := by kernel_rfl
@[go_sem] theorem uis_109 : (Try.prog.underlying 109).isSome = true := by kernel_rfl
@[go_sem] theorem tyi_109 : tyi Try.prog 109 = some ⟨false, 1, 8, [Value.nilFunc]⟩ := by kernel_rfl
@[go_sem] theorem uis_110 : (Try.prog.underlying 110).isSome = true := by kernel_rfl
@[go_sem] theorem tyi_110 : tyi Try.prog 110 = some ⟨false, 1, 8, [Value.nilFunc]⟩ := by kernel_rfl
@[go_sem] theorem uis_111 : (Try.prog.underlying 111).isSome = true := by kernel_rfl
@[go_sem] theorem tyi_111 : tyi Try.prog 111 = some ⟨false, 1, 8, [Value.nilFunc]⟩ := by kernel_rfl
@[go_sem] theorem uis_112 : (Try.prog.underlying 112).isSome = true := by kernel_rfl
@[go_sem] theorem tyi_112 : tyi Try.prog 112 = some ⟨false, 1, 8, [Value.nilFunc]⟩ := by kernel_rfl
@[go_sem] theorem uis_113 : (Try.prog.underlying 113).isSome = true := by kernel_rfl
@[go_sem] theorem tyi_113 : tyi Try.prog 113 = some ⟨true, 2, 24, [Value.string (ByteArray.mk #[]), Value.int IntKind.i64 0]⟩ := by kernel_rfl
@[go_sem] theorem fldt_113_0 : fldt Try.prog 113 0 = some (0, 9) := by kernel_rfl
@[go_sem] theorem fldt_113_1 : fldt Try.prog 113 1 = some (1, 3) := by kernel_rfl
@[go_sem] theorem places_113 : places Try.prog 113 = some ([(0, 1), (1, 1)]) := by kernel_rfl
@[go_sem] theorem uis_114 : (Try.prog.underlying 114).isSome = true := by kernel_rfl
@[go_sem] theorem tyi_114 : tyi Try.prog 114 = some ⟨false, 1, 8, [Value.nilFunc]⟩ := by kernel_rfl
@[go_sem] theorem uis_115 : (Try.prog.underlying 115).isSome = true := by kernel_rfl
@[go_sem] theorem tyi_115 : tyi Try.prog 115 = some ⟨true, 10, 88, [Value.string (ByteArray.mk #[]), Value.int IntKind.i64 0, Value.int IntKind.i64 0, Value.bool false, Value.int IntKind.i64 0, Value.int IntKind.i64 0, Value.int IntKind.i64 0, Value.int IntKind.i64 0, Value.int IntKind.i64 0, Value.int IntKind.i64 0]⟩ := by kernel_rfl
@[go_sem] theorem fldt_115_0 : fldt Try.prog 115 0 = some (0, 9) := by kernel_rfl
@[go_sem] theorem fldt_115_1 : fldt Try.prog 115 1 = some (1, 3) := by kernel_rfl
@[go_sem] theorem fldt_115_2 : fldt Try.prog 115 2 = some (2, 3) := by kernel_rfl
@[go_sem] theorem fldt_115_3 : fldt Try.prog 115 3 = some (3, 4) := by kernel_rfl
@[go_sem] theorem fldt_115_4 : fldt Try.prog 115 4 = some (4, 3) := by kernel_rfl
@[go_sem] theorem fldt_115_5 : fldt Try.prog 115 5 = some (5, 3) := by kernel_rfl
@[go_sem] theorem fldt_115_6 : fldt Try.prog 115 6 = some (6, 3) := by kernel_rfl
@[go_sem] theorem fldt_115_7 : fldt Try.prog 115 7 = some (7, 3) := by kernel_rfl
@[go_sem] theorem fldt_115_8 : fldt Try.prog 115 8 = some (8, 3) := by kernel_rfl
@[go_sem] theorem fldt_115_9 : fldt Try.prog 115 9 = some (9, 3) := by kernel_rfl
@[go_sem] theorem places_115 : places Try.prog 115 = some ([(0, 1), (1, 1), (2, 1), (3, 1), (4, 1), (5, 1), (6, 1), (7, 1), (8, 1), (9, 1)]) := by kernel_rfl
@[go_sem] theorem uis_116 : (Try.prog.underlying 116).isSome = true := by kernel_rfl
@[go_sem] theorem tyi_116 : tyi Try.prog 116 = some ⟨false, 1, 8, [Value.nilFunc]⟩ := by kernel_rfl
@[go_sem] theorem uis_117 : (Try.prog.underlying 117).isSome = true := by kernel_rfl
@[go_sem] theorem tyi_117 : tyi Try.prog 117 = some ⟨false, 1, 8, [Value.nilFunc]⟩ := by kernel_rfl
@[go_sem] theorem uis_118 : (Try.prog.underlying 118).isSome = true := by kernel_rfl
@[go_sem] theorem tyi_118 : tyi Try.prog 118 = some ⟨false, 1, 8, [Value.nilFunc]⟩ := by kernel_rfl
@[go_sem] theorem uis_119 : (Try.prog.underlying 119).isSome = true := by kernel_rfl
@[go_sem] theorem tyi_119 : tyi Try.prog 119 = some ⟨false, 1, 8, [Value.nilFunc]⟩ := by kernel_rfl
@[go_sem] theorem uis_120 : (Try.prog.underlying 120).isSome = true := by kernel_rfl
@[go_sem] theorem tyi_120 : tyi Try.prog 120 = some ⟨false, 1, 8, [Value.nilFunc]⟩ := by kernel_rfl
@[go_sem] theorem uis_121 : (Try.prog.underlying 121).isSome = true := by kernel_rfl
@[go_sem] theorem tyi_121 : tyi Try.prog 121 = some ⟨false, 1, 8, [Value.nilFunc]⟩ := by kernel_rfl
@[go_sem] theorem uis_122 : (Try.prog.underlying 122).isSome = true := by kernel_rfl
@[go_sem] theorem tyi_122 : tyi Try.prog 122 = some ⟨false, 1, 8, [Value.nilFunc]⟩ := by kernel_rfl
@[go_sem] theorem uis_123 : (Try.prog.underlying 123).isSome = true := by kernel_rfl
@[go_sem] theorem tyi_123 : tyi Try.prog 123 = some ⟨false, 1, 8, [Value.nilFunc]⟩ := by kernel_rfl
@[go_sem] theorem uis_124 : (Try.prog.underlying 124).isSome = true := by kernel_rfl
@[go_sem] theorem tyi_124 : tyi Try.prog 124 = some ⟨false, 1, 8, [Value.nilFunc]⟩ := by kernel_rfl
@[go_sem] theorem uis_125 : (Try.prog.underlying 125).isSome = true := by kernel_rfl
@[go_sem] theorem tyi_125 : tyi Try.prog 125 = some ⟨true, 4, 40, [Value.pointer none, Value.pointer none, Value.pointer none, Value.string (ByteArray.mk #[])]⟩ := by kernel_rfl
@[go_sem] theorem fldt_125_0 : fldt Try.prog 125 0 = some (0, 17) := by kernel_rfl
@[go_sem] theorem fldt_125_1 : fldt Try.prog 125 1 = some (1, 17) := by kernel_rfl
@[go_sem] theorem fldt_125_2 : fldt Try.prog 125 2 = some (2, 17) := by kernel_rfl
@[go_sem] theorem fldt_125_3 : fldt Try.prog 125 3 = some (3, 9) := by kernel_rfl
@[go_sem] theorem places_125 : places Try.prog 125 = some ([(0, 1), (1, 1), (2, 1), (3, 1)]) := by kernel_rfl
@[go_sem] theorem uis_126 : (Try.prog.underlying 126).isSome = true := by kernel_rfl
@[go_sem] theorem tyi_126 : tyi Try.prog 126 = some ⟨true, 4, 40, [Value.pointer none, Value.pointer none, Value.pointer none, Value.string (ByteArray.mk #[])]⟩ := by kernel_rfl
@[go_sem] theorem fldt_126_0 : fldt Try.prog 126 0 = some (0, 17) := by kernel_rfl
@[go_sem] theorem fldt_126_1 : fldt Try.prog 126 1 = some (1, 17) := by kernel_rfl
@[go_sem] theorem fldt_126_2 : fldt Try.prog 126 2 = some (2, 17) := by kernel_rfl
@[go_sem] theorem fldt_126_3 : fldt Try.prog 126 3 = some (3, 9) := by kernel_rfl
@[go_sem] theorem places_126 : places Try.prog 126 = some ([(0, 1), (1, 1), (2, 1), (3, 1)]) := by kernel_rfl
@[go_sem] theorem uis_127 : (Try.prog.underlying 127).isSome = true := by kernel_rfl
@[go_sem] theorem tyi_127 : tyi Try.prog 127 = some ⟨true, 0, 0, []⟩ := by kernel_rfl
@[go_sem] theorem arrt_127 : arrt Try.prog 127 = some (0, 16) := by kernel_rfl
@[go_sem] theorem places_127 : places Try.prog 127 = none := by kernel_rfl
@[go_sem] theorem uis_128 : (Try.prog.underlying 128).isSome = true := by kernel_rfl
@[go_sem] theorem tyi_128 : tyi Try.prog 128 = some ⟨true, 0, 0, []⟩ := by kernel_rfl
@[go_sem] theorem fldt_128_0 : fldt Try.prog 128 0 = some (0, 127) := by kernel_rfl
@[go_sem] theorem places_128 : places Try.prog 128 = some ([(0, 0)]) := by kernel_rfl
@[go_sem] theorem uis_129 : (Try.prog.underlying 129).isSome = true := by kernel_rfl
@[go_sem] theorem tyi_129 : tyi Try.prog 129 = some ⟨true, 0, 0, []⟩ := by kernel_rfl
@[go_sem] theorem fldt_129_0 : fldt Try.prog 129 0 = some (0, 127) := by kernel_rfl
@[go_sem] theorem places_129 : places Try.prog 129 = some ([(0, 0)]) := by kernel_rfl
@[go_sem] theorem uis_130 : (Try.prog.underlying 130).isSome = true := by kernel_rfl
@[go_sem] theorem tyi_130 : tyi Try.prog 130 = some ⟨false, 1, 8, [Value.nilFunc]⟩ := by kernel_rfl
@[go_sem] theorem uis_131 : (Try.prog.underlying 131).isSome = true := by kernel_rfl
@[go_sem] theorem tyi_131 : tyi Try.prog 131 = some ⟨false, 1, 4, [Value.int IntKind.u32 0]⟩ := by kernel_rfl
@[go_sem] theorem intKd_131 : intKd Try.prog 131 = some IntKind.u32 := by kernel_rfl
@[go_sem] theorem uis_132 : (Try.prog.underlying 132).isSome = true := by kernel_rfl
@[go_sem] theorem tyi_132 : tyi Try.prog 132 = some ⟨false, 1, 1, [Value.int IntKind.u8 0]⟩ := by kernel_rfl
@[go_sem] theorem intKd_132 : intKd Try.prog 132 = some IntKind.u8 := by kernel_rfl
@[go_sem] theorem uis_133 : (Try.prog.underlying 133).isSome = true := by kernel_rfl
@[go_sem] theorem tyi_133 : tyi Try.prog 133 = some ⟨false, 1, 1, [Value.int IntKind.u8 0]⟩ := by kernel_rfl
@[go_sem] theorem intKd_133 : intKd Try.prog 133 = some IntKind.u8 := by kernel_rfl
@[go_sem] theorem uis_134 : (Try.prog.underlying 134).isSome = true := by kernel_rfl
@[go_sem] theorem tyi_134 : tyi Try.prog 134 = some ⟨false, 1, 8, [Value.nilFunc]⟩ := by kernel_rfl
@[go_sem] theorem uis_135 : (Try.prog.underlying 135).isSome = true := by kernel_rfl
@[go_sem] theorem tyi_135 : tyi Try.prog 135 = some ⟨false, 1, 8, [Value.pointer none]⟩ := by kernel_rfl
@[go_sem] theorem uis_136 : (Try.prog.underlying 136).isSome = true := by kernel_rfl
@[go_sem] theorem tyi_136 : tyi Try.prog 136 = some ⟨false, 1, 4, [Value.int IntKind.i32 0]⟩ := by kernel_rfl
@[go_sem] theorem intKd_136 : intKd Try.prog 136 = some IntKind.i32 := by kernel_rfl
@[go_sem] theorem uis_137 : (Try.prog.underlying 137).isSome = true := by kernel_rfl
@[go_sem] theorem tyi_137 : tyi Try.prog 137 = some ⟨false, 1, 4, [Value.int IntKind.i32 0]⟩ := by kernel_rfl
@[go_sem] theorem intKd_137 : intKd Try.prog 137 = some IntKind.i32 := by kernel_rfl
@[go_sem] theorem uis_138 : (Try.prog.underlying 138).isSome = true := by kernel_rfl
@[go_sem] theorem tyi_138 : tyi Try.prog 138 = some ⟨true, 11, 48, [Value.int IntKind.u64 0, Value.int IntKind.u64 0, Value.int IntKind.u32 0, Value.int IntKind.u8 0, Value.int IntKind.u8 0, Value.int IntKind.u8 0, Value.int IntKind.u8 0, Value.nilFunc, Value.pointer none, Value.int IntKind.i32 0, Value.int IntKind.i32 0]⟩ := by kernel_rfl
@[go_sem] theorem fldt_138_0 : fldt Try.prog 138 0 = some (0, 12) := by kernel_rfl
@[go_sem] theorem fldt_138_1 : fldt Try.prog 138 1 = some (1, 12) := by kernel_rfl
@[go_sem] theorem fldt_138_2 : fldt Try.prog 138 2 = some (2, 131) := by kernel_rfl
@[go_sem] theorem fldt_138_3 : fldt Try.prog 138 3 = some (3, 132) := by kernel_rfl
@[go_sem] theorem fldt_138_4 : fldt Try.prog 138 4 = some (4, 5) := by kernel_rfl
@[go_sem] theorem fldt_138_5 : fldt Try.prog 138 5 = some (5, 5) := by kernel_rfl
@[go_sem] theorem fldt_138_6 : fldt Try.prog 138 6 = some (6, 133) := by kernel_rfl
@[go_sem] theorem fldt_138_7 : fldt Try.prog 138 7 = some (7, 134) := by kernel_rfl
@[go_sem] theorem fldt_138_8 : fldt Try.prog 138 8 = some (8, 135) := by kernel_rfl
@[go_sem] theorem fldt_138_9 : fldt Try.prog 138 9 = some (9, 136) := by kernel_rfl
@[go_sem] theorem fldt_138_10 : fldt Try.prog 138 10 = some (10, 137) := by kernel_rfl
@[go_sem] theorem places_138 : places Try.prog 138 = some ([(0, 1), (1, 1), (2, 1), (3, 1), (4, 1), (5, 1), (6, 1), (7, 1), (8, 1), (9, 1), (10, 1)]) := by kernel_rfl
@[go_sem] theorem uis_139 : (Try.prog.underlying 139).isSome = true := by kernel_rfl
@[go_sem] theorem tyi_139 : tyi Try.prog 139 = some ⟨true, 11, 48, [Value.int IntKind.u64 0, Value.int IntKind.u64 0, Value.int IntKind.u32 0, Value.int IntKind.u8 0, Value.int IntKind.u8 0, Value.int IntKind.u8 0, Value.int IntKind.u8 0, Value.nilFunc, Value.pointer none, Value.int IntKind.i32 0, Value.int IntKind.i32 0]⟩ := by kernel_rfl
@[go_sem] theorem fldt_139_0 : fldt Try.prog 139 0 = some (0, 12) := by kernel_rfl
@[go_sem] theorem fldt_139_1 : fldt Try.prog 139 1 = some (1, 12) := by kernel_rfl
@[go_sem] theorem fldt_139_2 : fldt Try.prog 139 2 = some (2, 131) := by kernel_rfl
@[go_sem] theorem fldt_139_3 : fldt Try.prog 139 3 = some (3, 132) := by kernel_rfl
@[go_sem] theorem fldt_139_4 : fldt Try.prog 139 4 = some (4, 5) := by kernel_rfl
@[go_sem] theorem fldt_139_5 : fldt Try.prog 139 5 = some (5, 5) := by kernel_rfl
@[go_sem] theorem fldt_139_6 : fldt Try.prog 139 6 = some (6, 133) := by kernel_rfl
@[go_sem] theorem fldt_139_7 : fldt Try.prog 139 7 = some (7, 134) := by kernel_rfl
@[go_sem] theorem fldt_139_8 : fldt Try.prog 139 8 = some (8, 135) := by kernel_rfl
@[go_sem] theorem fldt_139_9 : fldt Try.prog 139 9 = some (9, 136) := by kernel_rfl
@[go_sem] theorem fldt_139_10 : fldt Try.prog 139 10 = some (10, 137) := by kernel_rfl
@[go_sem] theorem places_139 : places Try.prog 139 = some ([(0, 1), (1, 1), (2, 1), (3, 1), (4, 1), (5, 1), (6, 1), (7, 1), (8, 1), (9, 1), (10, 1)]) := by kernel_rfl
@[go_sem] theorem uis_140 : (Try.prog.underlying 140).isSome = true := by kernel_rfl
@[go_sem] theorem tyi_140 : tyi Try.prog 140 = some ⟨false, 1, 8, [Value.pointer none]⟩ := by kernel_rfl
@[go_sem] theorem res_0 : Try.f0.results.toList = ([] : List ResultVar) := by kernel_rfl
@[go_sem] theorem res_1 : Try.f1.results.toList = ([] : List ResultVar) := by kernel_rfl
@[go_sem] theorem res_2 : Try.f2.results.toList = ([] : List ResultVar) := by kernel_rfl
@[go_sem] theorem res_3 : Try.f3.results.toList = ([ResultVar.tmp 2] : List ResultVar) := by kernel_rfl
@[go_sem] theorem res_4 : Try.f4.results.toList = ([ResultVar.tmp 2] : List ResultVar) := by kernel_rfl
@[go_sem] theorem res_5 : Try.f5.results.toList = ([ResultVar.tmp 4] : List ResultVar) := by kernel_rfl
@[go_sem] theorem res_6 : Try.f6.results.toList = ([ResultVar.tmp 4] : List ResultVar) := by kernel_rfl
@[go_sem] theorem res_7 : Try.f7.results.toList = ([ResultVar.tmp 2] : List ResultVar) := by kernel_rfl
@[go_sem] theorem res_8 : Try.f8.results.toList = ([ResultVar.tmp 4] : List ResultVar) := by kernel_rfl
@[go_sem] theorem res_9 : Try.f9.results.toList = ([ResultVar.tmp 4] : List ResultVar) := by kernel_rfl
@[go_sem] theorem res_10 : Try.f10.results.toList = ([ResultVar.tmp 4] : List ResultVar) := by kernel_rfl
@[go_sem] theorem res_11 : Try.f11.results.toList = ([ResultVar.tmp 4] : List ResultVar) := by kernel_rfl
@[go_sem] theorem res_12 : Try.f12.results.toList = ([ResultVar.tmp 6] : List ResultVar) := by kernel_rfl
@[go_sem] theorem res_13 : Try.f13.results.toList = ([ResultVar.tmp 6] : List ResultVar) := by kernel_rfl
@[go_sem] theorem res_14 : Try.f14.results.toList = ([ResultVar.tmp 2] : List ResultVar) := by kernel_rfl
@[go_sem] theorem res_15 : Try.f15.results.toList = ([ResultVar.tmp 2] : List ResultVar) := by kernel_rfl
@[go_sem] theorem res_16 : Try.f16.results.toList = ([ResultVar.tmp 2] : List ResultVar) := by kernel_rfl
@[go_sem] theorem res_17 : Try.f17.results.toList = ([ResultVar.tmp 4] : List ResultVar) := by kernel_rfl
@[go_sem] theorem res_18 : Try.f18.results.toList = ([ResultVar.tmp 2] : List ResultVar) := by kernel_rfl
@[go_sem] theorem res_19 : Try.f19.results.toList = ([ResultVar.cell 2 28] : List ResultVar) := by kernel_rfl
@[go_sem] theorem res_20 : Try.f20.results.toList = ([ResultVar.tmp 2] : List ResultVar) := by kernel_rfl
@[go_sem] theorem res_21 : Try.f21.results.toList = ([ResultVar.tmp 4] : List ResultVar) := by kernel_rfl
@[go_sem] theorem res_22 : Try.f22.results.toList = ([ResultVar.tmp 4] : List ResultVar) := by kernel_rfl
@[go_sem] theorem res_23 : Try.f23.results.toList = ([ResultVar.cell 2 40] : List ResultVar) := by kernel_rfl
@[go_sem] theorem res_24 : Try.f24.results.toList = ([ResultVar.tmp 4] : List ResultVar) := by kernel_rfl
@[go_sem] theorem res_25 : Try.f25.results.toList = ([ResultVar.tmp 4] : List ResultVar) := by kernel_rfl
@[go_sem] theorem res_26 : Try.f26.results.toList = ([ResultVar.tmp 4] : List ResultVar) := by kernel_rfl
@[go_sem] theorem res_27 : Try.f27.results.toList = ([ResultVar.tmp 4] : List ResultVar) := by kernel_rfl
@[go_sem] theorem res_28 : Try.f28.results.toList = ([ResultVar.tmp 4] : List ResultVar) := by kernel_rfl
@[go_sem] theorem res_29 : Try.f29.results.toList = ([ResultVar.tmp 2] : List ResultVar) := by kernel_rfl
@[go_sem] theorem res_30 : Try.f30.results.toList = ([ResultVar.tmp 2] : List ResultVar) := by kernel_rfl
@[go_sem] theorem res_31 : Try.f31.results.toList = ([ResultVar.tmp 2] : List ResultVar) := by kernel_rfl
@[go_sem] theorem res_32 : Try.f32.results.toList = ([ResultVar.tmp 4] : List ResultVar) := by kernel_rfl
@[go_sem] theorem res_33 : Try.f33.results.toList = ([ResultVar.cell 4 53] : List ResultVar) := by kernel_rfl
@[go_sem] theorem res_34 : Try.f34.results.toList = ([ResultVar.cell 4 53] : List ResultVar) := by kernel_rfl
@[go_sem] theorem res_35 : Try.f35.results.toList = ([ResultVar.tmp 4] : List ResultVar) := by kernel_rfl
@[go_sem] theorem res_36 : Try.f36.results.toList = ([ResultVar.tmp 4] : List ResultVar) := by kernel_rfl
@[go_sem] theorem res_37 : Try.f37.results.toList = ([ResultVar.tmp 4] : List ResultVar) := by kernel_rfl
@[go_sem] theorem res_38 : Try.f38.results.toList = ([ResultVar.tmp 2] : List ResultVar) := by kernel_rfl
@[go_sem] theorem res_39 : Try.f39.results.toList = ([ResultVar.tmp 4] : List ResultVar) := by kernel_rfl
@[go_sem] theorem res_40 : Try.f40.results.toList = ([ResultVar.tmp 4] : List ResultVar) := by kernel_rfl
@[go_sem] theorem res_41 : Try.f41.results.toList = ([ResultVar.tmp 4] : List ResultVar) := by kernel_rfl
@[go_sem] theorem res_42 : Try.f42.results.toList = ([ResultVar.tmp 4] : List ResultVar) := by kernel_rfl
@[go_sem] theorem res_43 : Try.f43.results.toList = ([ResultVar.tmp 4] : List ResultVar) := by kernel_rfl
@[go_sem] theorem res_44 : Try.f44.results.toList = ([ResultVar.tmp 4] : List ResultVar) := by kernel_rfl
@[go_sem] theorem res_45 : Try.f45.results.toList = ([ResultVar.tmp 6] : List ResultVar) := by kernel_rfl
@[go_sem] theorem res_46 : Try.f46.results.toList = ([ResultVar.tmp 6] : List ResultVar) := by kernel_rfl
@[go_sem] theorem res_47 : Try.f47.results.toList = ([ResultVar.tmp 6] : List ResultVar) := by kernel_rfl
@[go_sem] theorem res_48 : Try.f48.results.toList = ([ResultVar.tmp 6] : List ResultVar) := by kernel_rfl
@[go_sem] theorem res_49 : Try.f49.results.toList = ([ResultVar.tmp 4] : List ResultVar) := by kernel_rfl
@[go_sem] theorem res_50 : Try.f50.results.toList = ([ResultVar.tmp 2] : List ResultVar) := by kernel_rfl
@[go_sem] theorem res_51 : Try.f51.results.toList = ([ResultVar.cell 2 72] : List ResultVar) := by kernel_rfl
@[go_sem] theorem res_52 : Try.f52.results.toList = ([ResultVar.tmp 2] : List ResultVar) := by kernel_rfl
@[go_sem] theorem res_53 : Try.f53.results.toList = ([ResultVar.tmp 4] : List ResultVar) := by kernel_rfl
@[go_sem] theorem res_54 : Try.f54.results.toList = ([ResultVar.tmp 6] : List ResultVar) := by kernel_rfl
@[go_sem] theorem res_55 : Try.f55.results.toList = ([ResultVar.tmp 6] : List ResultVar) := by kernel_rfl
@[go_sem] theorem res_56 : Try.f56.results.toList = ([ResultVar.tmp 2] : List ResultVar) := by kernel_rfl
@[go_sem] theorem res_57 : Try.f57.results.toList = ([ResultVar.tmp 2] : List ResultVar) := by kernel_rfl
@[go_sem] theorem res_58 : Try.f58.results.toList = ([ResultVar.tmp 2] : List ResultVar) := by kernel_rfl
@[go_sem] theorem res_59 : Try.f59.results.toList = ([ResultVar.tmp 2] : List ResultVar) := by kernel_rfl
@[go_sem] theorem res_60 : Try.f60.results.toList = ([ResultVar.tmp 4] : List ResultVar) := by kernel_rfl
@[go_sem] theorem res_61 : Try.f61.results.toList = ([ResultVar.tmp 4] : List ResultVar) := by kernel_rfl
@[go_sem] theorem res_62 : Try.f62.results.toList = ([ResultVar.tmp 2] : List ResultVar) := by kernel_rfl
@[go_sem] theorem res_63 : Try.f63.results.toList = ([ResultVar.tmp 2] : List ResultVar) := by kernel_rfl
@[go_sem] theorem res_64 : Try.f64.results.toList = ([ResultVar.tmp 4] : List ResultVar) := by kernel_rfl
@[go_sem] theorem res_65 : Try.f65.results.toList = ([ResultVar.tmp 4] : List ResultVar) := by kernel_rfl
@[go_sem] theorem res_66 : Try.f66.results.toList = ([ResultVar.tmp 4] : List ResultVar) := by kernel_rfl
@[go_sem] theorem res_67 : Try.f67.results.toList = ([ResultVar.tmp 4] : List ResultVar) := by kernel_rfl
@[go_sem] theorem res_68 : Try.f68.results.toList = ([ResultVar.tmp 4] : List ResultVar) := by kernel_rfl
@[go_sem] theorem res_69 : Try.f69.results.toList = ([ResultVar.tmp 4] : List ResultVar) := by kernel_rfl
@[go_sem] theorem res_70 : Try.f70.results.toList = ([ResultVar.cell 2 94] : List ResultVar) := by kernel_rfl
@[go_sem] theorem res_71 : Try.f71.results.toList = ([ResultVar.tmp 4] : List ResultVar) := by kernel_rfl
@[go_sem] theorem res_72 : Try.f72.results.toList = ([ResultVar.tmp 4] : List ResultVar) := by kernel_rfl
@[go_sem] theorem res_73 : Try.f73.results.toList = ([ResultVar.tmp 4] : List ResultVar) := by kernel_rfl
@[go_sem] theorem res_74 : Try.f74.results.toList = ([ResultVar.cell 2 102] : List ResultVar) := by kernel_rfl
@[go_sem] theorem res_75 : Try.f75.results.toList = ([ResultVar.tmp 4] : List ResultVar) := by kernel_rfl
@[go_sem] theorem res_76 : Try.f76.results.toList = ([ResultVar.tmp 4] : List ResultVar) := by kernel_rfl
@[go_sem] theorem res_77 : Try.f77.results.toList = ([ResultVar.tmp 4] : List ResultVar) := by kernel_rfl
@[go_sem] theorem res_78 : Try.f78.results.toList = ([ResultVar.tmp 4] : List ResultVar) := by kernel_rfl
@[go_sem] theorem res_79 : Try.f79.results.toList = ([ResultVar.tmp 2] : List ResultVar) := by kernel_rfl
@[go_sem] theorem res_80 : Try.f80.results.toList = ([ResultVar.tmp 2] : List ResultVar) := by kernel_rfl
@[go_sem] theorem res_81 : Try.f81.results.toList = ([ResultVar.tmp 2] : List ResultVar) := by kernel_rfl
@[go_sem] theorem res_82 : Try.f82.results.toList = ([ResultVar.tmp 4] : List ResultVar) := by kernel_rfl
@[go_sem] theorem res_83 : Try.f83.results.toList = ([ResultVar.tmp 2] : List ResultVar) := by kernel_rfl
@[go_sem] theorem res_84 : Try.f84.results.toList = ([ResultVar.tmp 4] : List ResultVar) := by kernel_rfl
@[go_sem] theorem res_85 : Try.f85.results.toList = ([ResultVar.tmp 4] : List ResultVar) := by kernel_rfl
@[go_sem] theorem res_86 : Try.f86.results.toList = ([ResultVar.tmp 2] : List ResultVar) := by kernel_rfl
@[go_sem] theorem res_87 : Try.f87.results.toList = ([ResultVar.tmp 4] : List ResultVar) := by kernel_rfl
@[go_sem] theorem res_88 : Try.f88.results.toList = ([ResultVar.tmp 4] : List ResultVar) := by kernel_rfl
@[go_sem] theorem res_89 : Try.f89.results.toList = ([ResultVar.cell 2 83] : List ResultVar) := by kernel_rfl
@[go_sem] theorem res_90 : Try.f90.results.toList = ([ResultVar.cell 2 53] : List ResultVar) := by kernel_rfl
@[go_sem] theorem res_91 : Try.f91.results.toList = ([ResultVar.tmp 4] : List ResultVar) := by kernel_rfl
@[go_sem] theorem res_92 : Try.f92.results.toList = ([ResultVar.tmp 4] : List ResultVar) := by kernel_rfl
@[go_sem] theorem res_93 : Try.f93.results.toList = ([ResultVar.tmp 2] : List ResultVar) := by kernel_rfl
@[go_sem] theorem res_94 : Try.f94.results.toList = ([ResultVar.tmp 4] : List ResultVar) := by kernel_rfl
@[go_sem] theorem res_95 : Try.f95.results.toList = ([ResultVar.tmp 4] : List ResultVar) := by kernel_rfl
@[go_sem] theorem res_96 : Try.f96.results.toList = ([ResultVar.tmp 3] : List ResultVar) := by kernel_rfl
@[go_sem] theorem res_97 : Try.f97.results.toList = ([] : List ResultVar) := by kernel_rfl
@[go_sem] theorem res_98 : Try.f98.results.toList = ([] : List ResultVar) := by kernel_rfl
@[go_sem] theorem res_99 : Try.f99.results.toList = ([] : List ResultVar) := by kernel_rfl
@[go_sem] theorem res_100 : Try.f100.results.toList = ([] : List ResultVar) := by kernel_rfl
@[go_sem] theorem res_101 : Try.f101.results.toList = ([] : List ResultVar) := by kernel_rfl
@[go_sem] theorem res_102 : Try.f102.results.toList = ([] : List ResultVar) := by kernel_rfl
@[go_sem] theorem res_103 : Try.f103.results.toList = ([] : List ResultVar) := by kernel_rfl
@[go_sem] theorem res_104 : Try.f104.results.toList = ([] : List ResultVar) := by kernel_rfl
@[go_sem] theorem res_105 : Try.f105.results.toList = ([] : List ResultVar) := by kernel_rfl
@[go_sem] theorem res_106 : Try.f106.results.toList = ([] : List ResultVar) := by kernel_rfl
@[go_sem] theorem res_107 : Try.f107.results.toList = ([] : List ResultVar) := by kernel_rfl
@[go_sem] theorem res_108 : Try.f108.results.toList = ([] : List ResultVar) := by kernel_rfl
@[go_sem] theorem res_109 : Try.f109.results.toList = ([] : List ResultVar) := by kernel_rfl
@[go_sem] theorem res_110 : Try.f110.results.toList = ([] : List ResultVar) := by kernel_rfl
@[go_sem] theorem res_111 : Try.f111.results.toList = ([] : List ResultVar) := by kernel_rfl
@[go_sem] theorem res_112 : Try.f112.results.toList = ([] : List ResultVar) := by kernel_rfl
end Go.Proofs.Ytiapkahjolbgmaa.Aw
