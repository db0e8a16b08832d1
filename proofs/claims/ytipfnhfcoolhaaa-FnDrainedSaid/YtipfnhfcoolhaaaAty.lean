/- Facts about the seat's types, printed by ty.py. -/
import Derived.Test.YtipfnhfcoolhaaaBB
import Derived.Test.YtipfnhfcoolhaaaProg
namespace Go.Proofs.Ytipfnhfcoolhaaa.Aw
open Go
@[go_sem] theorem uis_0 : (Try.prog.underlying 0).isSome = true := by kernel_rfl
@[go_sem] theorem tyi_0 : tyi Try.prog 0 = some ⟨false, 1, 0, [Value.tuple #[]]⟩ := by kernel_rfl
@[go_sem] theorem uis_1 : (Try.prog.underlying 1).isSome = true := by kernel_rfl
@[go_sem] theorem tyi_1 : tyi Try.prog 1 = some ⟨false, 1, 8, [Value.nilFunc]⟩ := by kernel_rfl
@[go_sem] theorem uis_2 : (Try.prog.underlying 2).isSome = true := by kernel_rfl
@[go_sem] theorem tyi_2 : tyi Try.prog 2 = some ⟨false, 1, 8, [Value.int IntKind.i64 0]⟩ := by kernel_rfl
@[go_sem] theorem intKd_2 : intKd Try.prog 2 = some IntKind.i64 := by kernel_rfl
@[go_sem] theorem uis_3 : (Try.prog.underlying 3).isSome = true := by kernel_rfl
@[go_sem] theorem tyi_3 : tyi Try.prog 3 = some ⟨false, 1, 8, [Value.int IntKind.i64 0]⟩ := by kernel_rfl
@[go_sem] theorem intKd_3 : intKd Try.prog 3 = some IntKind.i64 := by kernel_rfl
@[go_sem] theorem uis_4 : (Try.prog.underlying 4).isSome = true := by kernel_rfl
@[go_sem] theorem tyi_4 : tyi Try.prog 4 = some ⟨false, 1, 1, [Value.bool false]⟩ := by kernel_rfl
@[go_sem] theorem und_4 : Try.prog.underlying 4 = some .bool := by kernel_rfl
@[go_sem] theorem uis_5 : (Try.prog.underlying 5).isSome = true := by kernel_rfl
@[go_sem] theorem tyi_5 : tyi Try.prog 5 = some ⟨false, 1, 1, [Value.int IntKind.u8 0]⟩ := by kernel_rfl
@[go_sem] theorem intKd_5 : intKd Try.prog 5 = some IntKind.u8 := by kernel_rfl
@[go_sem] theorem uis_6 : (Try.prog.underlying 6).isSome = true := by kernel_rfl
@[go_sem] theorem tyi_6 : tyi Try.prog 6 = some ⟨false, 1, 1, [Value.int IntKind.u8 0]⟩ := by kernel_rfl
@[go_sem] theorem intKd_6 : intKd Try.prog 6 = some IntKind.u8 := by kernel_rfl
@[go_sem] theorem uis_7 : (Try.prog.underlying 7).isSome = true := by kernel_rfl
@[go_sem] theorem tyi_7 : tyi Try.prog 7 = some ⟨true, 4, 24, [Value.int IntKind.i64 0, Value.int IntKind.i64 0, Value.bool false, Value.int IntKind.u8 0]⟩ := by kernel_rfl
@[go_sem] theorem fldt_7_0 : fldt Try.prog 7 0 = some (0, 2) := by kernel_rfl
@[go_sem] theorem fldt_7_1 : fldt Try.prog 7 1 = some (1, 3) := by kernel_rfl
@[go_sem] theorem fldt_7_2 : fldt Try.prog 7 2 = some (2, 4) := by kernel_rfl
@[go_sem] theorem fldt_7_3 : fldt Try.prog 7 3 = some (3, 6) := by kernel_rfl
@[go_sem] theorem places_7 : places Try.prog 7 = some ([(0, 1), (1, 1), (2, 1), (3, 1)]) := by kernel_rfl
@[go_sem] theorem uis_8 : (Try.prog.underlying 8).isSome = true := by kernel_rfl
@[go_sem] theorem tyi_8 : tyi Try.prog 8 = some ⟨true, 4, 24, [Value.int IntKind.i64 0, Value.int IntKind.i64 0, Value.bool false, Value.int IntKind.u8 0]⟩ := by kernel_rfl
@[go_sem] theorem fldt_8_0 : fldt Try.prog 8 0 = some (0, 2) := by kernel_rfl
@[go_sem] theorem fldt_8_1 : fldt Try.prog 8 1 = some (1, 3) := by kernel_rfl
@[go_sem] theorem fldt_8_2 : fldt Try.prog 8 2 = some (2, 4) := by kernel_rfl
@[go_sem] theorem fldt_8_3 : fldt Try.prog 8 3 = some (3, 6) := by kernel_rfl
@[go_sem] theorem places_8 : places Try.prog 8 = some ([(0, 1), (1, 1), (2, 1), (3, 1)]) := by kernel_rfl
@[go_sem] theorem uis_9 : (Try.prog.underlying 9).isSome = true := by kernel_rfl
@[go_sem] theorem tyi_9 : tyi Try.prog 9 = some ⟨false, 1, 16, [Value.string (ByteArray.mk #[])]⟩ := by kernel_rfl
@[go_sem] theorem isStr_9 : isStr Try.prog 9 = true := by kernel_rfl
@[go_sem] theorem uis_10 : (Try.prog.underlying 10).isSome = true := by kernel_rfl
@[go_sem] theorem tyi_10 : tyi Try.prog 10 = some ⟨false, 1, 16, [Value.string (ByteArray.mk #[])]⟩ := by kernel_rfl
@[go_sem] theorem isStr_10 : isStr Try.prog 10 = true := by kernel_rfl
@[go_sem] theorem uis_11 : (Try.prog.underlying 11).isSome = true := by kernel_rfl
@[go_sem] theorem tyi_11 : tyi Try.prog 11 = some ⟨false, 1, 16, [Value.string (ByteArray.mk #[])]⟩ := by kernel_rfl
@[go_sem] theorem isStr_11 : isStr Try.prog 11 = true := by kernel_rfl
@[go_sem] theorem uis_12 : (Try.prog.underlying 12).isSome = true := by kernel_rfl
@[go_sem] theorem tyi_12 : tyi Try.prog 12 = some ⟨false, 1, 8, [Value.int IntKind.u64 0]⟩ := by kernel_rfl
@[go_sem] theorem intKd_12 : intKd Try.prog 12 = some IntKind.u64 := by kernel_rfl
@[go_sem] theorem uis_13 : (Try.prog.underlying 13).isSome = true := by kernel_rfl
@[go_sem] theorem tyi_13 : tyi Try.prog 13 = some ⟨true, 2, 24, [Value.string (ByteArray.mk #[]), Value.int IntKind.u64 0]⟩ := by kernel_rfl
@[go_sem] theorem fldt_13_0 : fldt Try.prog 13 0 = some (0, 9) := by kernel_rfl
@[go_sem] theorem fldt_13_1 : fldt Try.prog 13 1 = some (1, 12) := by kernel_rfl
@[go_sem] theorem places_13 : places Try.prog 13 = some ([(0, 1), (1, 1)]) := by kernel_rfl
@[go_sem] theorem uis_14 : (Try.prog.underlying 14).isSome = true := by kernel_rfl
@[go_sem] theorem tyi_14 : tyi Try.prog 14 = some ⟨true, 2, 24, [Value.string (ByteArray.mk #[]), Value.int IntKind.u64 0]⟩ := by kernel_rfl
@[go_sem] theorem fldt_14_0 : fldt Try.prog 14 0 = some (0, 9) := by kernel_rfl
@[go_sem] theorem fldt_14_1 : fldt Try.prog 14 1 = some (1, 12) := by kernel_rfl
@[go_sem] theorem places_14 : places Try.prog 14 = some ([(0, 1), (1, 1)]) := by kernel_rfl
@[go_sem] theorem uis_15 : (Try.prog.underlying 15).isSome = true := by kernel_rfl
@[go_sem] theorem tyi_15 : tyi Try.prog 15 = some ⟨false, 1, 8, [Value.pointer none]⟩ := by kernel_rfl
@[go_sem] theorem uis_16 : (Try.prog.underlying 16).isSome = true := by kernel_rfl
@[go_sem] theorem tyi_16 : tyi Try.prog 16 = some ⟨false, 1, 8, [Value.pointer none]⟩ := by kernel_rfl
@[go_sem] theorem uis_17 : (Try.prog.underlying 17).isSome = true := by kernel_rfl
@[go_sem] theorem tyi_17 : tyi Try.prog 17 = some ⟨false, 1, 8, [Value.pointer none]⟩ := by kernel_rfl
@[go_sem] theorem uis_18 : (Try.prog.underlying 18).isSome = true := by kernel_rfl
@[go_sem] theorem tyi_18 : tyi Try.prog 18 = some ⟨true, 1, 8, [Value.pointer none]⟩ := by kernel_rfl
@[go_sem] theorem fldt_18_0 : fldt Try.prog 18 0 = some (0, 17) := by kernel_rfl
@[go_sem] theorem places_18 : places Try.prog 18 = some ([(0, 1)]) := by kernel_rfl
@[go_sem] theorem uis_19 : (Try.prog.underlying 19).isSome = true := by kernel_rfl
@[go_sem] theorem tyi_19 : tyi Try.prog 19 = some ⟨true, 1, 8, [Value.pointer none]⟩ := by kernel_rfl
@[go_sem] theorem fldt_19_0 : fldt Try.prog 19 0 = some (0, 17) := by kernel_rfl
@[go_sem] theorem places_19 : places Try.prog 19 = some ([(0, 1)]) := by kernel_rfl
@[go_sem] theorem uis_20 : (Try.prog.underlying 20).isSome = true := by kernel_rfl
@[go_sem] theorem tyi_20 : tyi Try.prog 20 = some ⟨false, 1, 16, [Value.nilIface]⟩ := by kernel_rfl
@[go_sem] theorem uis_21 : (Try.prog.underlying 21).isSome = true := by kernel_rfl
@[go_sem] theorem tyi_21 : tyi Try.prog 21 = some ⟨false, 1, 4, [Value.int IntKind.i32 0]⟩ := by kernel_rfl
@[go_sem] theorem intKd_21 : intKd Try.prog 21 = some IntKind.i32 := by kernel_rfl
@[go_sem] theorem uis_22 : (Try.prog.underlying 22).isSome = true := by kernel_rfl
@[go_sem] theorem tyi_22 : tyi Try.prog 22 = some ⟨false, 1, 24, [Value.slice none 0 0]⟩ := by kernel_rfl
@[go_sem] theorem elt_22 : elt Try.prog 22 = some 95 := by kernel_rfl
@[go_sem] theorem arrt_22 : arrt Try.prog 22 = none := by kernel_rfl
@[go_sem] theorem uis_23 : (Try.prog.underlying 23).isSome = true := by kernel_rfl
@[go_sem] theorem tyi_23 : tyi Try.prog 23 = some ⟨false, 1, 8, [Value.nilFunc]⟩ := by kernel_rfl
@[go_sem] theorem uis_24 : (Try.prog.underlying 24).isSome = true := by kernel_rfl
@[go_sem] theorem tyi_24 : tyi Try.prog 24 = some ⟨false, 1, 24, [Value.slice none 0 0]⟩ := by kernel_rfl
@[go_sem] theorem elt_24 : elt Try.prog 24 = some 3 := by kernel_rfl
@[go_sem] theorem arrt_24 : arrt Try.prog 24 = none := by kernel_rfl
@[go_sem] theorem uis_25 : (Try.prog.underlying 25).isSome = true := by kernel_rfl
@[go_sem] theorem tyi_25 : tyi Try.prog 25 = some ⟨false, 1, 24, [Value.slice none 0 0]⟩ := by kernel_rfl
@[go_sem] theorem elt_25 : elt Try.prog 25 = some 88 := by kernel_rfl
@[go_sem] theorem arrt_25 : arrt Try.prog 25 = none := by kernel_rfl
@[go_sem] theorem uis_26 : (Try.prog.underlying 26).isSome = true := by kernel_rfl
@[go_sem] theorem tyi_26 : tyi Try.prog 26 = some ⟨false, 1, 24, [Value.slice none 0 0]⟩ := by kernel_rfl
@[go_sem] theorem elt_26 : elt Try.prog 26 = some 85 := by kernel_rfl
@[go_sem] theorem arrt_26 : arrt Try.prog 26 = none := by kernel_rfl
@[go_sem] theorem uis_27 : (Try.prog.underlying 27).isSome = true := by kernel_rfl
@[go_sem] theorem tyi_27 : tyi Try.prog 27 = some ⟨false, 1, 24, [Value.slice none 0 0]⟩ := by kernel_rfl
@[go_sem] theorem elt_27 : elt Try.prog 27 = some 148 := by kernel_rfl
@[go_sem] theorem arrt_27 : arrt Try.prog 27 = none := by kernel_rfl
@[go_sem] theorem uis_28 : (Try.prog.underlying 28).isSome = true := by kernel_rfl
@[go_sem] theorem tyi_28 : tyi Try.prog 28 = some ⟨true, 6, 112, [Value.slice none 0 0, Value.slice none 0 0, Value.slice none 0 0, Value.slice none 0 0, Value.int IntKind.i64 0, Value.int IntKind.i64 0]⟩ := by kernel_rfl
@[go_sem] theorem fldt_28_0 : fldt Try.prog 28 0 = some (0, 24) := by kernel_rfl
@[go_sem] theorem fldt_28_1 : fldt Try.prog 28 1 = some (1, 25) := by kernel_rfl
@[go_sem] theorem fldt_28_2 : fldt Try.prog 28 2 = some (2, 26) := by kernel_rfl
@[go_sem] theorem fldt_28_3 : fldt Try.prog 28 3 = some (3, 27) := by kernel_rfl
@[go_sem] theorem fldt_28_4 : fldt Try.prog 28 4 = some (4, 3) := by kernel_rfl
@[go_sem] theorem fldt_28_5 : fldt Try.prog 28 5 = some (5, 3) := by kernel_rfl
@[go_sem] theorem places_28 : places Try.prog 28 = some ([(0, 1), (1, 1), (2, 1), (3, 1), (4, 1), (5, 1)]) := by kernel_rfl
@[go_sem] theorem uis_29 : (Try.prog.underlying 29).isSome = true := by kernel_rfl
@[go_sem] theorem tyi_29 : tyi Try.prog 29 = some ⟨true, 6, 112, [Value.slice none 0 0, Value.slice none 0 0, Value.slice none 0 0, Value.slice none 0 0, Value.int IntKind.i64 0, Value.int IntKind.i64 0]⟩ := by kernel_rfl
@[go_sem] theorem fldt_29_0 : fldt Try.prog 29 0 = some (0, 24) := by kernel_rfl
@[go_sem] theorem fldt_29_1 : fldt Try.prog 29 1 = some (1, 25) := by kernel_rfl
@[go_sem] theorem fldt_29_2 : fldt Try.prog 29 2 = some (2, 26) := by kernel_rfl
@[go_sem] theorem fldt_29_3 : fldt Try.prog 29 3 = some (3, 27) := by kernel_rfl
@[go_sem] theorem fldt_29_4 : fldt Try.prog 29 4 = some (4, 3) := by kernel_rfl
@[go_sem] theorem fldt_29_5 : fldt Try.prog 29 5 = some (5, 3) := by kernel_rfl
@[go_sem] theorem places_29 : places Try.prog 29 = some ([(0, 1), (1, 1), (2, 1), (3, 1), (4, 1), (5, 1)]) := by kernel_rfl
@[go_sem] theorem uis_30 : (Try.prog.underlying 30).isSome = true := by kernel_rfl
@[go_sem] theorem tyi_30 : tyi Try.prog 30 = some ⟨false, 1, 8, [Value.nilFunc]⟩ := by kernel_rfl
@[go_sem] theorem uis_31 : (Try.prog.underlying 31).isSome = true := by kernel_rfl
@[go_sem] theorem tyi_31 : tyi Try.prog 31 = some ⟨false, 1, 8, [Value.nilFunc]⟩ := by kernel_rfl
@[go_sem] theorem uis_32 : (Try.prog.underlying 32).isSome = true := by kernel_rfl
@[go_sem] theorem tyi_32 : tyi Try.prog 32 = some ⟨false, 1, 8, [Value.nilFunc]⟩ := by kernel_rfl
@[go_sem] theorem uis_33 : (Try.prog.underlying 33).isSome = true := by kernel_rfl
@[go_sem] theorem tyi_33 : tyi Try.prog 33 = some ⟨false, 1, 8, [Value.nilFunc]⟩ := by kernel_rfl
@[go_sem] theorem uis_34 : (Try.prog.underlying 34).isSome = true := by kernel_rfl
@[go_sem] theorem tyi_34 : tyi Try.prog 34 = some ⟨false, 1, 8, [Value.nilFunc]⟩ := by kernel_rfl
@[go_sem] theorem uis_35 : (Try.prog.underlying 35).isSome = true := by kernel_rfl
@[go_sem] theorem tyi_35 : tyi Try.prog 35 = some ⟨false, 1, 8, [Value.nilFunc]⟩ := by kernel_rfl
@[go_sem] theorem uis_36 : (Try.prog.underlying 36).isSome = true := by kernel_rfl
@[go_sem] theorem tyi_36 : tyi Try.prog 36 = some ⟨false, 1, 8, [Value.nilFunc]⟩ := by kernel_rfl
@[go_sem] theorem uis_37 : (Try.prog.underlying 37).isSome = true := by kernel_rfl
@[go_sem] theorem tyi_37 : tyi Try.prog 37 = some ⟨false, 1, 24, [Value.slice none 0 0]⟩ := by kernel_rfl
@[go_sem] theorem elt_37 : elt Try.prog 37 = some 157 := by kernel_rfl
@[go_sem] theorem arrt_37 : arrt Try.prog 37 = none := by kernel_rfl
@[go_sem] theorem uis_38 : (Try.prog.underlying 38).isSome = true := by kernel_rfl
@[go_sem] theorem tyi_38 : tyi Try.prog 38 = some ⟨false, 1, 24, [Value.slice none 0 0]⟩ := by kernel_rfl
@[go_sem] theorem elt_38 : elt Try.prog 38 = some 159 := by kernel_rfl
@[go_sem] theorem arrt_38 : arrt Try.prog 38 = none := by kernel_rfl
@[go_sem] theorem uis_39 : (Try.prog.underlying 39).isSome = true := by kernel_rfl
@[go_sem] theorem tyi_39 : tyi Try.prog 39 = some ⟨true, 2, 48, [Value.slice none 0 0, Value.slice none 0 0]⟩ := by kernel_rfl
@[go_sem] theorem fldt_39_0 : fldt Try.prog 39 0 = some (0, 37) := by kernel_rfl
@[go_sem] theorem fldt_39_1 : fldt Try.prog 39 1 = some (1, 38) := by kernel_rfl
@[go_sem] theorem places_39 : places Try.prog 39 = some ([(0, 1), (1, 1)]) := by kernel_rfl
@[go_sem] theorem uis_40 : (Try.prog.underlying 40).isSome = true := by kernel_rfl
@[go_sem] theorem tyi_40 : tyi Try.prog 40 = some ⟨true, 2, 48, [Value.slice none 0 0, Value.slice none 0 0]⟩ := by kernel_rfl
@[go_sem] theorem fldt_40_0 : fldt Try.prog 40 0 = some (0, 37) := by kernel_rfl
@[go_sem] theorem fldt_40_1 : fldt Try.prog 40 1 = some (1, 38) := by kernel_rfl
@[go_sem] theorem places_40 : places Try.prog 40 = some ([(0, 1), (1, 1)]) := by kernel_rfl
@[go_sem] theorem uis_41 : (Try.prog.underlying 41).isSome = true := by kernel_rfl
@[go_sem] theorem tyi_41 : tyi Try.prog 41 = some ⟨true, 4, 40, [Value.int IntKind.i64 0, Value.string (ByteArray.mk #[]), Value.int IntKind.i64 0, Value.int IntKind.i64 0]⟩ := by kernel_rfl
@[go_sem] theorem fldt_41_0 : fldt Try.prog 41 0 = some (0, 3) := by kernel_rfl
@[go_sem] theorem fldt_41_1 : fldt Try.prog 41 1 = some (1, 9) := by kernel_rfl
@[go_sem] theorem fldt_41_2 : fldt Try.prog 41 2 = some (2, 3) := by kernel_rfl
@[go_sem] theorem fldt_41_3 : fldt Try.prog 41 3 = some (3, 3) := by kernel_rfl
@[go_sem] theorem places_41 : places Try.prog 41 = some ([(0, 1), (1, 1), (2, 1), (3, 1)]) := by kernel_rfl
@[go_sem] theorem uis_42 : (Try.prog.underlying 42).isSome = true := by kernel_rfl
@[go_sem] theorem tyi_42 : tyi Try.prog 42 = some ⟨true, 4, 40, [Value.int IntKind.i64 0, Value.string (ByteArray.mk #[]), Value.int IntKind.i64 0, Value.int IntKind.i64 0]⟩ := by kernel_rfl
@[go_sem] theorem fldt_42_0 : fldt Try.prog 42 0 = some (0, 3) := by kernel_rfl
@[go_sem] theorem fldt_42_1 : fldt Try.prog 42 1 = some (1, 9) := by kernel_rfl
@[go_sem] theorem fldt_42_2 : fldt Try.prog 42 2 = some (2, 3) := by kernel_rfl
@[go_sem] theorem fldt_42_3 : fldt Try.prog 42 3 = some (3, 3) := by kernel_rfl
@[go_sem] theorem places_42 : places Try.prog 42 = some ([(0, 1), (1, 1), (2, 1), (3, 1)]) := by kernel_rfl
@[go_sem] theorem uis_43 : (Try.prog.underlying 43).isSome = true := by kernel_rfl
@[go_sem] theorem tyi_43 : tyi Try.prog 43 = some ⟨false, 1, 8, [Value.nilFunc]⟩ := by kernel_rfl
@[go_sem] theorem uis_44 : (Try.prog.underlying 44).isSome = true := by kernel_rfl
@[go_sem] theorem tyi_44 : tyi Try.prog 44 = some ⟨false, 1, 8, [Value.nilFunc]⟩ := by kernel_rfl
@[go_sem] theorem uis_45 : (Try.prog.underlying 45).isSome = true := by kernel_rfl
@[go_sem] theorem tyi_45 : tyi Try.prog 45 = some ⟨false, 1, 24, [Value.slice none 0 0]⟩ := by kernel_rfl
@[go_sem] theorem elt_45 : elt Try.prog 45 = some 67 := by kernel_rfl
@[go_sem] theorem arrt_45 : arrt Try.prog 45 = none := by kernel_rfl
@[go_sem] theorem uis_46 : (Try.prog.underlying 46).isSome = true := by kernel_rfl
@[go_sem] theorem tyi_46 : tyi Try.prog 46 = some ⟨false, 1, 24, [Value.slice none 0 0]⟩ := by kernel_rfl
@[go_sem] theorem elt_46 : elt Try.prog 46 = some 69 := by kernel_rfl
@[go_sem] theorem arrt_46 : arrt Try.prog 46 = none := by kernel_rfl
@[go_sem] theorem uis_47 : (Try.prog.underlying 47).isSome = true := by kernel_rfl
@[go_sem] theorem tyi_47 : tyi Try.prog 47 = some ⟨true, 2, 48, [Value.slice none 0 0, Value.slice none 0 0]⟩ := by kernel_rfl
@[go_sem] theorem fldt_47_0 : fldt Try.prog 47 0 = some (0, 45) := by kernel_rfl
@[go_sem] theorem fldt_47_1 : fldt Try.prog 47 1 = some (1, 46) := by kernel_rfl
@[go_sem] theorem places_47 : places Try.prog 47 = some ([(0, 1), (1, 1)]) := by kernel_rfl
@[go_sem] theorem uis_48 : (Try.prog.underlying 48).isSome = true := by kernel_rfl
@[go_sem] theorem tyi_48 : tyi Try.prog 48 = some ⟨true, 2, 48, [Value.slice none 0 0, Value.slice none 0 0]⟩ := by kernel_rfl
@[go_sem] theorem fldt_48_0 : fldt Try.prog 48 0 = some (0, 45) := by kernel_rfl
@[go_sem] theorem fldt_48_1 : fldt Try.prog 48 1 = some (1, 46) := by kernel_rfl
@[go_sem] theorem places_48 : places Try.prog 48 = some ([(0, 1), (1, 1)]) := by kernel_rfl
@[go_sem] theorem uis_49 : (Try.prog.underlying 49).isSome = true := by kernel_rfl
@[go_sem] theorem tyi_49 : tyi Try.prog 49 = some ⟨false, 1, 0, [Value.tuple (Array.mk [Value.agg (Array.mk [Value.slice none 0 0, Value.slice none 0 0]), Value.int IntKind.i64 0, Value.slice none 0 0])]⟩ := by kernel_rfl
@[go_sem] theorem uis_50 : (Try.prog.underlying 50).isSome = true := by kernel_rfl
@[go_sem] theorem tyi_50 : tyi Try.prog 50 = some ⟨false, 1, 8, [Value.nilFunc]⟩ := by kernel_rfl
@[go_sem] theorem uis_51 : (Try.prog.underlying 51).isSome = true := by kernel_rfl
@[go_sem] theorem tyi_51 : tyi Try.prog 51 = some ⟨false, 1, 8, [Value.nilFunc]⟩ := by kernel_rfl
@[go_sem] theorem uis_52 : (Try.prog.underlying 52).isSome = true := by kernel_rfl
@[go_sem] theorem tyi_52 : tyi Try.prog 52 = some ⟨true, 4, 40, [Value.int IntKind.i64 0, Value.string (ByteArray.mk #[]), Value.int IntKind.i64 0, Value.int IntKind.i64 0]⟩ := by kernel_rfl
@[go_sem] theorem fldt_52_0 : fldt Try.prog 52 0 = some (0, 3) := by kernel_rfl
@[go_sem] theorem fldt_52_1 : fldt Try.prog 52 1 = some (1, 9) := by kernel_rfl
@[go_sem] theorem fldt_52_2 : fldt Try.prog 52 2 = some (2, 3) := by kernel_rfl
@[go_sem] theorem fldt_52_3 : fldt Try.prog 52 3 = some (3, 3) := by kernel_rfl
@[go_sem] theorem places_52 : places Try.prog 52 = some ([(0, 1), (1, 1), (2, 1), (3, 1)]) := by kernel_rfl
@[go_sem] theorem uis_53 : (Try.prog.underlying 53).isSome = true := by kernel_rfl
@[go_sem] theorem tyi_53 : tyi Try.prog 53 = some ⟨false, 1, 8, [Value.nilFunc]⟩ := by kernel_rfl
@[go_sem] theorem uis_54 : (Try.prog.underlying 54).isSome = true := by kernel_rfl
@[go_sem] theorem tyi_54 : tyi Try.prog 54 = some ⟨false, 1, 8, [Value.nilFunc]⟩ := by kernel_rfl
@[go_sem] theorem uis_55 : (Try.prog.underlying 55).isSome = true := by kernel_rfl
@[go_sem] theorem tyi_55 : tyi Try.prog 55 = some ⟨false, 1, 8, [Value.nilFunc]⟩ := by kernel_rfl
@[go_sem] theorem uis_56 : (Try.prog.underlying 56).isSome = true := by kernel_rfl
@[go_sem] theorem tyi_56 : tyi Try.prog 56 = some ⟨false, 1, 8, [Value.nilFunc]⟩ := by kernel_rfl
@[go_sem] theorem uis_57 : (Try.prog.underlying 57).isSome = true := by kernel_rfl
@[go_sem] theorem tyi_57 : tyi Try.prog 57 = some ⟨false, 1, 8, [Value.nilFunc]⟩ := by kernel_rfl
@[go_sem] theorem uis_58 : (Try.prog.underlying 58).isSome = true := by kernel_rfl
@[go_sem] theorem tyi_58 : tyi Try.prog 58 = some ⟨false, 1, 8, [Value.nilFunc]⟩ := by kernel_rfl
@[go_sem] theorem uis_59 : (Try.prog.underlying 59).isSome = true := by kernel_rfl
@[go_sem] theorem tyi_59 : tyi Try.prog 59 = some ⟨false, 1, 24, [Value.slice none 0 0]⟩ := by kernel_rfl
@[go_sem] theorem elt_59 : elt Try.prog 59 = some 5 := by kernel_rfl
@[go_sem] theorem arrt_59 : arrt Try.prog 59 = none := by kernel_rfl
@[go_sem] theorem uis_60 : (Try.prog.underlying 60).isSome = true := by kernel_rfl
@[go_sem] theorem tyi_60 : tyi Try.prog 60 = some ⟨false, 1, 8, [Value.nilFunc]⟩ := by kernel_rfl
@[go_sem] theorem uis_61 : (Try.prog.underlying 61).isSome = true := by kernel_rfl
@[go_sem] theorem tyi_61 : tyi Try.prog 61 = some ⟨false, 1, 0, [Value.tuple (Array.mk [Value.agg (Array.mk [Value.slice none 0 0, Value.slice none 0 0]), Value.agg (Array.mk [Value.int IntKind.i64 0, Value.string (ByteArray.mk #[]), Value.int IntKind.i64 0, Value.int IntKind.i64 0])])]⟩ := by kernel_rfl
@[go_sem] theorem uis_62 : (Try.prog.underlying 62).isSome = true := by kernel_rfl
@[go_sem] theorem tyi_62 : tyi Try.prog 62 = some ⟨false, 1, 8, [Value.nilFunc]⟩ := by kernel_rfl
@[go_sem] theorem uis_63 : (Try.prog.underlying 63).isSome = true := by kernel_rfl
@[go_sem] theorem tyi_63 : tyi Try.prog 63 = some ⟨false, 1, 8, [Value.nilFunc]⟩ := by kernel_rfl
@[go_sem] theorem uis_64 : (Try.prog.underlying 64).isSome = true := by kernel_rfl
@[go_sem] theorem tyi_64 : tyi Try.prog 64 = some ⟨false, 1, 8, [Value.nilFunc]⟩ := by kernel_rfl
@[go_sem] theorem uis_65 : (Try.prog.underlying 65).isSome = true := by kernel_rfl
@[go_sem] theorem tyi_65 : tyi Try.prog 65 = some ⟨false, 1, 8, [Value.nilFunc]⟩ := by kernel_rfl
@[go_sem] theorem uis_66 : (Try.prog.underlying 66).isSome = true := by kernel_rfl
@[go_sem] theorem tyi_66 : tyi Try.prog 66 = some ⟨true, 2, 24, [Value.string (ByteArray.mk #[]), Value.int IntKind.i64 0]⟩ := by kernel_rfl
@[go_sem] theorem fldt_66_0 : fldt Try.prog 66 0 = some (0, 9) := by kernel_rfl
@[go_sem] theorem fldt_66_1 : fldt Try.prog 66 1 = some (1, 3) := by kernel_rfl
@[go_sem] theorem places_66 : places Try.prog 66 = some ([(0, 1), (1, 1)]) := by kernel_rfl
@[go_sem] theorem uis_67 : (Try.prog.underlying 67).isSome = true := by kernel_rfl
@[go_sem] theorem tyi_67 : tyi Try.prog 67 = some ⟨true, 2, 24, [Value.string (ByteArray.mk #[]), Value.int IntKind.i64 0]⟩ := by kernel_rfl
@[go_sem] theorem fldt_67_0 : fldt Try.prog 67 0 = some (0, 9) := by kernel_rfl
@[go_sem] theorem fldt_67_1 : fldt Try.prog 67 1 = some (1, 3) := by kernel_rfl
@[go_sem] theorem places_67 : places Try.prog 67 = some ([(0, 1), (1, 1)]) := by kernel_rfl
@[go_sem] theorem uis_68 : (Try.prog.underlying 68).isSome = true := by kernel_rfl
@[go_sem] theorem tyi_68 : tyi Try.prog 68 = some ⟨true, 10, 88, [Value.string (ByteArray.mk #[]), Value.int IntKind.i64 0, Value.int IntKind.i64 0, Value.bool false, Value.int IntKind.i64 0, Value.int IntKind.i64 0, Value.int IntKind.i64 0, Value.int IntKind.i64 0, Value.int IntKind.i64 0, Value.int IntKind.i64 0]⟩ := by kernel_rfl
@[go_sem] theorem fldt_68_0 : fldt Try.prog 68 0 = some (0, 9) := by kernel_rfl
@[go_sem] theorem fldt_68_1 : fldt Try.prog 68 1 = some (1, 3) := by kernel_rfl
@[go_sem] theorem fldt_68_2 : fldt Try.prog 68 2 = some (2, 3) := by kernel_rfl
@[go_sem] theorem fldt_68_3 : fldt Try.prog 68 3 = some (3, 4) := by kernel_rfl
@[go_sem] theorem fldt_68_4 : fldt Try.prog 68 4 = some (4, 3) := by kernel_rfl
@[go_sem] theorem fldt_68_5 : fldt Try.prog 68 5 = some (5, 3) := by kernel_rfl
@[go_sem] theorem fldt_68_6 : fldt Try.prog 68 6 = some (6, 3) := by kernel_rfl
@[go_sem] theorem fldt_68_7 : fldt Try.prog 68 7 = some (7, 3) := by kernel_rfl
@[go_sem] theorem fldt_68_8 : fldt Try.prog 68 8 = some (8, 3) := by kernel_rfl
@[go_sem] theorem fldt_68_9 : fldt Try.prog 68 9 = some (9, 3) := by kernel_rfl
@[go_sem] theorem places_68 : places Try.prog 68 = some ([(0, 1), (1, 1), (2, 1), (3, 1), (4, 1), (5, 1), (6, 1), (7, 1), (8, 1), (9, 1)]) := by kernel_rfl
@[go_sem] theorem uis_69 : (Try.prog.underlying 69).isSome = true := by kernel_rfl
@[go_sem] theorem tyi_69 : tyi Try.prog 69 = some ⟨true, 10, 88, [Value.string (ByteArray.mk #[]), Value.int IntKind.i64 0, Value.int IntKind.i64 0, Value.bool false, Value.int IntKind.i64 0, Value.int IntKind.i64 0, Value.int IntKind.i64 0, Value.int IntKind.i64 0, Value.int IntKind.i64 0, Value.int IntKind.i64 0]⟩ := by kernel_rfl
@[go_sem] theorem fldt_69_0 : fldt Try.prog 69 0 = some (0, 9) := by kernel_rfl
@[go_sem] theorem fldt_69_1 : fldt Try.prog 69 1 = some (1, 3) := by kernel_rfl
@[go_sem] theorem fldt_69_2 : fldt Try.prog 69 2 = some (2, 3) := by kernel_rfl
@[go_sem] theorem fldt_69_3 : fldt Try.prog 69 3 = some (3, 4) := by kernel_rfl
@[go_sem] theorem fldt_69_4 : fldt Try.prog 69 4 = some (4, 3) := by kernel_rfl
@[go_sem] theorem fldt_69_5 : fldt Try.prog 69 5 = some (5, 3) := by kernel_rfl
@[go_sem] theorem fldt_69_6 : fldt Try.prog 69 6 = some (6, 3) := by kernel_rfl
@[go_sem] theorem fldt_69_7 : fldt Try.prog 69 7 = some (7, 3) := by kernel_rfl
@[go_sem] theorem fldt_69_8 : fldt Try.prog 69 8 = some (8, 3) := by kernel_rfl
@[go_sem] theorem fldt_69_9 : fldt Try.prog 69 9 = some (9, 3) := by kernel_rfl
@[go_sem] theorem places_69 : places Try.prog 69 = some ([(0, 1), (1, 1), (2, 1), (3, 1), (4, 1), (5, 1), (6, 1), (7, 1), (8, 1), (9, 1)]) := by kernel_rfl
@[go_sem] theorem uis_70 : (Try.prog.underlying 70).isSome = true := by kernel_rfl
@[go_sem] theorem tyi_70 : tyi Try.prog 70 = some ⟨false, 1, 8, [Value.nilFunc]⟩ := by kernel_rfl
@[go_sem] theorem uis_71 : (Try.prog.underlying 71).isSome = true := by kernel_rfl
@[go_sem] theorem tyi_71 : tyi Try.prog 71 = some ⟨false, 1, 8, [Value.nilFunc]⟩ := by kernel_rfl
@[go_sem] theorem uis_72 : (Try.prog.underlying 72).isSome = true := by kernel_rfl
@[go_sem] theorem tyi_72 : tyi Try.prog 72 = some ⟨false, 1, 0, [Value.tuple (Array.mk [Value.slice none 0 0, Value.int IntKind.i64 0])]⟩ := by kernel_rfl
@[go_sem] theorem uis_73 : (Try.prog.underlying 73).isSome = true := by kernel_rfl
@[go_sem] theorem tyi_73 : tyi Try.prog 73 = some ⟨false, 1, 8, [Value.nilFunc]⟩ := by kernel_rfl
@[go_sem] theorem uis_74 : (Try.prog.underlying 74).isSome = true := by kernel_rfl
@[go_sem] theorem tyi_74 : tyi Try.prog 74 = some ⟨false, 1, 8, [Value.nilFunc]⟩ := by kernel_rfl
@[go_sem] theorem uis_75 : (Try.prog.underlying 75).isSome = true := by kernel_rfl
@[go_sem] theorem tyi_75 : tyi Try.prog 75 = some ⟨false, 1, 8, [Value.nilFunc]⟩ := by kernel_rfl
@[go_sem] theorem uis_76 : (Try.prog.underlying 76).isSome = true := by kernel_rfl
@[go_sem] theorem tyi_76 : tyi Try.prog 76 = some ⟨false, 1, 8, [Value.nilFunc]⟩ := by kernel_rfl
@[go_sem] theorem uis_77 : (Try.prog.underlying 77).isSome = true := by kernel_rfl
@[go_sem] theorem tyi_77 : tyi Try.prog 77 = some ⟨false, 1, 8, [Value.nilFunc]⟩ := by kernel_rfl
@[go_sem] theorem uis_78 : (Try.prog.underlying 78).isSome = true := by kernel_rfl
@[go_sem] theorem tyi_78 : tyi Try.prog 78 = some ⟨false, 1, 8, [Value.nilFunc]⟩ := by kernel_rfl
@[go_sem] theorem uis_79 : (Try.prog.underlying 79).isSome = true := by kernel_rfl
@[go_sem] theorem tyi_79 : tyi Try.prog 79 = some ⟨false, 1, 8, [Value.nilFunc]⟩ := by kernel_rfl
@[go_sem] theorem uis_80 : (Try.prog.underlying 80).isSome = true := by kernel_rfl
@[go_sem] theorem tyi_80 : tyi Try.prog 80 = some ⟨false, 1, 8, [Value.nilFunc]⟩ := by kernel_rfl
@[go_sem] theorem uis_81 : (Try.prog.underlying 81).isSome = true := by kernel_rfl
@[go_sem] theorem tyi_81 : tyi Try.prog 81 = some ⟨false, 1, 8, [Value.nilFunc]⟩ := by kernel_rfl
@[go_sem] theorem uis_82 : (Try.prog.underlying 82).isSome = true := by kernel_rfl
@[go_sem] theorem tyi_82 : tyi Try.prog 82 = some ⟨false, 1, 8, [Value.nilFunc]⟩ := by kernel_rfl
@[go_sem] theorem uis_83 : (Try.prog.underlying 83).isSome = true := by kernel_rfl
@[go_sem] theorem tyi_83 : tyi Try.prog 83 = some ⟨false, 1, 24, [Value.slice none 0 0]⟩ := by kernel_rfl
@[go_sem] theorem elt_83 : elt Try.prog 83 = some 52 := by kernel_rfl
@[go_sem] theorem arrt_83 : arrt Try.prog 83 = none := by kernel_rfl
@[go_sem] theorem uis_84 : (Try.prog.underlying 84).isSome = true := by kernel_rfl
@[go_sem] theorem tyi_84 : tyi Try.prog 84 = some ⟨true, 1, 24, [Value.slice none 0 0]⟩ := by kernel_rfl
@[go_sem] theorem fldt_84_0 : fldt Try.prog 84 0 = some (0, 83) := by kernel_rfl
@[go_sem] theorem places_84 : places Try.prog 84 = some ([(0, 1)]) := by kernel_rfl
@[go_sem] theorem uis_85 : (Try.prog.underlying 85).isSome = true := by kernel_rfl
@[go_sem] theorem tyi_85 : tyi Try.prog 85 = some ⟨true, 1, 24, [Value.slice none 0 0]⟩ := by kernel_rfl
@[go_sem] theorem fldt_85_0 : fldt Try.prog 85 0 = some (0, 83) := by kernel_rfl
@[go_sem] theorem places_85 : places Try.prog 85 = some ([(0, 1)]) := by kernel_rfl
@[go_sem] theorem uis_86 : (Try.prog.underlying 86).isSome = true := by kernel_rfl
@[go_sem] theorem tyi_86 : tyi Try.prog 86 = some ⟨false, 1, 8, [Value.nilFunc]⟩ := by kernel_rfl
@[go_sem] theorem uis_87 : (Try.prog.underlying 87).isSome = true := by kernel_rfl
@[go_sem] theorem tyi_87 : tyi Try.prog 87 = some ⟨true, 18, 184, [Value.bool false, Value.int IntKind.i64 0, Value.string (ByteArray.mk #[]), Value.int IntKind.i64 0, Value.int IntKind.i64 0, Value.int IntKind.i64 0, Value.int IntKind.i64 0, Value.int IntKind.i64 0, Value.int IntKind.i64 0, Value.int IntKind.i64 0, Value.int IntKind.i64 0, Value.int IntKind.i64 0, Value.int IntKind.i64 0, Value.int IntKind.i64 0, Value.int IntKind.i64 0, Value.int IntKind.i64 0, Value.slice none 0 0, Value.slice none 0 0]⟩ := by kernel_rfl
@[go_sem] theorem fldt_87_0 : fldt Try.prog 87 0 = some (0, 4) := by kernel_rfl
@[go_sem] theorem fldt_87_1 : fldt Try.prog 87 1 = some (1, 52) := by kernel_rfl
@[go_sem] theorem fldt_87_2 : fldt Try.prog 87 2 = some (5, 3) := by kernel_rfl
@[go_sem] theorem fldt_87_3 : fldt Try.prog 87 3 = some (6, 3) := by kernel_rfl
@[go_sem] theorem fldt_87_4 : fldt Try.prog 87 4 = some (7, 3) := by kernel_rfl
@[go_sem] theorem fldt_87_5 : fldt Try.prog 87 5 = some (8, 3) := by kernel_rfl
@[go_sem] theorem fldt_87_6 : fldt Try.prog 87 6 = some (9, 3) := by kernel_rfl
@[go_sem] theorem fldt_87_7 : fldt Try.prog 87 7 = some (10, 3) := by kernel_rfl
@[go_sem] theorem fldt_87_8 : fldt Try.prog 87 8 = some (11, 3) := by kernel_rfl
@[go_sem] theorem fldt_87_9 : fldt Try.prog 87 9 = some (12, 3) := by kernel_rfl
@[go_sem] theorem fldt_87_10 : fldt Try.prog 87 10 = some (13, 3) := by kernel_rfl
@[go_sem] theorem fldt_87_11 : fldt Try.prog 87 11 = some (14, 3) := by kernel_rfl
@[go_sem] theorem fldt_87_12 : fldt Try.prog 87 12 = some (15, 3) := by kernel_rfl
@[go_sem] theorem fldt_87_13 : fldt Try.prog 87 13 = some (16, 24) := by kernel_rfl
@[go_sem] theorem fldt_87_14 : fldt Try.prog 87 14 = some (17, 24) := by kernel_rfl
@[go_sem] theorem places_87 : places Try.prog 87 = some ([(0, 1), (1, 4), (5, 1), (6, 1), (7, 1), (8, 1), (9, 1), (10, 1), (11, 1), (12, 1), (13, 1), (14, 1), (15, 1), (16, 1), (17, 1)]) := by kernel_rfl
@[go_sem] theorem uis_88 : (Try.prog.underlying 88).isSome = true := by kernel_rfl
@[go_sem] theorem tyi_88 : tyi Try.prog 88 = some ⟨true, 18, 184, [Value.bool false, Value.int IntKind.i64 0, Value.string (ByteArray.mk #[]), Value.int IntKind.i64 0, Value.int IntKind.i64 0, Value.int IntKind.i64 0, Value.int IntKind.i64 0, Value.int IntKind.i64 0, Value.int IntKind.i64 0, Value.int IntKind.i64 0, Value.int IntKind.i64 0, Value.int IntKind.i64 0, Value.int IntKind.i64 0, Value.int IntKind.i64 0, Value.int IntKind.i64 0, Value.int IntKind.i64 0, Value.slice none 0 0, Value.slice none 0 0]⟩ := by kernel_rfl
@[go_sem] theorem fldt_88_0 : fldt Try.prog 88 0 = some (0, 4) := by kernel_rfl
@[go_sem] theorem fldt_88_1 : fldt Try.prog 88 1 = some (1, 52) := by kernel_rfl
@[go_sem] theorem fldt_88_2 : fldt Try.prog 88 2 = some (5, 3) := by kernel_rfl
@[go_sem] theorem fldt_88_3 : fldt Try.prog 88 3 = some (6, 3) := by kernel_rfl
@[go_sem] theorem fldt_88_4 : fldt Try.prog 88 4 = some (7, 3) := by kernel_rfl
@[go_sem] theorem fldt_88_5 : fldt Try.prog 88 5 = some (8, 3) := by kernel_rfl
@[go_sem] theorem fldt_88_6 : fldt Try.prog 88 6 = some (9, 3) := by kernel_rfl
@[go_sem] theorem fldt_88_7 : fldt Try.prog 88 7 = some (10, 3) := by kernel_rfl
@[go_sem] theorem fldt_88_8 : fldt Try.prog 88 8 = some (11, 3) := by kernel_rfl
@[go_sem] theorem fldt_88_9 : fldt Try.prog 88 9 = some (12, 3) := by kernel_rfl
@[go_sem] theorem fldt_88_10 : fldt Try.prog 88 10 = some (13, 3) := by kernel_rfl
@[go_sem] theorem fldt_88_11 : fldt Try.prog 88 11 = some (14, 3) := by kernel_rfl
@[go_sem] theorem fldt_88_12 : fldt Try.prog 88 12 = some (15, 3) := by kernel_rfl
@[go_sem] theorem fldt_88_13 : fldt Try.prog 88 13 = some (16, 24) := by kernel_rfl
@[go_sem] theorem fldt_88_14 : fldt Try.prog 88 14 = some (17, 24) := by kernel_rfl
@[go_sem] theorem places_88 : places Try.prog 88 = some ([(0, 1), (1, 4), (5, 1), (6, 1), (7, 1), (8, 1), (9, 1), (10, 1), (11, 1), (12, 1), (13, 1), (14, 1), (15, 1), (16, 1), (17, 1)]) := by kernel_rfl
@[go_sem] theorem uis_89 : (Try.prog.underlying 89).isSome = true := by kernel_rfl
@[go_sem] theorem tyi_89 : tyi Try.prog 89 = some ⟨false, 1, 24, [Value.slice none 0 0]⟩ := by kernel_rfl
@[go_sem] theorem elt_89 : elt Try.prog 89 = some 46 := by kernel_rfl
@[go_sem] theorem arrt_89 : arrt Try.prog 89 = none := by kernel_rfl
@[go_sem] theorem uis_90 : (Try.prog.underlying 90).isSome = true := by kernel_rfl
@[go_sem] theorem tyi_90 : tyi Try.prog 90 = some ⟨false, 1, 8, [Value.nilFunc]⟩ := by kernel_rfl
@[go_sem] theorem uis_91 : (Try.prog.underlying 91).isSome = true := by kernel_rfl
@[go_sem] theorem tyi_91 : tyi Try.prog 91 = some ⟨false, 1, 8, [Value.nilFunc]⟩ := by kernel_rfl
@[go_sem] theorem uis_92 : (Try.prog.underlying 92).isSome = true := by kernel_rfl
@[go_sem] theorem tyi_92 : tyi Try.prog 92 = some ⟨false, 1, 8, [Value.nilFunc]⟩ := by kernel_rfl
@[go_sem] theorem uis_93 : (Try.prog.underlying 93).isSome = true := by kernel_rfl
@[go_sem] theorem tyi_93 : tyi Try.prog 93 = some ⟨false, 1, 24, [Value.slice none 0 0]⟩ := by kernel_rfl
@[go_sem] theorem elt_93 : elt Try.prog 93 = some 42 := by kernel_rfl
@[go_sem] theorem arrt_93 : arrt Try.prog 93 = none := by kernel_rfl
@[go_sem] theorem uis_94 : (Try.prog.underlying 94).isSome = true := by kernel_rfl
@[go_sem] theorem tyi_94 : tyi Try.prog 94 = some ⟨true, 1, 24, [Value.slice none 0 0]⟩ := by kernel_rfl
@[go_sem] theorem fldt_94_0 : fldt Try.prog 94 0 = some (0, 93) := by kernel_rfl
@[go_sem] theorem places_94 : places Try.prog 94 = some ([(0, 1)]) := by kernel_rfl
@[go_sem] theorem uis_95 : (Try.prog.underlying 95).isSome = true := by kernel_rfl
@[go_sem] theorem tyi_95 : tyi Try.prog 95 = some ⟨true, 1, 24, [Value.slice none 0 0]⟩ := by kernel_rfl
@[go_sem] theorem fldt_95_0 : fldt Try.prog 95 0 = some (0, 93) := by kernel_rfl
@[go_sem] theorem places_95 : places Try.prog 95 = some ([(0, 1)]) := by kernel_rfl
@[go_sem] theorem uis_96 : (Try.prog.underlying 96).isSome = true := by kernel_rfl
@[go_sem] theorem tyi_96 : tyi Try.prog 96 = some ⟨false, 1, 8, [Value.nilFunc]⟩ := by kernel_rfl
@[go_sem] theorem uis_97 : (Try.prog.underlying 97).isSome = true := by kernel_rfl
@[go_sem] theorem tyi_97 : tyi Try.prog 97 = some ⟨false, 1, 8, [Value.nilFunc]⟩ := by kernel_rfl
@[go_sem] theorem uis_98 : (Try.prog.underlying 98).isSome = true := by kernel_rfl
@[go_sem] theorem tyi_98 : tyi Try.prog 98 = some ⟨false, 1, 8, [Value.nilFunc]⟩ := by kernel_rfl
@[go_sem] theorem uis_99 : (Try.prog.underlying 99).isSome = true := by kernel_rfl
@[go_sem] theorem tyi_99 : tyi Try.prog 99 = some ⟨false, 1, 8, [Value.nilFunc]⟩ := by kernel_rfl
@[go_sem] theorem uis_100 : (Try.prog.underlying 100).isSome = true := by kernel_rfl
@[go_sem] theorem tyi_100 : tyi Try.prog 100 = some ⟨false, 1, 8, [Value.nilFunc]⟩ := by kernel_rfl
@[go_sem] theorem uis_101 : (Try.prog.underlying 101).isSome = true := by kernel_rfl
@[go_sem] theorem tyi_101 : tyi Try.prog 101 = some ⟨false, 1, 8, [Value.nilFunc]⟩ := by kernel_rfl
@[go_sem] theorem uis_102 : (Try.prog.underlying 102).isSome = true := by kernel_rfl
@[go_sem] theorem tyi_102 : tyi Try.prog 102 = some ⟨false, 1, 8, [Value.nilFunc]⟩ := by kernel_rfl
@[go_sem] theorem uis_103 : (Try.prog.underlying 103).isSome = true := by kernel_rfl
@[go_sem] theorem tyi_103 : tyi Try.prog 103 = some ⟨false, 1, 8, [Value.nilFunc]⟩ := by kernel_rfl
@[go_sem] theorem uis_104 : (Try.prog.underlying 104).isSome = true := by kernel_rfl
@[go_sem] theorem tyi_104 : tyi Try.prog 104 = some ⟨false, 1, 8, [Value.nilFunc]⟩ := by kernel_rfl
@[go_sem] theorem uis_105 : (Try.prog.underlying 105).isSome = true := by kernel_rfl
@[go_sem] theorem tyi_105 : tyi Try.prog 105 = some ⟨false, 1, 8, [Value.nilFunc]⟩ := by kernel_rfl
@[go_sem] theorem uis_106 : (Try.prog.underlying 106).isSome = true := by kernel_rfl
@[go_sem] theorem tyi_106 : tyi Try.prog 106 = some ⟨false, 1, 8, [Value.nilFunc]⟩ := by kernel_rfl
@[go_sem] theorem uis_107 : (Try.prog.underlying 107).isSome = true := by kernel_rfl
@[go_sem] theorem tyi_107 : tyi Try.prog 107 = some ⟨false, 1, 8, [Value.nilFunc]⟩ := by kernel_rfl
@[go_sem] theorem uis_108 : (Try.prog.underlying 108).isSome = true := by kernel_rfl
@[go_sem] theorem tyi_108 : tyi Try.prog 108 = some ⟨false, 1, 8, [Value.nilFunc]⟩ := by kernel_rfl
@[go_sem] theorem uis_109 : (Try.prog.underlying 109).isSome = true := by kernel_rfl
@[go_sem] theorem tyi_109 : tyi Try.prog 109 = some ⟨false, 1, 0, [Value.tuple (Array.mk [Value.agg (Array.mk [Value.slice none 0 0, Value.slice none 0 0]), Value.int IntKind.i64 0])]⟩ := by kernel_rfl
@[go_sem] theorem uis_110 : (Try.prog.underlying 110).isSome = true := by kernel_rfl
@[go_sem] theorem tyi_110 : tyi Try.prog 110 = some ⟨false, 1, 8, [Value.nilFunc]⟩ := by kernel_rfl
@[go_sem] theorem uis_111 : (Try.prog.underlying 111).isSome = true := by kernel_rfl
@[go_sem] theorem tyi_111 : tyi Try.prog 111 = some ⟨false, 1, 8, [Value.nilFunc]⟩ := by kernel_rfl
@[go_sem] theorem uis_112 : (Try.prog.underlying 112).isSome = true := by kernel_rfl
@[go_sem] theorem tyi_112 : tyi Try.prog 112 = some ⟨false, 1, 8, [Value.nilFunc]⟩ := by kernel_rfl
@[go_sem] theorem uis_113 : (Try.prog.underlying 113).isSome = true := by kernel_rfl
@[go_sem] theorem tyi_113 : tyi Try.prog 113 = some ⟨false, 1, 8, [Value.nilFunc]⟩ := by kernel_rfl
@[go_sem] theorem uis_114 : (Try.prog.underlying 114).isSome = true := by kernel_rfl
@[go_sem] theorem tyi_114 : tyi Try.prog 114 = some ⟨false, 1, 8, [Value.nilFunc]⟩ := by kernel_rfl
@[go_sem] theorem uis_115 : (Try.prog.underlying 115).isSome = true := by kernel_rfl
@[go_sem] theorem tyi_115 : tyi Try.prog 115 = some ⟨false, 1, 8, [Value.nilFunc]⟩ := by kernel_rfl
@[go_sem] theorem uis_116 : (Try.prog.underlying 116).isSome = true := by kernel_rfl
@[go_sem] theorem tyi_116 : tyi Try.prog 116 = some ⟨false, 1, 8, [Value.nilFunc]⟩ := by kernel_rfl
@[go_sem] theorem uis_117 : (Try.prog.underlying 117).isSome = true := by kernel_rfl
@[go_sem] theorem tyi_117 : tyi Try.prog 117 = some ⟨false, 1, 8, [Value.nilFunc]⟩ := by kernel_rfl
@[go_sem] theorem uis_118 : (Try.prog.underlying 118).isSome = true := by kernel_rfl
@[go_sem] theorem tyi_118 : tyi Try.prog 118 = some ⟨false, 1, 8, [Value.pointer none]⟩ := by kernel_rfl
@[go_sem] theorem uis_119 : (Try.prog.underlying 119).isSome = true := by kernel_rfl
@[go_sem] theorem tyi_119 : tyi Try.prog 119 = some ⟨false, 1, 8, [Value.nilFunc]⟩ := by kernel_rfl
@[go_sem] theorem uis_120 : (Try.prog.underlying 120).isSome = true := by kernel_rfl
@[go_sem] theorem tyi_120 : tyi Try.prog 120 = some ⟨false, 1, 8, [Value.nilFunc]⟩ := by kernel_rfl
@[go_sem] theorem uis_121 : (Try.prog.underlying 121).isSome = true := by kernel_rfl
@[go_sem] theorem tyi_121 : tyi Try.prog 121 = some ⟨false, 1, 8, [Value.nilFunc]⟩ := by kernel_rfl
@[go_sem] theorem uis_122 : (Try.prog.underlying 122).isSome = true := by kernel_rfl
@[go_sem] theorem tyi_122 : tyi Try.prog 122 = some ⟨false, 1, 8, [Value.nilFunc]⟩ := by kernel_rfl
@[go_sem] theorem uis_123 : (Try.prog.underlying 123).isSome = true := by kernel_rfl
@[go_sem] theorem tyi_123 : tyi Try.prog 123 = some ⟨false, 1, 8, [Value.nilFunc]⟩ := by kernel_rfl
@[go_sem] theorem uis_124 : (Try.prog.underlying 124).isSome = true := by kernel_rfl
@[go_sem] theorem tyi_124 : tyi Try.prog 124 = some ⟨false, 1, 8, [Value.nilFunc]⟩ := by kernel_rfl
@[go_sem] theorem uis_125 : (Try.prog.underlying 125).isSome = true := by kernel_rfl
@[go_sem] theorem tyi_125 : tyi Try.prog 125 = some ⟨false, 1, 8, [Value.nilFunc]⟩ := by kernel_rfl
@[go_sem] theorem uis_126 : (Try.prog.underlying 126).isSome = true := by kernel_rfl
@[go_sem] theorem tyi_126 : tyi Try.prog 126 = some ⟨false, 1, 8, [Value.nilFunc]⟩ := by kernel_rfl
@[go_sem] theorem uis_127 : (Try.prog.underlying 127).isSome = true := by kernel_rfl
@[go_sem] theorem tyi_127 : tyi Try.prog 127 = some ⟨false, 1, 8, [Value.nilFunc]⟩ := by kernel_rfl
@[go_sem] theorem uis_128 : (Try.prog.underlying 128).isSome = true := by kernel_rfl
@[go_sem] theorem tyi_128 : tyi Try.prog 128 = some ⟨false, 1, 8, [Value.nilFunc]⟩ := by kernel_rfl
@[go_sem] theorem uis_129 : (Try.prog.underlying 129).isSome = true := by kernel_rfl
@[go_sem] theorem tyi_129 : tyi Try.prog 129 = some ⟨false, 1, 8, [Value.nilFunc]⟩ := by kernel_rfl
@[go_sem] theorem uis_130 : (Try.prog.underlying 130).isSome = true := by kernel_rfl
@[go_sem] theorem tyi_130 : tyi Try.prog 130 = some ⟨false, 1, 8, [Value.nilFunc]⟩ := by kernel_rfl
@[go_sem] theorem uis_131 : (Try.prog.underlying 131).isSome = true := by kernel_rfl
@[go_sem] theorem tyi_131 : tyi Try.prog 131 = some ⟨false, 1, 8, [Value.nilFunc]⟩ := by kernel_rfl
@[go_sem] theorem uis_132 : (Try.prog.underlying 132).isSome = true := by kernel_rfl
@[go_sem] theorem tyi_132 : tyi Try.prog 132 = some ⟨false, 1, 8, [Value.nilFunc]⟩ := by kernel_rfl
@[go_sem] theorem uis_133 : (Try.prog.underlying 133).isSome = true := by kernel_rfl
@[go_sem] theorem tyi_133 : tyi Try.prog 133 = some ⟨false, 1, 8, [Value.nilFunc]⟩ := by kernel_rfl
@[go_sem] theorem uis_134 : (Try.prog.underlying 134).isSome = true := by kernel_rfl
@[go_sem] theorem tyi_134 : tyi Try.prog 134 = some ⟨false, 1, 8, [Value.nilFunc]⟩ := by kernel_rfl
@[go_sem] theorem uis_135 : (Try.prog.underlying 135).isSome = true := by kernel_rfl
@[go_sem] theorem tyi_135 : tyi Try.prog 135 = some ⟨false, 1, 8, [Value.nilFunc]⟩ := by kernel_rfl
@[go_sem] theorem uis_136 : (Try.prog.underlying 136).isSome = true := by kernel_rfl
@[go_sem] theorem tyi_136 : tyi Try.prog 136 = some ⟨false, 1, 0, [Value.tuple (Array.mk [Value.string (ByteArray.mk #[]), Value.int IntKind.i64 0])]⟩ := by kernel_rfl
@[go_sem] theorem uis_137 : (Try.prog.underlying 137).isSome = true := by kernel_rfl
@[go_sem] theorem tyi_137 : tyi Try.prog 137 = some ⟨false, 1, 8, [Value.nilFunc]⟩ := by kernel_rfl
@[go_sem] theorem uis_138 : (Try.prog.underlying 138).isSome = true := by kernel_rfl
@[go_sem] theorem tyi_138 : tyi Try.prog 138 = some ⟨false, 1, 0, [Value.tuple (Array.mk [Value.int IntKind.i64 0, Value.int IntKind.i64 0])]⟩ := by kernel_rfl
@[go_sem] theorem uis_139 : (Try.prog.underlying 139).isSome = true := by kernel_rfl
@[go_sem] theorem tyi_139 : tyi Try.prog 139 = some ⟨false, 1, 8, [Value.nilFunc]⟩ := by kernel_rfl
@[go_sem] theorem uis_140 : (Try.prog.underlying 140).isSome = true := by kernel_rfl
@[go_sem] theorem tyi_140 : tyi Try.prog 140 = some ⟨false, 1, 8, [Value.nilFunc]⟩ := by kernel_rfl
@[go_sem] theorem uis_141 : (Try.prog.underlying 141).isSome = true := by kernel_rfl
@[go_sem] theorem tyi_141 : tyi Try.prog 141 = some ⟨false, 1, 8, [Value.nilFunc]⟩ := by kernel_rfl
@[go_sem] theorem uis_142 : (Try.prog.underlying 142).isSome = true := by kernel_rfl
@[go_sem] theorem tyi_142 : tyi Try.prog 142 = some ⟨false, 1, 8, [Value.pointer none]⟩ := by kernel_rfl
@[go_sem] theorem uis_143 : (Try.prog.underlying 143).isSome = true := by kernel_rfl
@[go_sem] theorem tyi_143 : tyi Try.prog 143 = some ⟨false, 1, 8, [Value.pointer none]⟩ := by kernel_rfl
@[go_sem] theorem uis_144 : (Try.prog.underlying 144).isSome = true := by kernel_rfl
@[go_sem] theorem tyi_144 : tyi Try.prog 144 = some ⟨true, 3, 24, [Value.pointer none, Value.int IntKind.i64 0, Value.pointer none]⟩ := by kernel_rfl
@[go_sem] theorem fldt_144_0 : fldt Try.prog 144 0 = some (0, 142) := by kernel_rfl
@[go_sem] theorem fldt_144_1 : fldt Try.prog 144 1 = some (1, 3) := by kernel_rfl
@[go_sem] theorem fldt_144_2 : fldt Try.prog 144 2 = some (2, 143) := by kernel_rfl
@[go_sem] theorem places_144 : places Try.prog 144 = some ([(0, 1), (1, 1), (2, 1)]) := by kernel_rfl
@[go_sem] theorem uis_145 : (Try.prog.underlying 145).isSome = true := by kernel_rfl
@[go_sem] theorem tyi_145 : tyi Try.prog 145 = some ⟨true, 3, 24, [Value.pointer none, Value.int IntKind.i64 0, Value.pointer none]⟩ := by kernel_rfl
@[go_sem] theorem fldt_145_0 : fldt Try.prog 145 0 = some (0, 142) := by kernel_rfl
@[go_sem] theorem fldt_145_1 : fldt Try.prog 145 1 = some (1, 3) := by kernel_rfl
@[go_sem] theorem fldt_145_2 : fldt Try.prog 145 2 = some (2, 143) := by kernel_rfl
@[go_sem] theorem places_145 : places Try.prog 145 = some ([(0, 1), (1, 1), (2, 1)]) := by kernel_rfl
@[go_sem] theorem uis_146 : (Try.prog.underlying 146).isSome = true := by kernel_rfl
@[go_sem] theorem tyi_146 : tyi Try.prog 146 = some ⟨false, 1, 8, [Value.nilFunc]⟩ := by kernel_rfl
@[go_sem] theorem uis_147 : (Try.prog.underlying 147).isSome = true := by kernel_rfl
@[go_sem] theorem tyi_147 : tyi Try.prog 147 = some ⟨true, 13, 128, [Value.int IntKind.i64 0, Value.int IntKind.i64 0, Value.int IntKind.i64 0, Value.int IntKind.i64 0, Value.int IntKind.i64 0, Value.string (ByteArray.mk #[]), Value.int IntKind.i64 0, Value.int IntKind.i64 0, Value.int IntKind.i64 0, Value.int IntKind.i64 0, Value.int IntKind.i64 0, Value.int IntKind.i64 0, Value.slice none 0 0]⟩ := by kernel_rfl
@[go_sem] theorem fldt_147_0 : fldt Try.prog 147 0 = some (0, 3) := by kernel_rfl
@[go_sem] theorem fldt_147_1 : fldt Try.prog 147 1 = some (1, 3) := by kernel_rfl
@[go_sem] theorem fldt_147_2 : fldt Try.prog 147 2 = some (2, 3) := by kernel_rfl
@[go_sem] theorem fldt_147_3 : fldt Try.prog 147 3 = some (3, 3) := by kernel_rfl
@[go_sem] theorem fldt_147_4 : fldt Try.prog 147 4 = some (4, 52) := by kernel_rfl
@[go_sem] theorem fldt_147_5 : fldt Try.prog 147 5 = some (8, 3) := by kernel_rfl
@[go_sem] theorem fldt_147_6 : fldt Try.prog 147 6 = some (9, 3) := by kernel_rfl
@[go_sem] theorem fldt_147_7 : fldt Try.prog 147 7 = some (10, 3) := by kernel_rfl
@[go_sem] theorem fldt_147_8 : fldt Try.prog 147 8 = some (11, 3) := by kernel_rfl
@[go_sem] theorem fldt_147_9 : fldt Try.prog 147 9 = some (12, 46) := by kernel_rfl
@[go_sem] theorem places_147 : places Try.prog 147 = some ([(0, 1), (1, 1), (2, 1), (3, 1), (4, 4), (8, 1), (9, 1), (10, 1), (11, 1), (12, 1)]) := by kernel_rfl
@[go_sem] theorem uis_148 : (Try.prog.underlying 148).isSome = true := by kernel_rfl
@[go_sem] theorem tyi_148 : tyi Try.prog 148 = some ⟨true, 13, 128, [Value.int IntKind.i64 0, Value.int IntKind.i64 0, Value.int IntKind.i64 0, Value.int IntKind.i64 0, Value.int IntKind.i64 0, Value.string (ByteArray.mk #[]), Value.int IntKind.i64 0, Value.int IntKind.i64 0, Value.int IntKind.i64 0, Value.int IntKind.i64 0, Value.int IntKind.i64 0, Value.int IntKind.i64 0, Value.slice none 0 0]⟩ := by kernel_rfl
@[go_sem] theorem fldt_148_0 : fldt Try.prog 148 0 = some (0, 3) := by kernel_rfl
@[go_sem] theorem fldt_148_1 : fldt Try.prog 148 1 = some (1, 3) := by kernel_rfl
@[go_sem] theorem fldt_148_2 : fldt Try.prog 148 2 = some (2, 3) := by kernel_rfl
@[go_sem] theorem fldt_148_3 : fldt Try.prog 148 3 = some (3, 3) := by kernel_rfl
@[go_sem] theorem fldt_148_4 : fldt Try.prog 148 4 = some (4, 52) := by kernel_rfl
@[go_sem] theorem fldt_148_5 : fldt Try.prog 148 5 = some (8, 3) := by kernel_rfl
@[go_sem] theorem fldt_148_6 : fldt Try.prog 148 6 = some (9, 3) := by kernel_rfl
@[go_sem] theorem fldt_148_7 : fldt Try.prog 148 7 = some (10, 3) := by kernel_rfl
@[go_sem] theorem fldt_148_8 : fldt Try.prog 148 8 = some (11, 3) := by kernel_rfl
@[go_sem] theorem fldt_148_9 : fldt Try.prog 148 9 = some (12, 46) := by kernel_rfl
@[go_sem] theorem places_148 : places Try.prog 148 = some ([(0, 1), (1, 1), (2, 1), (3, 1), (4, 4), (8, 1), (9, 1), (10, 1), (11, 1), (12, 1)]) := by kernel_rfl
@[go_sem] theorem uis_149 : (Try.prog.underlying 149).isSome = true := by kernel_rfl
@[go_sem] theorem tyi_149 : tyi Try.prog 149 = some ⟨false, 1, 8, [Value.nilFunc]⟩ := by kernel_rfl
@[go_sem] theorem uis_150 : (Try.prog.underlying 150).isSome = true := by kernel_rfl
@[go_sem] theorem tyi_150 : tyi Try.prog 150 = some ⟨false, 1, 8, [Value.nilFunc]⟩ := by kernel_rfl
@[go_sem] theorem uis_151 : (Try.prog.underlying 151).isSome = true := by kernel_rfl
@[go_sem] theorem tyi_151 : tyi Try.prog 151 = some ⟨false, 1, 8, [Value.nilFunc]⟩ := by kernel_rfl
@[go_sem] theorem uis_152 : (Try.prog.underlying 152).isSome = true := by kernel_rfl
@[go_sem] theorem tyi_152 : tyi Try.prog 152 = some ⟨false, 1, 8, [Value.nilFunc]⟩ := by kernel_rfl
@[go_sem] theorem uis_153 : (Try.prog.underlying 153).isSome = true := by kernel_rfl
@[go_sem] theorem tyi_153 : tyi Try.prog 153 = some ⟨false, 1, 8, [Value.nilFunc]⟩ := by kernel_rfl
@[go_sem] theorem uis_154 : (Try.prog.underlying 154).isSome = true := by kernel_rfl
@[go_sem] theorem tyi_154 : tyi Try.prog 154 = some ⟨false, 1, 8, [Value.nilFunc]⟩ := by kernel_rfl
@[go_sem] theorem uis_155 : (Try.prog.underlying 155).isSome = true := by kernel_rfl
@[go_sem] theorem tyi_155 : tyi Try.prog 155 = some ⟨false, 1, 8, [Value.nilFunc]⟩ := by kernel_rfl
@[go_sem] theorem uis_156 : (Try.prog.underlying 156).isSome = true := by kernel_rfl
@[go_sem] theorem tyi_156 : tyi Try.prog 156 = some ⟨false, 1, 8, [Value.nilFunc]⟩ := by kernel_rfl
@[go_sem] theorem uis_157 : (Try.prog.underlying 157).isSome = true := by kernel_rfl
@[go_sem] theorem tyi_157 : tyi Try.prog 157 = some ⟨true, 2, 24, [Value.string (ByteArray.mk #[]), Value.int IntKind.i64 0]⟩ := by kernel_rfl
@[go_sem] theorem fldt_157_0 : fldt Try.prog 157 0 = some (0, 9) := by kernel_rfl
@[go_sem] theorem fldt_157_1 : fldt Try.prog 157 1 = some (1, 3) := by kernel_rfl
@[go_sem] theorem places_157 : places Try.prog 157 = some ([(0, 1), (1, 1)]) := by kernel_rfl
@[go_sem] theorem uis_158 : (Try.prog.underlying 158).isSome = true := by kernel_rfl
@[go_sem] theorem tyi_158 : tyi Try.prog 158 = some ⟨false, 1, 8, [Value.nilFunc]⟩ := by kernel_rfl
@[go_sem] theorem uis_159 : (Try.prog.underlying 159).isSome = true := by kernel_rfl
@[go_sem] theorem tyi_159 : tyi Try.prog 159 = some ⟨true, 10, 88, [Value.string (ByteArray.mk #[]), Value.int IntKind.i64 0, Value.int IntKind.i64 0, Value.bool false, Value.int IntKind.i64 0, Value.int IntKind.i64 0, Value.int IntKind.i64 0, Value.int IntKind.i64 0, Value.int IntKind.i64 0, Value.int IntKind.i64 0]⟩ := by kernel_rfl
@[go_sem] theorem fldt_159_0 : fldt Try.prog 159 0 = some (0, 9) := by kernel_rfl
@[go_sem] theorem fldt_159_1 : fldt Try.prog 159 1 = some (1, 3) := by kernel_rfl
@[go_sem] theorem fldt_159_2 : fldt Try.prog 159 2 = some (2, 3) := by kernel_rfl
@[go_sem] theorem fldt_159_3 : fldt Try.prog 159 3 = some (3, 4) := by kernel_rfl
@[go_sem] theorem fldt_159_4 : fldt Try.prog 159 4 = some (4, 3) := by kernel_rfl
@[go_sem] theorem fldt_159_5 : fldt Try.prog 159 5 = some (5, 3) := by kernel_rfl
@[go_sem] theorem fldt_159_6 : fldt Try.prog 159 6 = some (6, 3) := by kernel_rfl
@[go_sem] theorem fldt_159_7 : fldt Try.prog 159 7 = some (7, 3) := by kernel_rfl
@[go_sem] theorem fldt_159_8 : fldt Try.prog 159 8 = some (8, 3) := by kernel_rfl
@[go_sem] theorem fldt_159_9 : fldt Try.prog 159 9 = some (9, 3) := by kernel_rfl
@[go_sem] theorem places_159 : places Try.prog 159 = some ([(0, 1), (1, 1), (2, 1), (3, 1), (4, 1), (5, 1), (6, 1), (7, 1), (8, 1), (9, 1)]) := by kernel_rfl
@[go_sem] theorem uis_160 : (Try.prog.underlying 160).isSome = true := by kernel_rfl
@[go_sem] theorem tyi_160 : tyi Try.prog 160 = some ⟨false, 1, 8, [Value.nilFunc]⟩ := by kernel_rfl
@[go_sem] theorem uis_161 : (Try.prog.underlying 161).isSome = true := by kernel_rfl
@[go_sem] theorem tyi_161 : tyi Try.prog 161 = some ⟨false, 1, 8, [Value.nilFunc]⟩ := by kernel_rfl
@[go_sem] theorem uis_162 : (Try.prog.underlying 162).isSome = true := by kernel_rfl
@[go_sem] theorem tyi_162 : tyi Try.prog 162 = some ⟨false, 1, 8, [Value.nilFunc]⟩ := by kernel_rfl
@[go_sem] theorem uis_163 : (Try.prog.underlying 163).isSome = true := by kernel_rfl
@[go_sem] theorem tyi_163 : tyi Try.prog 163 = some ⟨false, 1, 8, [Value.nilFunc]⟩ := by kernel_rfl
@[go_sem] theorem uis_164 : (Try.prog.underlying 164).isSome = true := by kernel_rfl
@[go_sem] theorem tyi_164 : tyi Try.prog 164 = some ⟨false, 1, 8, [Value.nilFunc]⟩ := by kernel_rfl
@[go_sem] theorem uis_165 : (Try.prog.underlying 165).isSome = true := by kernel_rfl
@[go_sem] theorem tyi_165 : tyi Try.prog 165 = some ⟨false, 1, 8, [Value.nilFunc]⟩ := by kernel_rfl
@[go_sem] theorem uis_166 : (Try.prog.underlying 166).isSome = true := by kernel_rfl
@[go_sem] theorem tyi_166 : tyi Try.prog 166 = some ⟨false, 1, 8, [Value.nilFunc]⟩ := by kernel_rfl
@[go_sem] theorem uis_167 : (Try.prog.underlying 167).isSome = true := by kernel_rfl
@[go_sem] theorem tyi_167 : tyi Try.prog 167 = some ⟨false, 1, 8, [Value.nilFunc]⟩ := by kernel_rfl
@[go_sem] theorem uis_168 : (Try.prog.underlying 168).isSome = true := by kernel_rfl
@[go_sem] theorem tyi_168 : tyi Try.prog 168 = some ⟨true, 3, 40, [Value.slice none 0 0, Value.int IntKind.i64 0, Value.int IntKind.i64 0]⟩ := by kernel_rfl
@[go_sem] theorem fldt_168_0 : fldt Try.prog 168 0 = some (0, 59) := by kernel_rfl
@[go_sem] theorem fldt_168_1 : fldt Try.prog 168 1 = some (1, 3) := by kernel_rfl
@[go_sem] theorem fldt_168_2 : fldt Try.prog 168 2 = some (2, 3) := by kernel_rfl
@[go_sem] theorem places_168 : places Try.prog 168 = some ([(0, 1), (1, 1), (2, 1)]) := by kernel_rfl
@[go_sem] theorem uis_169 : (Try.prog.underlying 169).isSome = true := by kernel_rfl
@[go_sem] theorem tyi_169 : tyi Try.prog 169 = some ⟨true, 3, 40, [Value.slice none 0 0, Value.int IntKind.i64 0, Value.int IntKind.i64 0]⟩ := by kernel_rfl
@[go_sem] theorem fldt_169_0 : fldt Try.prog 169 0 = some (0, 59) := by kernel_rfl
@[go_sem] theorem fldt_169_1 : fldt Try.prog 169 1 = some (1, 3) := by kernel_rfl
@[go_sem] theorem fldt_169_2 : fldt Try.prog 169 2 = some (2, 3) := by kernel_rfl
@[go_sem] theorem places_169 : places Try.prog 169 = some ([(0, 1), (1, 1), (2, 1)]) := by kernel_rfl
@[go_sem] theorem uis_170 : (Try.prog.underlying 170).isSome = true := by kernel_rfl
@[go_sem] theorem tyi_170 : tyi Try.prog 170 = some ⟨false, 1, 8, [Value.nilFunc]⟩ := by kernel_rfl
@[go_sem] theorem uis_171 : (Try.prog.underlying 171).isSome = true := by kernel_rfl
@[go_sem] theorem tyi_171 : tyi Try.prog 171 = some ⟨false, 1, 8, [Value.nilFunc]⟩ := by kernel_rfl
@[go_sem] theorem uis_172 : (Try.prog.underlying 172).isSome = true := by kernel_rfl
@[go_sem] theorem tyi_172 : tyi Try.prog 172 = some ⟨false, 1, 8, [Value.nilFunc]⟩ := by kernel_rfl
@[go_sem] theorem uis_173 : (Try.prog.underlying 173).isSome = true := by kernel_rfl
@[go_sem] theorem tyi_173 : tyi Try.prog 173 = some ⟨false, 1, 24, [Value.slice none 0 0]⟩ := by kernel_rfl
@[go_sem] theorem elt_173 : elt Try.prog 173 = some 9 := by kernel_rfl
@[go_sem] theorem arrt_173 : arrt Try.prog 173 = none := by kernel_rfl
@[go_sem] theorem uis_174 : (Try.prog.underlying 174).isSome = true := by kernel_rfl
@[go_sem] theorem tyi_174 : tyi Try.prog 174 = some ⟨false, 1, 8, [Value.nilFunc]⟩ := by kernel_rfl
@[go_sem] theorem uis_175 : (Try.prog.underlying 175).isSome = true := by kernel_rfl
@[go_sem] theorem tyi_175 : tyi Try.prog 175 = some ⟨false, 1, 8, [Value.nilFunc]⟩ := by kernel_rfl
@[go_sem] theorem uis_176 : (Try.prog.underlying 176).isSome = true := by kernel_rfl
@[go_sem] theorem tyi_176 : tyi Try.prog 176 = some ⟨false, 1, 8, [Value.nilFunc]⟩ := by kernel_rfl
@[go_sem] theorem uis_177 : (Try.prog.underlying 177).isSome = true := by kernel_rfl
@[go_sem] theorem tyi_177 : tyi Try.prog 177 = some ⟨false, 1, 8, [Value.nilFunc]⟩ := by kernel_rfl
@[go_sem] theorem uis_178 : (Try.prog.underlying 178).isSome = true := by kernel_rfl
@[go_sem] theorem tyi_178 : tyi Try.prog 178 = some ⟨false, 1, 8, [Value.nilFunc]⟩ := by kernel_rfl
@[go_sem] theorem uis_179 : (Try.prog.underlying 179).isSome = true := by kernel_rfl
@[go_sem] theorem tyi_179 : tyi Try.prog 179 = some ⟨false, 1, 0, [Value.tuple (Array.mk [Value.int IntKind.i64 0, Value.bool false])]⟩ := by kernel_rfl
@[go_sem] theorem uis_180 : (Try.prog.underlying 180).isSome = true := by kernel_rfl
@[go_sem] theorem tyi_180 : tyi Try.prog 180 = some ⟨false, 1, 8, [Value.nilFunc]⟩ := by kernel_rfl
@[go_sem] theorem uis_181 : (Try.prog.underlying 181).isSome = true := by kernel_rfl
@[go_sem] theorem tyi_181 : tyi Try.prog 181 = some ⟨false, 1, 8, [Value.nilFunc]⟩ := by kernel_rfl
@[go_sem] theorem uis_182 : (Try.prog.underlying 182).isSome = true := by kernel_rfl
@[go_sem] theorem tyi_182 : tyi Try.prog 182 = some ⟨false, 1, 8, [Value.nilFunc]⟩ := by kernel_rfl
@[go_sem] theorem uis_183 : (Try.prog.underlying 183).isSome = true := by kernel_rfl
@[go_sem] theorem tyi_183 : tyi Try.prog 183 = some ⟨false, 1, 8, [Value.nilFunc]⟩ := by kernel_rfl
@[go_sem] theorem uis_184 : (Try.prog.underlying 184).isSome = true := by kernel_rfl
@[go_sem] theorem tyi_184 : tyi Try.prog 184 = some ⟨false, 1, 8, [Value.nilFunc]⟩ := by kernel_rfl
@[go_sem] theorem uis_185 : (Try.prog.underlying 185).isSome = true := by kernel_rfl
@[go_sem] theorem tyi_185 : tyi Try.prog 185 = some ⟨false, 1, 0, [Value.tuple (Array.mk [Value.string (ByteArray.mk #[]), Value.bool false])]⟩ := by kernel_rfl
@[go_sem] theorem uis_186 : (Try.prog.underlying 186).isSome = true := by kernel_rfl
@[go_sem] theorem tyi_186 : tyi Try.prog 186 = some ⟨false, 1, 8, [Value.nilFunc]⟩ := by kernel_rfl
@[go_sem] theorem uis_187 : (Try.prog.underlying 187).isSome = true := by kernel_rfl
@[go_sem] theorem tyi_187 : tyi Try.prog 187 = some ⟨false, 1, 8, [Value.nilFunc]⟩ := by kernel_rfl
@[go_sem] theorem uis_188 : (Try.prog.underlying 188).isSome = true := by kernel_rfl
@[go_sem] theorem tyi_188 : tyi Try.prog 188 = some ⟨false, 1, 8, [Value.nilFunc]⟩ := by kernel_rfl
@[go_sem] theorem uis_189 : (Try.prog.underlying 189).isSome = true := by kernel_rfl
@[go_sem] theorem tyi_189 : tyi Try.prog 189 = some ⟨false, 1, 8, [Value.nilFunc]⟩ := by kernel_rfl
@[go_sem] theorem uis_190 : (Try.prog.underlying 190).isSome = true := by kernel_rfl
@[go_sem] theorem tyi_190 : tyi Try.prog 190 = some ⟨false, 1, 0, [Value.tuple (Array.mk [Value.slice none 0 0, Value.bool false])]⟩ := by kernel_rfl
@[go_sem] theorem uis_191 : (Try.prog.underlying 191).isSome = true := by kernel_rfl
@[go_sem] theorem tyi_191 : tyi Try.prog 191 = some ⟨false, 1, 8, [Value.nilFunc]⟩ := by kernel_rfl
@[go_sem] theorem uis_192 : (Try.prog.underlying 192).isSome = true := by kernel_rfl
@[go_sem] theorem tyi_192 : tyi Try.prog 192 = some ⟨false, 1, 8, [Value.nilFunc]⟩ := by kernel_rfl
@[go_sem] theorem uis_193 : (Try.prog.underlying 193).isSome = true := by kernel_rfl
@[go_sem] theorem tyi_193 : tyi Try.prog 193 = some ⟨false, 1, 8, [Value.nilFunc]⟩ := by kernel_rfl
@[go_sem] theorem uis_194 : (Try.prog.underlying 194).isSome = true := by kernel_rfl
@[go_sem] theorem tyi_194 : tyi Try.prog 194 = some ⟨false, 1, 8, [Value.nilFunc]⟩ := by kernel_rfl
@[go_sem] theorem uis_195 : (Try.prog.underlying 195).isSome = true := by kernel_rfl
@[go_sem] theorem tyi_195 : tyi Try.prog 195 = some ⟨false, 1, 8, [Value.nilFunc]⟩ := by kernel_rfl
@[go_sem] theorem uis_196 : (Try.prog.underlying 196).isSome = true := by kernel_rfl
@[go_sem] theorem tyi_196 : tyi Try.prog 196 = some ⟨false, 1, 8, [Value.nilFunc]⟩ := by kernel_rfl
@[go_sem] theorem uis_197 : (Try.prog.underlying 197).isSome = true := by kernel_rfl
@[go_sem] theorem tyi_197 : tyi Try.prog 197 = some ⟨false, 1, 8, [Value.nilFunc]⟩ := by kernel_rfl
@[go_sem] theorem uis_198 : (Try.prog.underlying 198).isSome = true := by kernel_rfl
@[go_sem] theorem tyi_198 : tyi Try.prog 198 = some ⟨false, 1, 8, [Value.nilFunc]⟩ := by kernel_rfl
@[go_sem] theorem uis_199 : (Try.prog.underlying 199).isSome = true := by kernel_rfl
@[go_sem] theorem tyi_199 : tyi Try.prog 199 = some ⟨false, 1, 8, [Value.nilFunc]⟩ := by kernel_rfl
@[go_sem] theorem uis_200 : (Try.prog.underlying 200).isSome = true := by kernel_rfl
@[go_sem] theorem tyi_200 : tyi Try.prog 200 = some ⟨false, 1, 8, [Value.int IntKind.u64 0]⟩ := by kernel_rfl
@[go_sem] theorem intKd_200 : intKd Try.prog 200 = some IntKind.u64 := by kernel_rfl
@[go_sem] theorem uis_201 : (Try.prog.underlying 201).isSome = true := by kernel_rfl
@[go_sem] theorem tyi_201 : tyi Try.prog 201 = some ⟨false, 1, 8, [Value.nilFunc]⟩ := by kernel_rfl
@[go_sem] theorem uis_202 : (Try.prog.underlying 202).isSome = true := by kernel_rfl
@[go_sem] theorem tyi_202 : tyi Try.prog 202 = some ⟨false, 1, 8, [Value.nilFunc]⟩ := by kernel_rfl
@[go_sem] theorem uis_203 : (Try.prog.underlying 203).isSome = true := by kernel_rfl
@[go_sem] theorem tyi_203 : tyi Try.prog 203 = some ⟨false, 1, 0, [Value.tuple (Array.mk [Value.slice none 0 0, Value.slice none 0 0])]⟩ := by kernel_rfl
@[go_sem] theorem uis_204 : (Try.prog.underlying 204).isSome = true := by kernel_rfl
@[go_sem] theorem tyi_204 : tyi Try.prog 204 = some ⟨false, 1, 8, [Value.nilFunc]⟩ := by kernel_rfl
@[go_sem] theorem uis_205 : (Try.prog.underlying 205).isSome = true := by kernel_rfl
@[go_sem] theorem tyi_205 : tyi Try.prog 205 = some ⟨false, 1, 8, [Value.nilFunc]⟩ := by kernel_rfl
@[go_sem] theorem uis_206 : (Try.prog.underlying 206).isSome = true := by kernel_rfl
@[go_sem] theorem tyi_206 : tyi Try.prog 206 = some ⟨false, 1, 8, [Value.nilFunc]⟩ := by kernel_rfl
@[go_sem] theorem uis_207 : (Try.prog.underlying 207).isSome = true := by kernel_rfl
@[go_sem] theorem tyi_207 : tyi Try.prog 207 = some ⟨false, 1, 8, [Value.nilFunc]⟩ := by kernel_rfl
@[go_sem] theorem uis_208 : (Try.prog.underlying 208).isSome = true := by kernel_rfl
@[go_sem] theorem tyi_208 : tyi Try.prog 208 = some ⟨false, 1, 8, [Value.nilFunc]⟩ := by kernel_rfl
@[go_sem] theorem uis_209 : (Try.prog.underlying 209).isSome = true := by kernel_rfl
@[go_sem] theorem tyi_209 : tyi Try.prog 209 = some ⟨false, 1, 8, [Value.nilFunc]⟩ := by kernel_rfl
@[go_sem] theorem uis_210 : (Try.prog.underlying 210).isSome = true := by kernel_rfl
@[go_sem] theorem tyi_210 : tyi Try.prog 210 = some ⟨false, 1, 8, [Value.nilFunc]⟩ := by kernel_rfl
@[go_sem] theorem uis_211 : (Try.prog.underlying 211).isSome = true := by kernel_rfl
@[go_sem] theorem tyi_211 : tyi Try.prog 211 = some ⟨false, 1, 8, [Value.nilFunc]⟩ := by kernel_rfl
@[go_sem] theorem uis_212 : (Try.prog.underlying 212).isSome = true := by kernel_rfl
@[go_sem] theorem tyi_212 : tyi Try.prog 212 = some ⟨false, 1, 8, [Value.nilFunc]⟩ := by kernel_rfl
@[go_sem] theorem uis_213 : (Try.prog.underlying 213).isSome = true := by kernel_rfl
@[go_sem] theorem tyi_213 : tyi Try.prog 213 = some ⟨false, 1, 8, [Value.nilFunc]⟩ := by kernel_rfl
@[go_sem] theorem uis_214 : (Try.prog.underlying 214).isSome = true := by kernel_rfl
@[go_sem] theorem tyi_214 : tyi Try.prog 214 = some ⟨false, 1, 8, [Value.nilFunc]⟩ := by kernel_rfl
@[go_sem] theorem uis_215 : (Try.prog.underlying 215).isSome = true := by kernel_rfl
@[go_sem] theorem tyi_215 : tyi Try.prog 215 = some ⟨false, 1, 8, [Value.nilFunc]⟩ := by kernel_rfl
@[go_sem] theorem uis_216 : (Try.prog.underlying 216).isSome = true := by kernel_rfl
@[go_sem] theorem tyi_216 : tyi Try.prog 216 = some ⟨false, 1, 8, [Value.nilFunc]⟩ := by kernel_rfl
@[go_sem] theorem uis_217 : (Try.prog.underlying 217).isSome = true := by kernel_rfl
@[go_sem] theorem tyi_217 : tyi Try.prog 217 = some ⟨false, 1, 0, [Value.tuple (Array.mk [Value.slice none 0 0, Value.int IntKind.i64 0, Value.int IntKind.i64 0])]⟩ := by kernel_rfl
@[go_sem] theorem uis_218 : (Try.prog.underlying 218).isSome = true := by kernel_rfl
@[go_sem] theorem tyi_218 : tyi Try.prog 218 = some ⟨false, 1, 8, [Value.nilFunc]⟩ := by kernel_rfl
@[go_sem] theorem uis_219 : (Try.prog.underlying 219).isSome = true := by kernel_rfl
@[go_sem] theorem tyi_219 : tyi Try.prog 219 = some ⟨false, 1, 8, [Value.nilFunc]⟩ := by kernel_rfl
@[go_sem] theorem uis_220 : (Try.prog.underlying 220).isSome = true := by kernel_rfl
@[go_sem] theorem tyi_220 : tyi Try.prog 220 = some ⟨false, 1, 8, [Value.nilFunc]⟩ := by kernel_rfl
@[go_sem] theorem uis_221 : (Try.prog.underlying 221).isSome = true := by kernel_rfl
@[go_sem] theorem tyi_221 : tyi Try.prog 221 = some ⟨false, 1, 4, [Value.int IntKind.u32 0]⟩ := by kernel_rfl
@[go_sem] theorem intKd_221 : intKd Try.prog 221 = some IntKind.u32 := by kernel_rfl
@[go_sem] theorem uis_222 : (Try.prog.underlying 222).isSome = true := by kernel_rfl
@[go_sem] theorem tyi_222 : tyi Try.prog 222 = some ⟨false, 1, 0, [Value.tuple (Array.mk [Value.int IntKind.i64 0, Value.int IntKind.i64 0, Value.int IntKind.i64 0])]⟩ := by kernel_rfl
@[go_sem] theorem uis_223 : (Try.prog.underlying 223).isSome = true := by kernel_rfl
@[go_sem] theorem tyi_223 : tyi Try.prog 223 = some ⟨false, 1, 8, [Value.nilFunc]⟩ := by kernel_rfl
@[go_sem] theorem uis_224 : (Try.prog.underlying 224).isSome = true := by kernel_rfl
@[go_sem] theorem tyi_224 : tyi Try.prog 224 = some ⟨false, 1, 8, [Value.nilFunc]⟩ := by kernel_rfl
@[go_sem] theorem uis_225 : (Try.prog.underlying 225).isSome = true := by kernel_rfl
@[go_sem] theorem tyi_225 : tyi Try.prog 225 = some ⟨false, 1, 8, [Value.nilFunc]⟩ := by kernel_rfl
@[go_sem] theorem uis_226 : (Try.prog.underlying 226).isSome = true := by kernel_rfl
@[go_sem] theorem tyi_226 : tyi Try.prog 226 = some ⟨true, 4, 40, [Value.pointer none, Value.pointer none, Value.pointer none, Value.string (ByteArray.mk #[])]⟩ := by kernel_rfl
@[go_sem] theorem fldt_226_0 : fldt Try.prog 226 0 = some (0, 17) := by kernel_rfl
@[go_sem] theorem fldt_226_1 : fldt Try.prog 226 1 = some (1, 17) := by kernel_rfl
@[go_sem] theorem fldt_226_2 : fldt Try.prog 226 2 = some (2, 17) := by kernel_rfl
@[go_sem] theorem fldt_226_3 : fldt Try.prog 226 3 = some (3, 9) := by kernel_rfl
@[go_sem] theorem places_226 : places Try.prog 226 = some ([(0, 1), (1, 1), (2, 1), (3, 1)]) := by kernel_rfl
@[go_sem] theorem uis_227 : (Try.prog.underlying 227).isSome = true := by kernel_rfl
@[go_sem] theorem tyi_227 : tyi Try.prog 227 = some ⟨true, 4, 40, [Value.pointer none, Value.pointer none, Value.pointer none, Value.string (ByteArray.mk #[])]⟩ := by kernel_rfl
@[go_sem] theorem fldt_227_0 : fldt Try.prog 227 0 = some (0, 17) := by kernel_rfl
@[go_sem] theorem fldt_227_1 : fldt Try.prog 227 1 = some (1, 17) := by kernel_rfl
@[go_sem] theorem fldt_227_2 : fldt Try.prog 227 2 = some (2, 17) := by kernel_rfl
@[go_sem] theorem fldt_227_3 : fldt Try.prog 227 3 = some (3, 9) := by kernel_rfl
@[go_sem] theorem places_227 : places Try.prog 227 = some ([(0, 1), (1, 1), (2, 1), (3, 1)]) := by kernel_rfl
@[go_sem] theorem uis_228 : (Try.prog.underlying 228).isSome = true := by kernel_rfl
@[go_sem] theorem tyi_228 : tyi Try.prog 228 = some ⟨true, 0, 0, []⟩ := by kernel_rfl
@[go_sem] theorem arrt_228 : arrt Try.prog 228 = some (0, 16) := by kernel_rfl
@[go_sem] theorem places_228 : places Try.prog 228 = none := by kernel_rfl
@[go_sem] theorem uis_229 : (Try.prog.underlying 229).isSome = true := by kernel_rfl
@[go_sem] theorem tyi_229 : tyi Try.prog 229 = some ⟨true, 0, 0, []⟩ := by kernel_rfl
@[go_sem] theorem fldt_229_0 : fldt Try.prog 229 0 = some (0, 228) := by kernel_rfl
@[go_sem] theorem places_229 : places Try.prog 229 = some ([(0, 0)]) := by kernel_rfl
@[go_sem] theorem uis_230 : (Try.prog.underlying 230).isSome = true := by kernel_rfl
@[go_sem] theorem tyi_230 : tyi Try.prog 230 = some ⟨true, 0, 0, []⟩ := by kernel_rfl
@[go_sem] theorem fldt_230_0 : fldt Try.prog 230 0 = some (0, 228) := by kernel_rfl
@[go_sem] theorem places_230 : places Try.prog 230 = some ([(0, 0)]) := by kernel_rfl
@[go_sem] theorem uis_231 : (Try.prog.underlying 231).isSome = true := by kernel_rfl
@[go_sem] theorem tyi_231 : tyi Try.prog 231 = some ⟨false, 1, 8, [Value.nilFunc]⟩ := by kernel_rfl
@[go_sem] theorem uis_232 : (Try.prog.underlying 232).isSome = true := by kernel_rfl
@[go_sem] theorem tyi_232 : tyi Try.prog 232 = some ⟨false, 1, 1, [Value.int IntKind.u8 0]⟩ := by kernel_rfl
@[go_sem] theorem intKd_232 : intKd Try.prog 232 = some IntKind.u8 := by kernel_rfl
@[go_sem] theorem uis_233 : (Try.prog.underlying 233).isSome = true := by kernel_rfl
@[go_sem] theorem tyi_233 : tyi Try.prog 233 = some ⟨false, 1, 1, [Value.int IntKind.u8 0]⟩ := by kernel_rfl
@[go_sem] theorem intKd_233 : intKd Try.prog 233 = some IntKind.u8 := by kernel_rfl
@[go_sem] theorem uis_234 : (Try.prog.underlying 234).isSome = true := by kernel_rfl
@[go_sem] theorem tyi_234 : tyi Try.prog 234 = some ⟨false, 1, 8, [Value.nilFunc]⟩ := by kernel_rfl
@[go_sem] theorem uis_235 : (Try.prog.underlying 235).isSome = true := by kernel_rfl
@[go_sem] theorem tyi_235 : tyi Try.prog 235 = some ⟨false, 1, 8, [Value.pointer none]⟩ := by kernel_rfl
@[go_sem] theorem uis_236 : (Try.prog.underlying 236).isSome = true := by kernel_rfl
@[go_sem] theorem tyi_236 : tyi Try.prog 236 = some ⟨false, 1, 4, [Value.int IntKind.i32 0]⟩ := by kernel_rfl
@[go_sem] theorem intKd_236 : intKd Try.prog 236 = some IntKind.i32 := by kernel_rfl
@[go_sem] theorem uis_237 : (Try.prog.underlying 237).isSome = true := by kernel_rfl
@[go_sem] theorem tyi_237 : tyi Try.prog 237 = some ⟨false, 1, 4, [Value.int IntKind.i32 0]⟩ := by kernel_rfl
@[go_sem] theorem intKd_237 : intKd Try.prog 237 = some IntKind.i32 := by kernel_rfl
@[go_sem] theorem uis_238 : (Try.prog.underlying 238).isSome = true := by kernel_rfl
@[go_sem] theorem tyi_238 : tyi Try.prog 238 = some ⟨true, 11, 48, [Value.int IntKind.u64 0, Value.int IntKind.u64 0, Value.int IntKind.u32 0, Value.int IntKind.u8 0, Value.int IntKind.u8 0, Value.int IntKind.u8 0, Value.int IntKind.u8 0, Value.nilFunc, Value.pointer none, Value.int IntKind.i32 0, Value.int IntKind.i32 0]⟩ := by kernel_rfl
@[go_sem] theorem fldt_238_0 : fldt Try.prog 238 0 = some (0, 12) := by kernel_rfl
@[go_sem] theorem fldt_238_1 : fldt Try.prog 238 1 = some (1, 12) := by kernel_rfl
@[go_sem] theorem fldt_238_2 : fldt Try.prog 238 2 = some (2, 221) := by kernel_rfl
@[go_sem] theorem fldt_238_3 : fldt Try.prog 238 3 = some (3, 232) := by kernel_rfl
@[go_sem] theorem fldt_238_4 : fldt Try.prog 238 4 = some (4, 5) := by kernel_rfl
@[go_sem] theorem fldt_238_5 : fldt Try.prog 238 5 = some (5, 5) := by kernel_rfl
@[go_sem] theorem fldt_238_6 : fldt Try.prog 238 6 = some (6, 233) := by kernel_rfl
@[go_sem] theorem fldt_238_7 : fldt Try.prog 238 7 = some (7, 234) := by kernel_rfl
@[go_sem] theorem fldt_238_8 : fldt Try.prog 238 8 = some (8, 235) := by kernel_rfl
@[go_sem] theorem fldt_238_9 : fldt Try.prog 238 9 = some (9, 236) := by kernel_rfl
@[go_sem] theorem fldt_238_10 : fldt Try.prog 238 10 = some (10, 237) := by kernel_rfl
@[go_sem] theorem places_238 : places Try.prog 238 = some ([(0, 1), (1, 1), (2, 1), (3, 1), (4, 1), (5, 1), (6, 1), (7, 1), (8, 1), (9, 1), (10, 1)]) := by kernel_rfl
@[go_sem] theorem uis_239 : (Try.prog.underlying 239).isSome = true := by kernel_rfl
@[go_sem] theorem tyi_239 : tyi Try.prog 239 = some ⟨true, 11, 48, [Value.int IntKind.u64 0, Value.int IntKind.u64 0, Value.int IntKind.u32 0, Value.int IntKind.u8 0, Value.int IntKind.u8 0, Value.int IntKind.u8 0, Value.int IntKind.u8 0, Value.nilFunc, Value.pointer none, Value.int IntKind.i32 0, Value.int IntKind.i32 0]⟩ := by kernel_rfl
@[go_sem] theorem fldt_239_0 : fldt Try.prog 239 0 = some (0, 12) := by kernel_rfl
@[go_sem] theorem fldt_239_1 : fldt Try.prog 239 1 = some (1, 12) := by kernel_rfl
@[go_sem] theorem fldt_239_2 : fldt Try.prog 239 2 = some (2, 221) := by kernel_rfl
@[go_sem] theorem fldt_239_3 : fldt Try.prog 239 3 = some (3, 232) := by kernel_rfl
@[go_sem] theorem fldt_239_4 : fldt Try.prog 239 4 = some (4, 5) := by kernel_rfl
@[go_sem] theorem fldt_239_5 : fldt Try.prog 239 5 = some (5, 5) := by kernel_rfl
@[go_sem] theorem fldt_239_6 : fldt Try.prog 239 6 = some (6, 233) := by kernel_rfl
@[go_sem] theorem fldt_239_7 : fldt Try.prog 239 7 = some (7, 234) := by kernel_rfl
@[go_sem] theorem fldt_239_8 : fldt Try.prog 239 8 = some (8, 235) := by kernel_rfl
@[go_sem] theorem fldt_239_9 : fldt Try.prog 239 9 = some (9, 236) := by kernel_rfl
@[go_sem] theorem fldt_239_10 : fldt Try.prog 239 10 = some (10, 237) := by kernel_rfl
@[go_sem] theorem places_239 : places Try.prog 239 = some ([(0, 1), (1, 1), (2, 1), (3, 1), (4, 1), (5, 1), (6, 1), (7, 1), (8, 1), (9, 1), (10, 1)]) := by kernel_rfl
@[go_sem] theorem uis_240 : (Try.prog.underlying 240).isSome = true := by kernel_rfl
@[go_sem] theorem tyi_240 : tyi Try.prog 240 = some ⟨false, 1, 8, [Value.pointer none]⟩ := by kernel_rfl
@[go_sem] theorem res_0 : Try.f0.results.toList = ([] : List ResultVar) := by kernel_rfl
@[go_sem] theorem res_1 : Try.f1.results.toList = ([] : List ResultVar) := by kernel_rfl
@[go_sem] theorem res_2 : Try.f2.results.toList = ([] : List ResultVar) := by kernel_rfl
@[go_sem] theorem res_3 : Try.f3.results.toList = ([ResultVar.tmp 2] : List ResultVar) := by kernel_rfl
@[go_sem] theorem res_4 : Try.f4.results.toList = ([ResultVar.tmp 4] : List ResultVar) := by kernel_rfl
@[go_sem] theorem res_5 : Try.f5.results.toList = ([ResultVar.tmp 2] : List ResultVar) := by kernel_rfl
@[go_sem] theorem res_6 : Try.f6.results.toList = ([ResultVar.tmp 2] : List ResultVar) := by kernel_rfl
@[go_sem] theorem res_7 : Try.f7.results.toList = ([ResultVar.tmp 2] : List ResultVar) := by kernel_rfl
@[go_sem] theorem res_8 : Try.f8.results.toList = ([ResultVar.tmp 2] : List ResultVar) := by kernel_rfl
@[go_sem] theorem res_9 : Try.f9.results.toList = ([ResultVar.tmp 4] : List ResultVar) := by kernel_rfl
@[go_sem] theorem res_10 : Try.f10.results.toList = ([ResultVar.cell 2 29] : List ResultVar) := by kernel_rfl
@[go_sem] theorem res_11 : Try.f11.results.toList = ([ResultVar.tmp 2] : List ResultVar) := by kernel_rfl
@[go_sem] theorem res_12 : Try.f12.results.toList = ([ResultVar.cell 2 29] : List ResultVar) := by kernel_rfl
@[go_sem] theorem res_13 : Try.f13.results.toList = ([ResultVar.tmp 4] : List ResultVar) := by kernel_rfl
@[go_sem] theorem res_14 : Try.f14.results.toList = ([ResultVar.tmp 4] : List ResultVar) := by kernel_rfl
@[go_sem] theorem res_15 : Try.f15.results.toList = ([ResultVar.tmp 4] : List ResultVar) := by kernel_rfl
@[go_sem] theorem res_16 : Try.f16.results.toList = ([ResultVar.tmp 4] : List ResultVar) := by kernel_rfl
@[go_sem] theorem res_17 : Try.f17.results.toList = ([ResultVar.tmp 4] : List ResultVar) := by kernel_rfl
@[go_sem] theorem res_18 : Try.f18.results.toList = ([ResultVar.tmp 4] : List ResultVar) := by kernel_rfl
@[go_sem] theorem res_19 : Try.f19.results.toList = ([ResultVar.tmp 4] : List ResultVar) := by kernel_rfl
@[go_sem] theorem res_20 : Try.f20.results.toList = ([ResultVar.cell 4 48, ResultVar.tmp 5, ResultVar.tmp 6] : List ResultVar) := by kernel_rfl
@[go_sem] theorem res_21 : Try.f21.results.toList = ([ResultVar.cell 2 48] : List ResultVar) := by kernel_rfl
@[go_sem] theorem res_22 : Try.f22.results.toList = ([ResultVar.cell 2 52] : List ResultVar) := by kernel_rfl
@[go_sem] theorem res_23 : Try.f23.results.toList = ([ResultVar.cell 4 48, ResultVar.tmp 5, ResultVar.tmp 6] : List ResultVar) := by kernel_rfl
@[go_sem] theorem res_24 : Try.f24.results.toList = ([ResultVar.tmp 4] : List ResultVar) := by kernel_rfl
@[go_sem] theorem res_25 : Try.f25.results.toList = ([ResultVar.tmp 4] : List ResultVar) := by kernel_rfl
@[go_sem] theorem res_26 : Try.f26.results.toList = ([ResultVar.tmp 4] : List ResultVar) := by kernel_rfl
@[go_sem] theorem res_27 : Try.f27.results.toList = ([ResultVar.tmp 4] : List ResultVar) := by kernel_rfl
@[go_sem] theorem res_28 : Try.f28.results.toList = ([ResultVar.tmp 4] : List ResultVar) := by kernel_rfl
@[go_sem] theorem res_29 : Try.f29.results.toList = ([ResultVar.tmp 4] : List ResultVar) := by kernel_rfl
@[go_sem] theorem res_30 : Try.f30.results.toList = ([ResultVar.tmp 2] : List ResultVar) := by kernel_rfl
@[go_sem] theorem res_31 : Try.f31.results.toList = ([ResultVar.cell 2 48, ResultVar.cell 3 52] : List ResultVar) := by kernel_rfl
@[go_sem] theorem res_32 : Try.f32.results.toList = ([ResultVar.tmp 4] : List ResultVar) := by kernel_rfl
@[go_sem] theorem res_33 : Try.f33.results.toList = ([ResultVar.tmp 4] : List ResultVar) := by kernel_rfl
@[go_sem] theorem res_34 : Try.f34.results.toList = ([ResultVar.tmp 2] : List ResultVar) := by kernel_rfl
@[go_sem] theorem res_35 : Try.f35.results.toList = ([ResultVar.tmp 2] : List ResultVar) := by kernel_rfl
@[go_sem] theorem res_36 : Try.f36.results.toList = ([ResultVar.tmp 2] : List ResultVar) := by kernel_rfl
@[go_sem] theorem res_37 : Try.f37.results.toList = ([ResultVar.tmp 4] : List ResultVar) := by kernel_rfl
@[go_sem] theorem res_38 : Try.f38.results.toList = ([ResultVar.cell 4 69] : List ResultVar) := by kernel_rfl
@[go_sem] theorem res_39 : Try.f39.results.toList = ([ResultVar.cell 4 69] : List ResultVar) := by kernel_rfl
@[go_sem] theorem res_40 : Try.f40.results.toList = ([ResultVar.tmp 4] : List ResultVar) := by kernel_rfl
@[go_sem] theorem res_41 : Try.f41.results.toList = ([ResultVar.tmp 2, ResultVar.tmp 3] : List ResultVar) := by kernel_rfl
@[go_sem] theorem res_42 : Try.f42.results.toList = ([ResultVar.tmp 4] : List ResultVar) := by kernel_rfl
@[go_sem] theorem res_43 : Try.f43.results.toList = ([ResultVar.tmp 4] : List ResultVar) := by kernel_rfl
@[go_sem] theorem res_44 : Try.f44.results.toList = ([ResultVar.tmp 2] : List ResultVar) := by kernel_rfl
@[go_sem] theorem res_45 : Try.f45.results.toList = ([ResultVar.tmp 4] : List ResultVar) := by kernel_rfl
@[go_sem] theorem res_46 : Try.f46.results.toList = ([ResultVar.tmp 4] : List ResultVar) := by kernel_rfl
@[go_sem] theorem res_47 : Try.f47.results.toList = ([ResultVar.tmp 4] : List ResultVar) := by kernel_rfl
@[go_sem] theorem res_48 : Try.f48.results.toList = ([ResultVar.cell 6 69] : List ResultVar) := by kernel_rfl
@[go_sem] theorem res_49 : Try.f49.results.toList = ([ResultVar.cell 6 69] : List ResultVar) := by kernel_rfl
@[go_sem] theorem res_50 : Try.f50.results.toList = ([ResultVar.cell 4 69] : List ResultVar) := by kernel_rfl
@[go_sem] theorem res_51 : Try.f51.results.toList = ([ResultVar.tmp 2] : List ResultVar) := by kernel_rfl
@[go_sem] theorem res_52 : Try.f52.results.toList = ([ResultVar.tmp 4] : List ResultVar) := by kernel_rfl
@[go_sem] theorem res_53 : Try.f53.results.toList = ([ResultVar.tmp 4] : List ResultVar) := by kernel_rfl
@[go_sem] theorem res_54 : Try.f54.results.toList = ([ResultVar.cell 4 29] : List ResultVar) := by kernel_rfl
@[go_sem] theorem res_55 : Try.f55.results.toList = ([ResultVar.tmp 2] : List ResultVar) := by kernel_rfl
@[go_sem] theorem res_56 : Try.f56.results.toList = ([ResultVar.cell 2 29] : List ResultVar) := by kernel_rfl
@[go_sem] theorem res_57 : Try.f57.results.toList = ([ResultVar.tmp 4] : List ResultVar) := by kernel_rfl
@[go_sem] theorem res_58 : Try.f58.results.toList = ([ResultVar.tmp 2] : List ResultVar) := by kernel_rfl
@[go_sem] theorem res_59 : Try.f59.results.toList = ([ResultVar.tmp 2] : List ResultVar) := by kernel_rfl
@[go_sem] theorem res_60 : Try.f60.results.toList = ([ResultVar.cell 2 85] : List ResultVar) := by kernel_rfl
@[go_sem] theorem res_61 : Try.f61.results.toList = ([ResultVar.tmp 2] : List ResultVar) := by kernel_rfl
@[go_sem] theorem res_62 : Try.f62.results.toList = ([ResultVar.tmp 2] : List ResultVar) := by kernel_rfl
@[go_sem] theorem res_63 : Try.f63.results.toList = ([ResultVar.tmp 4] : List ResultVar) := by kernel_rfl
@[go_sem] theorem res_64 : Try.f64.results.toList = ([ResultVar.tmp 4] : List ResultVar) := by kernel_rfl
@[go_sem] theorem res_65 : Try.f65.results.toList = ([ResultVar.tmp 4] : List ResultVar) := by kernel_rfl
@[go_sem] theorem res_66 : Try.f66.results.toList = ([ResultVar.tmp 4] : List ResultVar) := by kernel_rfl
@[go_sem] theorem res_67 : Try.f67.results.toList = ([ResultVar.tmp 4] : List ResultVar) := by kernel_rfl
@[go_sem] theorem res_68 : Try.f68.results.toList = ([ResultVar.tmp 4] : List ResultVar) := by kernel_rfl
@[go_sem] theorem res_69 : Try.f69.results.toList = ([ResultVar.tmp 4] : List ResultVar) := by kernel_rfl
@[go_sem] theorem res_70 : Try.f70.results.toList = ([ResultVar.tmp 4] : List ResultVar) := by kernel_rfl
@[go_sem] theorem res_71 : Try.f71.results.toList = ([ResultVar.tmp 4] : List ResultVar) := by kernel_rfl
@[go_sem] theorem res_72 : Try.f72.results.toList = ([ResultVar.tmp 4] : List ResultVar) := by kernel_rfl
@[go_sem] theorem res_73 : Try.f73.results.toList = ([ResultVar.tmp 4] : List ResultVar) := by kernel_rfl
@[go_sem] theorem res_74 : Try.f74.results.toList = ([ResultVar.tmp 4] : List ResultVar) := by kernel_rfl
@[go_sem] theorem res_75 : Try.f75.results.toList = ([ResultVar.tmp 4] : List ResultVar) := by kernel_rfl
@[go_sem] theorem res_76 : Try.f76.results.toList = ([ResultVar.tmp 4] : List ResultVar) := by kernel_rfl
@[go_sem] theorem res_77 : Try.f77.results.toList = ([ResultVar.cell 2 48] : List ResultVar) := by kernel_rfl
@[go_sem] theorem res_78 : Try.f78.results.toList = ([ResultVar.cell 4 48, ResultVar.tmp 5] : List ResultVar) := by kernel_rfl
@[go_sem] theorem res_79 : Try.f79.results.toList = ([ResultVar.cell 4 48, ResultVar.tmp 5] : List ResultVar) := by kernel_rfl
@[go_sem] theorem res_80 : Try.f80.results.toList = ([ResultVar.tmp 2] : List ResultVar) := by kernel_rfl
@[go_sem] theorem res_81 : Try.f81.results.toList = ([ResultVar.tmp 2] : List ResultVar) := by kernel_rfl
@[go_sem] theorem res_82 : Try.f82.results.toList = ([ResultVar.cell 2 48] : List ResultVar) := by kernel_rfl
@[go_sem] theorem res_83 : Try.f83.results.toList = ([ResultVar.tmp 2] : List ResultVar) := by kernel_rfl
@[go_sem] theorem res_84 : Try.f84.results.toList = ([ResultVar.cell 4 48, ResultVar.tmp 5, ResultVar.tmp 6] : List ResultVar) := by kernel_rfl
@[go_sem] theorem res_85 : Try.f85.results.toList = ([ResultVar.tmp 6] : List ResultVar) := by kernel_rfl
@[go_sem] theorem res_86 : Try.f86.results.toList = ([ResultVar.tmp 4] : List ResultVar) := by kernel_rfl
@[go_sem] theorem res_87 : Try.f87.results.toList = ([ResultVar.tmp 4] : List ResultVar) := by kernel_rfl
@[go_sem] theorem res_88 : Try.f88.results.toList = ([ResultVar.tmp 4] : List ResultVar) := by kernel_rfl
@[go_sem] theorem res_89 : Try.f89.results.toList = ([ResultVar.tmp 2] : List ResultVar) := by kernel_rfl
@[go_sem] theorem res_90 : Try.f90.results.toList = ([ResultVar.tmp 4] : List ResultVar) := by kernel_rfl
@[go_sem] theorem res_91 : Try.f91.results.toList = ([ResultVar.tmp 2] : List ResultVar) := by kernel_rfl
@[go_sem] theorem res_92 : Try.f92.results.toList = ([ResultVar.cell 2 48] : List ResultVar) := by kernel_rfl
@[go_sem] theorem res_93 : Try.f93.results.toList = ([ResultVar.cell 2 52] : List ResultVar) := by kernel_rfl
@[go_sem] theorem res_94 : Try.f94.results.toList = ([ResultVar.tmp 4] : List ResultVar) := by kernel_rfl
@[go_sem] theorem res_95 : Try.f95.results.toList = ([ResultVar.cell 2 52] : List ResultVar) := by kernel_rfl
@[go_sem] theorem res_96 : Try.f96.results.toList = ([ResultVar.tmp 4] : List ResultVar) := by kernel_rfl
@[go_sem] theorem res_97 : Try.f97.results.toList = ([ResultVar.tmp 4] : List ResultVar) := by kernel_rfl
@[go_sem] theorem res_98 : Try.f98.results.toList = ([ResultVar.tmp 2] : List ResultVar) := by kernel_rfl
@[go_sem] theorem res_99 : Try.f99.results.toList = ([ResultVar.tmp 2] : List ResultVar) := by kernel_rfl
@[go_sem] theorem res_100 : Try.f100.results.toList = ([ResultVar.tmp 2] : List ResultVar) := by kernel_rfl
@[go_sem] theorem res_101 : Try.f101.results.toList = ([ResultVar.tmp 6] : List ResultVar) := by kernel_rfl
@[go_sem] theorem res_102 : Try.f102.results.toList = ([ResultVar.tmp 2] : List ResultVar) := by kernel_rfl
@[go_sem] theorem res_103 : Try.f103.results.toList = ([ResultVar.tmp 4] : List ResultVar) := by kernel_rfl
@[go_sem] theorem res_104 : Try.f104.results.toList = ([ResultVar.tmp 4] : List ResultVar) := by kernel_rfl
@[go_sem] theorem res_105 : Try.f105.results.toList = ([ResultVar.tmp 3] : List ResultVar) := by kernel_rfl
@[go_sem] theorem res_106 : Try.f106.results.toList = ([ResultVar.tmp 4] : List ResultVar) := by kernel_rfl
@[go_sem] theorem res_107 : Try.f107.results.toList = ([ResultVar.tmp 2] : List ResultVar) := by kernel_rfl
@[go_sem] theorem res_108 : Try.f108.results.toList = ([ResultVar.tmp 2] : List ResultVar) := by kernel_rfl
@[go_sem] theorem res_109 : Try.f109.results.toList = ([ResultVar.tmp 4] : List ResultVar) := by kernel_rfl
@[go_sem] theorem res_110 : Try.f110.results.toList = ([ResultVar.tmp 2] : List ResultVar) := by kernel_rfl
@[go_sem] theorem res_111 : Try.f111.results.toList = ([ResultVar.tmp 4] : List ResultVar) := by kernel_rfl
@[go_sem] theorem res_112 : Try.f112.results.toList = ([ResultVar.tmp 2] : List ResultVar) := by kernel_rfl
@[go_sem] theorem res_113 : Try.f113.results.toList = ([ResultVar.tmp 4] : List ResultVar) := by kernel_rfl
@[go_sem] theorem res_114 : Try.f114.results.toList = ([ResultVar.tmp 2] : List ResultVar) := by kernel_rfl
@[go_sem] theorem res_115 : Try.f115.results.toList = ([ResultVar.tmp 2] : List ResultVar) := by kernel_rfl
@[go_sem] theorem res_116 : Try.f116.results.toList = ([ResultVar.tmp 4] : List ResultVar) := by kernel_rfl
@[go_sem] theorem res_117 : Try.f117.results.toList = ([ResultVar.tmp 2] : List ResultVar) := by kernel_rfl
@[go_sem] theorem res_118 : Try.f118.results.toList = ([ResultVar.cell 4 69] : List ResultVar) := by kernel_rfl
@[go_sem] theorem res_119 : Try.f119.results.toList = ([ResultVar.tmp 6] : List ResultVar) := by kernel_rfl
@[go_sem] theorem res_120 : Try.f120.results.toList = ([ResultVar.tmp 2, ResultVar.tmp 3] : List ResultVar) := by kernel_rfl
@[go_sem] theorem res_121 : Try.f121.results.toList = ([ResultVar.tmp 2, ResultVar.tmp 3] : List ResultVar) := by kernel_rfl
@[go_sem] theorem res_122 : Try.f122.results.toList = ([ResultVar.cell 4 69] : List ResultVar) := by kernel_rfl
@[go_sem] theorem res_123 : Try.f123.results.toList = ([ResultVar.cell 2 29] : List ResultVar) := by kernel_rfl
@[go_sem] theorem res_124 : Try.f124.results.toList = ([ResultVar.tmp 2] : List ResultVar) := by kernel_rfl
@[go_sem] theorem res_125 : Try.f125.results.toList = ([ResultVar.tmp 6] : List ResultVar) := by kernel_rfl
@[go_sem] theorem res_126 : Try.f126.results.toList = ([] : List ResultVar) := by kernel_rfl
@[go_sem] theorem res_127 : Try.f127.results.toList = ([] : List ResultVar) := by kernel_rfl
@[go_sem] theorem res_128 : Try.f128.results.toList = ([ResultVar.tmp 2] : List ResultVar) := by kernel_rfl
@[go_sem] theorem res_129 : Try.f129.results.toList = ([ResultVar.tmp 2] : List ResultVar) := by kernel_rfl
@[go_sem] theorem res_130 : Try.f130.results.toList = ([ResultVar.tmp 4] : List ResultVar) := by kernel_rfl
@[go_sem] theorem res_131 : Try.f131.results.toList = ([ResultVar.tmp 2] : List ResultVar) := by kernel_rfl
@[go_sem] theorem res_132 : Try.f132.results.toList = ([ResultVar.tmp 2] : List ResultVar) := by kernel_rfl
@[go_sem] theorem res_133 : Try.f133.results.toList = ([ResultVar.tmp 4] : List ResultVar) := by kernel_rfl
@[go_sem] theorem res_134 : Try.f134.results.toList = ([ResultVar.tmp 4] : List ResultVar) := by kernel_rfl
@[go_sem] theorem res_135 : Try.f135.results.toList = ([ResultVar.tmp 4] : List ResultVar) := by kernel_rfl
@[go_sem] theorem res_136 : Try.f136.results.toList = ([ResultVar.tmp 4] : List ResultVar) := by kernel_rfl
@[go_sem] theorem res_137 : Try.f137.results.toList = ([ResultVar.tmp 4] : List ResultVar) := by kernel_rfl
@[go_sem] theorem res_138 : Try.f138.results.toList = ([ResultVar.tmp 4] : List ResultVar) := by kernel_rfl
@[go_sem] theorem res_139 : Try.f139.results.toList = ([ResultVar.tmp 4] : List ResultVar) := by kernel_rfl
@[go_sem] theorem res_140 : Try.f140.results.toList = ([ResultVar.tmp 4] : List ResultVar) := by kernel_rfl
@[go_sem] theorem res_141 : Try.f141.results.toList = ([ResultVar.cell 4 69] : List ResultVar) := by kernel_rfl
@[go_sem] theorem res_142 : Try.f142.results.toList = ([ResultVar.cell 4 69] : List ResultVar) := by kernel_rfl
@[go_sem] theorem res_143 : Try.f143.results.toList = ([ResultVar.cell 2 67] : List ResultVar) := by kernel_rfl
@[go_sem] theorem res_144 : Try.f144.results.toList = ([ResultVar.cell 2 69] : List ResultVar) := by kernel_rfl
@[go_sem] theorem res_145 : Try.f145.results.toList = ([ResultVar.tmp 2] : List ResultVar) := by kernel_rfl
@[go_sem] theorem res_146 : Try.f146.results.toList = ([ResultVar.tmp 2] : List ResultVar) := by kernel_rfl
@[go_sem] theorem res_147 : Try.f147.results.toList = ([ResultVar.tmp 2] : List ResultVar) := by kernel_rfl
@[go_sem] theorem res_148 : Try.f148.results.toList = ([ResultVar.tmp 2] : List ResultVar) := by kernel_rfl
@[go_sem] theorem res_149 : Try.f149.results.toList = ([ResultVar.cell 4 69] : List ResultVar) := by kernel_rfl
@[go_sem] theorem res_150 : Try.f150.results.toList = ([ResultVar.tmp 6] : List ResultVar) := by kernel_rfl
@[go_sem] theorem res_151 : Try.f151.results.toList = ([] : List ResultVar) := by kernel_rfl
@[go_sem] theorem res_152 : Try.f152.results.toList = ([] : List ResultVar) := by kernel_rfl
@[go_sem] theorem res_153 : Try.f153.results.toList = ([ResultVar.tmp 4] : List ResultVar) := by kernel_rfl
@[go_sem] theorem res_154 : Try.f154.results.toList = ([ResultVar.cell 2 48] : List ResultVar) := by kernel_rfl
@[go_sem] theorem res_155 : Try.f155.results.toList = ([ResultVar.cell 2 69] : List ResultVar) := by kernel_rfl
@[go_sem] theorem res_156 : Try.f156.results.toList = ([ResultVar.tmp 2] : List ResultVar) := by kernel_rfl
@[go_sem] theorem res_157 : Try.f157.results.toList = ([ResultVar.tmp 2] : List ResultVar) := by kernel_rfl
@[go_sem] theorem res_158 : Try.f158.results.toList = ([ResultVar.tmp 4] : List ResultVar) := by kernel_rfl
@[go_sem] theorem res_159 : Try.f159.results.toList = ([ResultVar.tmp 4] : List ResultVar) := by kernel_rfl
@[go_sem] theorem res_160 : Try.f160.results.toList = ([ResultVar.tmp 4] : List ResultVar) := by kernel_rfl
@[go_sem] theorem res_161 : Try.f161.results.toList = ([ResultVar.tmp 2] : List ResultVar) := by kernel_rfl
@[go_sem] theorem res_162 : Try.f162.results.toList = ([ResultVar.tmp 2] : List ResultVar) := by kernel_rfl
@[go_sem] theorem res_163 : Try.f163.results.toList = ([ResultVar.tmp 2] : List ResultVar) := by kernel_rfl
@[go_sem] theorem res_164 : Try.f164.results.toList = ([ResultVar.tmp 2] : List ResultVar) := by kernel_rfl
@[go_sem] theorem res_165 : Try.f165.results.toList = ([ResultVar.tmp 2] : List ResultVar) := by kernel_rfl
@[go_sem] theorem res_166 : Try.f166.results.toList = ([ResultVar.tmp 2] : List ResultVar) := by kernel_rfl
@[go_sem] theorem res_167 : Try.f167.results.toList = ([ResultVar.tmp 2] : List ResultVar) := by kernel_rfl
@[go_sem] theorem res_168 : Try.f168.results.toList = ([ResultVar.tmp 2] : List ResultVar) := by kernel_rfl
@[go_sem] theorem res_169 : Try.f169.results.toList = ([ResultVar.tmp 4] : List ResultVar) := by kernel_rfl
@[go_sem] theorem res_170 : Try.f170.results.toList = ([ResultVar.tmp 3] : List ResultVar) := by kernel_rfl
@[go_sem] theorem res_171 : Try.f171.results.toList = ([ResultVar.tmp 2] : List ResultVar) := by kernel_rfl
@[go_sem] theorem res_172 : Try.f172.results.toList = ([ResultVar.tmp 2] : List ResultVar) := by kernel_rfl
@[go_sem] theorem res_173 : Try.f173.results.toList = ([ResultVar.tmp 6, ResultVar.tmp 7] : List ResultVar) := by kernel_rfl
@[go_sem] theorem res_174 : Try.f174.results.toList = ([ResultVar.tmp 4] : List ResultVar) := by kernel_rfl
@[go_sem] theorem res_175 : Try.f175.results.toList = ([ResultVar.tmp 4] : List ResultVar) := by kernel_rfl
@[go_sem] theorem res_176 : Try.f176.results.toList = ([ResultVar.tmp 6] : List ResultVar) := by kernel_rfl
@[go_sem] theorem res_177 : Try.f177.results.toList = ([ResultVar.tmp 4] : List ResultVar) := by kernel_rfl
@[go_sem] theorem res_178 : Try.f178.results.toList = ([ResultVar.tmp 2] : List ResultVar) := by kernel_rfl
@[go_sem] theorem res_179 : Try.f179.results.toList = ([ResultVar.tmp 2] : List ResultVar) := by kernel_rfl
@[go_sem] theorem res_180 : Try.f180.results.toList = ([ResultVar.tmp 4] : List ResultVar) := by kernel_rfl
@[go_sem] theorem res_181 : Try.f181.results.toList = ([ResultVar.tmp 2, ResultVar.tmp 3] : List ResultVar) := by kernel_rfl
@[go_sem] theorem res_182 : Try.f182.results.toList = ([ResultVar.tmp 2] : List ResultVar) := by kernel_rfl
@[go_sem] theorem res_183 : Try.f183.results.toList = ([ResultVar.tmp 2, ResultVar.tmp 3] : List ResultVar) := by kernel_rfl
@[go_sem] theorem res_184 : Try.f184.results.toList = ([ResultVar.tmp 2, ResultVar.tmp 3] : List ResultVar) := by kernel_rfl
@[go_sem] theorem res_185 : Try.f185.results.toList = ([ResultVar.tmp 4] : List ResultVar) := by kernel_rfl
@[go_sem] theorem res_186 : Try.f186.results.toList = ([ResultVar.cell 2 88] : List ResultVar) := by kernel_rfl
@[go_sem] theorem res_187 : Try.f187.results.toList = ([ResultVar.cell 2 148] : List ResultVar) := by kernel_rfl
@[go_sem] theorem res_188 : Try.f188.results.toList = ([ResultVar.tmp 4] : List ResultVar) := by kernel_rfl
@[go_sem] theorem res_189 : Try.f189.results.toList = ([ResultVar.tmp 2] : List ResultVar) := by kernel_rfl
@[go_sem] theorem res_190 : Try.f190.results.toList = ([] : List ResultVar) := by kernel_rfl
@[go_sem] theorem res_191 : Try.f191.results.toList = ([ResultVar.tmp 8, ResultVar.tmp 9] : List ResultVar) := by kernel_rfl
@[go_sem] theorem res_192 : Try.f192.results.toList = ([ResultVar.tmp 4] : List ResultVar) := by kernel_rfl
@[go_sem] theorem res_193 : Try.f193.results.toList = ([] : List ResultVar) := by kernel_rfl
@[go_sem] theorem res_194 : Try.f194.results.toList = ([ResultVar.tmp 6] : List ResultVar) := by kernel_rfl
@[go_sem] theorem res_195 : Try.f195.results.toList = ([ResultVar.tmp 2] : List ResultVar) := by kernel_rfl
@[go_sem] theorem res_196 : Try.f196.results.toList = ([] : List ResultVar) := by kernel_rfl
@[go_sem] theorem res_197 : Try.f197.results.toList = ([ResultVar.tmp 4] : List ResultVar) := by kernel_rfl
@[go_sem] theorem res_198 : Try.f198.results.toList = ([ResultVar.tmp 6, ResultVar.tmp 7] : List ResultVar) := by kernel_rfl
@[go_sem] theorem res_199 : Try.f199.results.toList = ([ResultVar.tmp 6] : List ResultVar) := by kernel_rfl
@[go_sem] theorem res_200 : Try.f200.results.toList = ([ResultVar.tmp 2] : List ResultVar) := by kernel_rfl
@[go_sem] theorem res_201 : Try.f201.results.toList = ([] : List ResultVar) := by kernel_rfl
@[go_sem] theorem res_202 : Try.f202.results.toList = ([ResultVar.tmp 4] : List ResultVar) := by kernel_rfl
@[go_sem] theorem res_203 : Try.f203.results.toList = ([ResultVar.tmp 2] : List ResultVar) := by kernel_rfl
@[go_sem] theorem res_204 : Try.f204.results.toList = ([ResultVar.tmp 4] : List ResultVar) := by kernel_rfl
@[go_sem] theorem res_205 : Try.f205.results.toList = ([ResultVar.tmp 2] : List ResultVar) := by kernel_rfl
@[go_sem] theorem res_206 : Try.f206.results.toList = ([ResultVar.tmp 4] : List ResultVar) := by kernel_rfl
@[go_sem] theorem res_207 : Try.f207.results.toList = ([] : List ResultVar) := by kernel_rfl
@[go_sem] theorem res_208 : Try.f208.results.toList = ([ResultVar.cell 2 69] : List ResultVar) := by kernel_rfl
@[go_sem] theorem res_209 : Try.f209.results.toList = ([ResultVar.tmp 2] : List ResultVar) := by kernel_rfl
@[go_sem] theorem res_210 : Try.f210.results.toList = ([ResultVar.tmp 2] : List ResultVar) := by kernel_rfl
@[go_sem] theorem res_211 : Try.f211.results.toList = ([ResultVar.tmp 4, ResultVar.tmp 5] : List ResultVar) := by kernel_rfl
@[go_sem] theorem res_212 : Try.f212.results.toList = ([ResultVar.tmp 4] : List ResultVar) := by kernel_rfl
@[go_sem] theorem res_213 : Try.f213.results.toList = ([ResultVar.tmp 2, ResultVar.tmp 3] : List ResultVar) := by kernel_rfl
@[go_sem] theorem res_214 : Try.f214.results.toList = ([ResultVar.tmp 2] : List ResultVar) := by kernel_rfl
@[go_sem] theorem res_215 : Try.f215.results.toList = ([ResultVar.tmp 8, ResultVar.tmp 9] : List ResultVar) := by kernel_rfl
@[go_sem] theorem res_216 : Try.f216.results.toList = ([ResultVar.tmp 2] : List ResultVar) := by kernel_rfl
@[go_sem] theorem res_217 : Try.f217.results.toList = ([] : List ResultVar) := by kernel_rfl
@[go_sem] theorem res_218 : Try.f218.results.toList = ([] : List ResultVar) := by kernel_rfl
@[go_sem] theorem res_219 : Try.f219.results.toList = ([ResultVar.tmp 4] : List ResultVar) := by kernel_rfl
@[go_sem] theorem res_220 : Try.f220.results.toList = ([ResultVar.tmp 2, ResultVar.tmp 3] : List ResultVar) := by kernel_rfl
@[go_sem] theorem res_221 : Try.f221.results.toList = ([ResultVar.tmp 4] : List ResultVar) := by kernel_rfl
@[go_sem] theorem res_222 : Try.f222.results.toList = ([ResultVar.tmp 2] : List ResultVar) := by kernel_rfl
@[go_sem] theorem res_223 : Try.f223.results.toList = ([ResultVar.tmp 4] : List ResultVar) := by kernel_rfl
@[go_sem] theorem res_224 : Try.f224.results.toList = ([ResultVar.tmp 4, ResultVar.tmp 5] : List ResultVar) := by kernel_rfl
@[go_sem] theorem res_225 : Try.f225.results.toList = ([ResultVar.tmp 2] : List ResultVar) := by kernel_rfl
@[go_sem] theorem res_226 : Try.f226.results.toList = ([] : List ResultVar) := by kernel_rfl
@[go_sem] theorem res_227 : Try.f227.results.toList = ([ResultVar.tmp 6, ResultVar.tmp 7] : List ResultVar) := by kernel_rfl
@[go_sem] theorem res_228 : Try.f228.results.toList = ([ResultVar.tmp 6] : List ResultVar) := by kernel_rfl
@[go_sem] theorem res_229 : Try.f229.results.toList = ([ResultVar.tmp 4] : List ResultVar) := by kernel_rfl
@[go_sem] theorem res_230 : Try.f230.results.toList = ([ResultVar.tmp 4] : List ResultVar) := by kernel_rfl
@[go_sem] theorem res_231 : Try.f231.results.toList = ([ResultVar.tmp 6] : List ResultVar) := by kernel_rfl
@[go_sem] theorem res_232 : Try.f232.results.toList = ([ResultVar.tmp 6, ResultVar.tmp 7] : List ResultVar) := by kernel_rfl
@[go_sem] theorem res_233 : Try.f233.results.toList = ([ResultVar.tmp 4] : List ResultVar) := by kernel_rfl
@[go_sem] theorem res_234 : Try.f234.results.toList = ([ResultVar.tmp 4] : List ResultVar) := by kernel_rfl
@[go_sem] theorem res_235 : Try.f235.results.toList = ([] : List ResultVar) := by kernel_rfl
@[go_sem] theorem res_236 : Try.f236.results.toList = ([ResultVar.tmp 6, ResultVar.tmp 7, ResultVar.tmp 8] : List ResultVar) := by kernel_rfl
@[go_sem] theorem res_237 : Try.f237.results.toList = ([ResultVar.tmp 2] : List ResultVar) := by kernel_rfl
@[go_sem] theorem res_238 : Try.f238.results.toList = ([ResultVar.tmp 4] : List ResultVar) := by kernel_rfl
@[go_sem] theorem res_239 : Try.f239.results.toList = ([ResultVar.tmp 4, ResultVar.tmp 5] : List ResultVar) := by kernel_rfl
@[go_sem] theorem res_240 : Try.f240.results.toList = ([ResultVar.tmp 12, ResultVar.tmp 13] : List ResultVar) := by kernel_rfl
@[go_sem] theorem res_241 : Try.f241.results.toList = ([] : List ResultVar) := by kernel_rfl
@[go_sem] theorem res_242 : Try.f242.results.toList = ([ResultVar.tmp 4, ResultVar.tmp 5, ResultVar.tmp 6] : List ResultVar) := by kernel_rfl
@[go_sem] theorem res_243 : Try.f243.results.toList = ([ResultVar.tmp 6] : List ResultVar) := by kernel_rfl
@[go_sem] theorem res_244 : Try.f244.results.toList = ([ResultVar.tmp 4] : List ResultVar) := by kernel_rfl
@[go_sem] theorem res_245 : Try.f245.results.toList = ([ResultVar.tmp 4] : List ResultVar) := by kernel_rfl
@[go_sem] theorem res_246 : Try.f246.results.toList = ([ResultVar.tmp 4] : List ResultVar) := by kernel_rfl
@[go_sem] theorem res_247 : Try.f247.results.toList = ([ResultVar.tmp 4] : List ResultVar) := by kernel_rfl
@[go_sem] theorem res_248 : Try.f248.results.toList = ([ResultVar.tmp 6] : List ResultVar) := by kernel_rfl
@[go_sem] theorem res_249 : Try.f249.results.toList = ([] : List ResultVar) := by kernel_rfl
@[go_sem] theorem res_250 : Try.f250.results.toList = ([ResultVar.tmp 4] : List ResultVar) := by kernel_rfl
@[go_sem] theorem res_251 : Try.f251.results.toList = ([ResultVar.tmp 6] : List ResultVar) := by kernel_rfl
@[go_sem] theorem res_252 : Try.f252.results.toList = ([ResultVar.tmp 2] : List ResultVar) := by kernel_rfl
@[go_sem] theorem res_253 : Try.f253.results.toList = ([] : List ResultVar) := by kernel_rfl
@[go_sem] theorem res_254 : Try.f254.results.toList = ([] : List ResultVar) := by kernel_rfl
@[go_sem] theorem res_255 : Try.f255.results.toList = ([] : List ResultVar) := by kernel_rfl
@[go_sem] theorem res_256 : Try.f256.results.toList = ([] : List ResultVar) := by kernel_rfl
@[go_sem] theorem res_257 : Try.f257.results.toList = ([] : List ResultVar) := by kernel_rfl
@[go_sem] theorem res_258 : Try.f258.results.toList = ([] : List ResultVar) := by kernel_rfl
@[go_sem] theorem res_259 : Try.f259.results.toList = ([] : List ResultVar) := by kernel_rfl
@[go_sem] theorem res_260 : Try.f260.results.toList = ([] : List ResultVar) := by kernel_rfl
@[go_sem] theorem res_261 : Try.f261.results.toList = ([] : List ResultVar) := by kernel_rfl
@[go_sem] theorem res_262 : Try.f262.results.toList = ([] : List ResultVar) := by kernel_rfl
@[go_sem] theorem res_263 : Try.f263.results.toList = ([] : List ResultVar) := by kernel_rfl
@[go_sem] theorem res_264 : Try.f264.results.toList = ([] : List ResultVar) := by kernel_rfl
@[go_sem] theorem res_265 : Try.f265.results.toList = ([] : List ResultVar) := by kernel_rfl
@[go_sem] theorem res_266 : Try.f266.results.toList = ([] : List ResultVar) := by kernel_rfl
@[go_sem] theorem res_267 : Try.f267.results.toList = ([] : List ResultVar) := by kernel_rfl
@[go_sem] theorem res_268 : Try.f268.results.toList = ([] : List ResultVar) := by kernel_rfl
end Go.Proofs.Ytipfnhfcoolhaaa.Aw
