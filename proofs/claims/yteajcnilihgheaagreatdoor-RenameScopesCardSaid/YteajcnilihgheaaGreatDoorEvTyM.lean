/-
 EV: the sizes of the translation's types (written by a program).
-/
import Derived.Test.YteajcnilihgheaaGreatDoorEvSymM
import Derived.Test.YteajcnilihgheaaGreatDoorRows
namespace Go.Proofs.YteajcnilihgheaaGreatDoor
set_option linter.unusedSimpArgs false
set_option linter.unusedVariables false
section
@[simp] theorem szOf_1 : szOf Tryz.prog 1 = some 1 := by kernel_rfl
@[simp] theorem bytesOf_1 : bytesOf Tryz.prog 1 = some 8 := by kernel_rfl
@[simp] theorem zeroOf_1 : ((Tryz.prog.info? 1).bind fun x => x.zero) = some .nilFunc := by kernel_rfl
@[simp] theorem szOf_2 : szOf Tryz.prog 2 = some 1 := by kernel_rfl
@[simp] theorem bytesOf_2 : bytesOf Tryz.prog 2 = some 8 := by kernel_rfl
@[simp] theorem zeroOf_2 : ((Tryz.prog.info? 2).bind fun x => x.zero) = some (.int .i64 0) := by kernel_rfl
@[simp] theorem szOf_3 : szOf Tryz.prog 3 = some 1 := by kernel_rfl
@[simp] theorem bytesOf_3 : bytesOf Tryz.prog 3 = some 8 := by kernel_rfl
@[simp] theorem zeroOf_3 : ((Tryz.prog.info? 3).bind fun x => x.zero) = some (.int .i64 0) := by kernel_rfl
@[simp] theorem szOf_4 : szOf Tryz.prog 4 = some 1 := by kernel_rfl
@[simp] theorem bytesOf_4 : bytesOf Tryz.prog 4 = some 1 := by kernel_rfl
@[simp] theorem zeroOf_4 : ((Tryz.prog.info? 4).bind fun x => x.zero) = some (.bool false) := by kernel_rfl
@[simp] theorem szOf_5 : szOf Tryz.prog 5 = some 1 := by kernel_rfl
@[simp] theorem bytesOf_5 : bytesOf Tryz.prog 5 = some 1 := by kernel_rfl
@[simp] theorem zeroOf_5 : ((Tryz.prog.info? 5).bind fun x => x.zero) = some (.int .u8 0) := by kernel_rfl
@[simp] theorem szOf_6 : szOf Tryz.prog 6 = some 1 := by kernel_rfl
@[simp] theorem bytesOf_6 : bytesOf Tryz.prog 6 = some 1 := by kernel_rfl
@[simp] theorem zeroOf_6 : ((Tryz.prog.info? 6).bind fun x => x.zero) = some (.int .u8 0) := by kernel_rfl
@[simp] theorem szOf_7 : szOf Tryz.prog 7 = some 4 := by kernel_rfl
@[simp] theorem bytesOf_7 : bytesOf Tryz.prog 7 = some 24 := by kernel_rfl
@[simp] theorem zeroOf_7 : ((Tryz.prog.info? 7).bind fun x => x.zero) = some (.agg #[(.int .i64 0), (.int .i64 0), (.bool false), (.int .u8 0)]) := by kernel_rfl
@[simp] theorem szOf_8 : szOf Tryz.prog 8 = some 4 := by kernel_rfl
@[simp] theorem bytesOf_8 : bytesOf Tryz.prog 8 = some 24 := by kernel_rfl
@[simp] theorem zeroOf_8 : ((Tryz.prog.info? 8).bind fun x => x.zero) = some (.agg #[(.int .i64 0), (.int .i64 0), (.bool false), (.int .u8 0)]) := by kernel_rfl
@[simp] theorem szOf_9 : szOf Tryz.prog 9 = some 1 := by kernel_rfl
@[simp] theorem bytesOf_9 : bytesOf Tryz.prog 9 = some 16 := by kernel_rfl
@[simp] theorem zeroOf_9 : ((Tryz.prog.info? 9).bind fun x => x.zero) = some (.string ⟨#[]⟩) := by kernel_rfl
@[simp] theorem szOf_10 : szOf Tryz.prog 10 = some 1 := by kernel_rfl
@[simp] theorem bytesOf_10 : bytesOf Tryz.prog 10 = some 16 := by kernel_rfl
@[simp] theorem zeroOf_10 : ((Tryz.prog.info? 10).bind fun x => x.zero) = some (.string ⟨#[]⟩) := by kernel_rfl
@[simp] theorem szOf_11 : szOf Tryz.prog 11 = some 1 := by kernel_rfl
@[simp] theorem bytesOf_11 : bytesOf Tryz.prog 11 = some 16 := by kernel_rfl
@[simp] theorem zeroOf_11 : ((Tryz.prog.info? 11).bind fun x => x.zero) = some (.string ⟨#[]⟩) := by kernel_rfl
@[simp] theorem szOf_12 : szOf Tryz.prog 12 = some 1 := by kernel_rfl
@[simp] theorem bytesOf_12 : bytesOf Tryz.prog 12 = some 8 := by kernel_rfl
@[simp] theorem zeroOf_12 : ((Tryz.prog.info? 12).bind fun x => x.zero) = some (.int .u64 0) := by kernel_rfl
@[simp] theorem szOf_13 : szOf Tryz.prog 13 = some 2 := by kernel_rfl
@[simp] theorem bytesOf_13 : bytesOf Tryz.prog 13 = some 24 := by kernel_rfl
@[simp] theorem zeroOf_13 : ((Tryz.prog.info? 13).bind fun x => x.zero) = some (.agg #[(.string ⟨#[]⟩), (.int .u64 0)]) := by kernel_rfl
@[simp] theorem szOf_16 : szOf Tryz.prog 16 = some 1 := by kernel_rfl
@[simp] theorem bytesOf_16 : bytesOf Tryz.prog 16 = some 8 := by kernel_rfl
@[simp] theorem zeroOf_16 : ((Tryz.prog.info? 16).bind fun x => x.zero) = some (.pointer none) := by kernel_rfl
@[simp] theorem szOf_17 : szOf Tryz.prog 17 = some 1 := by kernel_rfl
@[simp] theorem bytesOf_17 : bytesOf Tryz.prog 17 = some 8 := by kernel_rfl
@[simp] theorem zeroOf_17 : ((Tryz.prog.info? 17).bind fun x => x.zero) = some (.pointer none) := by kernel_rfl
@[simp] theorem szOf_20 : szOf Tryz.prog 20 = some 1 := by kernel_rfl
@[simp] theorem bytesOf_20 : bytesOf Tryz.prog 20 = some 16 := by kernel_rfl
@[simp] theorem zeroOf_20 : ((Tryz.prog.info? 20).bind fun x => x.zero) = some .nilIface := by kernel_rfl
@[simp] theorem szOf_21 : szOf Tryz.prog 21 = some 1 := by kernel_rfl
@[simp] theorem bytesOf_21 : bytesOf Tryz.prog 21 = some 4 := by kernel_rfl
@[simp] theorem zeroOf_21 : ((Tryz.prog.info? 21).bind fun x => x.zero) = some (.int .i32 0) := by kernel_rfl
@[simp] theorem szOf_22 : szOf Tryz.prog 22 = some 1 := by kernel_rfl
@[simp] theorem bytesOf_22 : bytesOf Tryz.prog 22 = some 8 := by kernel_rfl
@[simp] theorem zeroOf_22 : ((Tryz.prog.info? 22).bind fun x => x.zero) = some .nilFunc := by kernel_rfl
@[simp] theorem szOf_23 : szOf Tryz.prog 23 = some 1 := by kernel_rfl
@[simp] theorem bytesOf_23 : bytesOf Tryz.prog 23 = some 24 := by kernel_rfl
@[simp] theorem zeroOf_23 : ((Tryz.prog.info? 23).bind fun x => x.zero) = some (.slice none 0 0) := by kernel_rfl
@[simp] theorem szOf_24 : szOf Tryz.prog 24 = some 1 := by kernel_rfl
@[simp] theorem bytesOf_24 : bytesOf Tryz.prog 24 = some 1 := by kernel_rfl
@[simp] theorem zeroOf_24 : ((Tryz.prog.info? 24).bind fun x => x.zero) = some (.int .u8 0) := by kernel_rfl
@[simp] theorem szOf_25 : szOf Tryz.prog 25 = some 1 := by kernel_rfl
@[simp] theorem bytesOf_25 : bytesOf Tryz.prog 25 = some 24 := by kernel_rfl
@[simp] theorem zeroOf_25 : ((Tryz.prog.info? 25).bind fun x => x.zero) = some (.slice none 0 0) := by kernel_rfl
@[simp] theorem szOf_26 : szOf Tryz.prog 26 = some 2 := by kernel_rfl
@[simp] theorem bytesOf_26 : bytesOf Tryz.prog 26 = some 32 := by kernel_rfl
@[simp] theorem zeroOf_26 : ((Tryz.prog.info? 26).bind fun x => x.zero) = some (.agg #[(.bool false), (.slice none 0 0)]) := by kernel_rfl
@[simp] theorem szOf_27 : szOf Tryz.prog 27 = some 2 := by kernel_rfl
@[simp] theorem bytesOf_27 : bytesOf Tryz.prog 27 = some 32 := by kernel_rfl
@[simp] theorem zeroOf_27 : ((Tryz.prog.info? 27).bind fun x => x.zero) = some (.agg #[(.bool false), (.slice none 0 0)]) := by kernel_rfl
@[simp] theorem szOf_28 : szOf Tryz.prog 28 = some 1 := by kernel_rfl
@[simp] theorem bytesOf_28 : bytesOf Tryz.prog 28 = some 24 := by kernel_rfl
@[simp] theorem zeroOf_28 : ((Tryz.prog.info? 28).bind fun x => x.zero) = some (.slice none 0 0) := by kernel_rfl
@[simp] theorem szOf_29 : szOf Tryz.prog 29 = some 5 := by kernel_rfl
@[simp] theorem bytesOf_29 : bytesOf Tryz.prog 29 = some 80 := by kernel_rfl
@[simp] theorem zeroOf_29 : ((Tryz.prog.info? 29).bind fun x => x.zero) = some (.agg #[(.int .u8 0), (.string ⟨#[]⟩), (.bool false), (.slice none 0 0), (.slice none 0 0)]) := by kernel_rfl
@[simp] theorem szOf_30 : szOf Tryz.prog 30 = some 5 := by kernel_rfl
@[simp] theorem bytesOf_30 : bytesOf Tryz.prog 30 = some 80 := by kernel_rfl
@[simp] theorem zeroOf_30 : ((Tryz.prog.info? 30).bind fun x => x.zero) = some (.agg #[(.int .u8 0), (.string ⟨#[]⟩), (.bool false), (.slice none 0 0), (.slice none 0 0)]) := by kernel_rfl
@[simp] theorem szOf_31 : szOf Tryz.prog 31 = some 1 := by kernel_rfl
@[simp] theorem bytesOf_31 : bytesOf Tryz.prog 31 = some 24 := by kernel_rfl
@[simp] theorem zeroOf_31 : ((Tryz.prog.info? 31).bind fun x => x.zero) = some (.slice none 0 0) := by kernel_rfl
@[simp] theorem szOf_32 : szOf Tryz.prog 32 = some 1 := by kernel_rfl
@[simp] theorem bytesOf_32 : bytesOf Tryz.prog 32 = some 24 := by kernel_rfl
@[simp] theorem zeroOf_32 : ((Tryz.prog.info? 32).bind fun x => x.zero) = some (.slice none 0 0) := by kernel_rfl
@[simp] theorem szOf_33 : szOf Tryz.prog 33 = some 9 := by kernel_rfl
@[simp] theorem bytesOf_33 : bytesOf Tryz.prog 33 = some 152 := by kernel_rfl
@[simp] theorem zeroOf_33 : ((Tryz.prog.info? 33).bind fun x => x.zero) = some (.agg #[(.bool false), (.string ⟨#[]⟩), (.int .u8 0), (.string ⟨#[]⟩), (.bool false), (.slice none 0 0), (.slice none 0 0), (.slice none 0 0), (.slice none 0 0)]) := by kernel_rfl
@[simp] theorem szOf_34 : szOf Tryz.prog 34 = some 9 := by kernel_rfl
@[simp] theorem bytesOf_34 : bytesOf Tryz.prog 34 = some 152 := by kernel_rfl
@[simp] theorem zeroOf_34 : ((Tryz.prog.info? 34).bind fun x => x.zero) = some (.agg #[(.bool false), (.string ⟨#[]⟩), (.int .u8 0), (.string ⟨#[]⟩), (.bool false), (.slice none 0 0), (.slice none 0 0), (.slice none 0 0), (.slice none 0 0)]) := by kernel_rfl
@[simp] theorem szOf_36 : szOf Tryz.prog 36 = some 10 := by kernel_rfl
@[simp] theorem bytesOf_36 : bytesOf Tryz.prog 36 = some 168 := by kernel_rfl
@[simp] theorem zeroOf_36 : ((Tryz.prog.info? 36).bind fun x => x.zero) = some (.agg #[(.string ⟨#[]⟩), (.bool false), (.string ⟨#[]⟩), (.int .u8 0), (.string ⟨#[]⟩), (.bool false), (.slice none 0 0), (.slice none 0 0), (.slice none 0 0), (.slice none 0 0)]) := by kernel_rfl
@[simp] theorem szOf_37 : szOf Tryz.prog 37 = some 10 := by kernel_rfl
@[simp] theorem bytesOf_37 : bytesOf Tryz.prog 37 = some 168 := by kernel_rfl
@[simp] theorem zeroOf_37 : ((Tryz.prog.info? 37).bind fun x => x.zero) = some (.agg #[(.string ⟨#[]⟩), (.bool false), (.string ⟨#[]⟩), (.int .u8 0), (.string ⟨#[]⟩), (.bool false), (.slice none 0 0), (.slice none 0 0), (.slice none 0 0), (.slice none 0 0)]) := by kernel_rfl
@[simp] theorem szOf_38 : szOf Tryz.prog 38 = some 1 := by kernel_rfl
@[simp] theorem bytesOf_38 : bytesOf Tryz.prog 38 = some 1 := by kernel_rfl
@[simp] theorem zeroOf_38 : ((Tryz.prog.info? 38).bind fun x => x.zero) = some (.int .u8 0) := by kernel_rfl
@[simp] theorem szOf_39 : szOf Tryz.prog 39 = some 1 := by kernel_rfl
@[simp] theorem bytesOf_39 : bytesOf Tryz.prog 39 = some 1 := by kernel_rfl
@[simp] theorem zeroOf_39 : ((Tryz.prog.info? 39).bind fun x => x.zero) = some (.int .u8 0) := by kernel_rfl
@[simp] theorem szOf_40 : szOf Tryz.prog 40 = some 5 := by kernel_rfl
@[simp] theorem bytesOf_40 : bytesOf Tryz.prog 40 = some 64 := by kernel_rfl
@[simp] theorem zeroOf_40 : ((Tryz.prog.info? 40).bind fun x => x.zero) = some (.agg #[(.int .u8 0), (.string ⟨#[]⟩), (.bool false), (.slice none 0 0), (.bool false)]) := by kernel_rfl
@[simp] theorem szOf_41 : szOf Tryz.prog 41 = some 5 := by kernel_rfl
@[simp] theorem bytesOf_41 : bytesOf Tryz.prog 41 = some 64 := by kernel_rfl
@[simp] theorem zeroOf_41 : ((Tryz.prog.info? 41).bind fun x => x.zero) = some (.agg #[(.int .u8 0), (.string ⟨#[]⟩), (.bool false), (.slice none 0 0), (.bool false)]) := by kernel_rfl
@[simp] theorem szOf_43 : szOf Tryz.prog 43 = some 1 := by kernel_rfl
@[simp] theorem bytesOf_43 : bytesOf Tryz.prog 43 = some 24 := by kernel_rfl
@[simp] theorem zeroOf_43 : ((Tryz.prog.info? 43).bind fun x => x.zero) = some (.slice none 0 0) := by kernel_rfl
@[simp] theorem szOf_44 : szOf Tryz.prog 44 = some 1 := by kernel_rfl
@[simp] theorem bytesOf_44 : bytesOf Tryz.prog 44 = some 1 := by kernel_rfl
@[simp] theorem zeroOf_44 : ((Tryz.prog.info? 44).bind fun x => x.zero) = some (.int .u8 0) := by kernel_rfl
@[simp] theorem szOf_45 : szOf Tryz.prog 45 = some 1 := by kernel_rfl
@[simp] theorem bytesOf_45 : bytesOf Tryz.prog 45 = some 24 := by kernel_rfl
@[simp] theorem zeroOf_45 : ((Tryz.prog.info? 45).bind fun x => x.zero) = some (.slice none 0 0) := by kernel_rfl
@[simp] theorem szOf_46 : szOf Tryz.prog 46 = some 1 := by kernel_rfl
@[simp] theorem bytesOf_46 : bytesOf Tryz.prog 46 = some 24 := by kernel_rfl
@[simp] theorem zeroOf_46 : ((Tryz.prog.info? 46).bind fun x => x.zero) = some (.slice none 0 0) := by kernel_rfl
@[simp] theorem szOf_47 : szOf Tryz.prog 47 = some 1 := by kernel_rfl
@[simp] theorem bytesOf_47 : bytesOf Tryz.prog 47 = some 24 := by kernel_rfl
@[simp] theorem zeroOf_47 : ((Tryz.prog.info? 47).bind fun x => x.zero) = some (.slice none 0 0) := by kernel_rfl
@[simp] theorem szOf_48 : szOf Tryz.prog 48 = some 11 := by kernel_rfl
@[simp] theorem bytesOf_48 : bytesOf Tryz.prog 48 = some 184 := by kernel_rfl
@[simp] theorem zeroOf_48 : ((Tryz.prog.info? 48).bind fun x => x.zero) = some (.agg #[(.int .u8 0), (.string ⟨#[]⟩), (.slice none 0 0), (.slice none 0 0), (.int .u8 0), (.string ⟨#[]⟩), (.bool false), (.slice none 0 0), (.bool false), (.slice none 0 0), (.slice none 0 0)]) := by kernel_rfl
@[simp] theorem szOf_49 : szOf Tryz.prog 49 = some 11 := by kernel_rfl
@[simp] theorem bytesOf_49 : bytesOf Tryz.prog 49 = some 184 := by kernel_rfl
@[simp] theorem zeroOf_49 : ((Tryz.prog.info? 49).bind fun x => x.zero) = some (.agg #[(.int .u8 0), (.string ⟨#[]⟩), (.slice none 0 0), (.slice none 0 0), (.int .u8 0), (.string ⟨#[]⟩), (.bool false), (.slice none 0 0), (.bool false), (.slice none 0 0), (.slice none 0 0)]) := by kernel_rfl
@[simp] theorem szOf_51 : szOf Tryz.prog 51 = some 7 := by kernel_rfl
@[simp] theorem bytesOf_51 : bytesOf Tryz.prog 51 = some 144 := by kernel_rfl
@[simp] theorem zeroOf_51 : ((Tryz.prog.info? 51).bind fun x => x.zero) = some (.agg #[(.int .u8 0), (.string ⟨#[]⟩), (.slice none 0 0), (.slice none 0 0), (.slice none 0 0), (.slice none 0 0), (.slice none 0 0)]) := by kernel_rfl
@[simp] theorem szOf_52 : szOf Tryz.prog 52 = some 7 := by kernel_rfl
@[simp] theorem bytesOf_52 : bytesOf Tryz.prog 52 = some 144 := by kernel_rfl
@[simp] theorem zeroOf_52 : ((Tryz.prog.info? 52).bind fun x => x.zero) = some (.agg #[(.int .u8 0), (.string ⟨#[]⟩), (.slice none 0 0), (.slice none 0 0), (.slice none 0 0), (.slice none 0 0), (.slice none 0 0)]) := by kernel_rfl
@[simp] theorem szOf_55 : szOf Tryz.prog 55 = some 3 := by kernel_rfl
@[simp] theorem bytesOf_55 : bytesOf Tryz.prog 55 = some 64 := by kernel_rfl
@[simp] theorem zeroOf_55 : ((Tryz.prog.info? 55).bind fun x => x.zero) = some (.agg #[(.string ⟨#[]⟩), (.slice none 0 0), (.slice none 0 0)]) := by kernel_rfl
@[simp] theorem szOf_56 : szOf Tryz.prog 56 = some 3 := by kernel_rfl
@[simp] theorem bytesOf_56 : bytesOf Tryz.prog 56 = some 64 := by kernel_rfl
@[simp] theorem zeroOf_56 : ((Tryz.prog.info? 56).bind fun x => x.zero) = some (.agg #[(.string ⟨#[]⟩), (.slice none 0 0), (.slice none 0 0)]) := by kernel_rfl
@[simp] theorem szOf_57 : szOf Tryz.prog 57 = some 22 := by kernel_rfl
@[simp] theorem bytesOf_57 : bytesOf Tryz.prog 57 = some 376 := by kernel_rfl
@[simp] theorem zeroOf_57 : ((Tryz.prog.info? 57).bind fun x => x.zero) = some (.agg #[(.string ⟨#[]⟩), (.slice none 0 0), (.bool false), (.string ⟨#[]⟩), (.int .u8 0), (.string ⟨#[]⟩), (.bool false), (.slice none 0 0), (.slice none 0 0), (.slice none 0 0), (.slice none 0 0), (.int .u8 0), (.string ⟨#[]⟩), (.slice none 0 0), (.slice none 0 0), (.int .u8 0), (.string ⟨#[]⟩), (.bool false), (.slice none 0 0), (.bool false), (.slice none 0 0), (.slice none 0 0)]) := by kernel_rfl
@[simp] theorem szOf_58 : szOf Tryz.prog 58 = some 22 := by kernel_rfl
@[simp] theorem bytesOf_58 : bytesOf Tryz.prog 58 = some 376 := by kernel_rfl
@[simp] theorem zeroOf_58 : ((Tryz.prog.info? 58).bind fun x => x.zero) = some (.agg #[(.string ⟨#[]⟩), (.slice none 0 0), (.bool false), (.string ⟨#[]⟩), (.int .u8 0), (.string ⟨#[]⟩), (.bool false), (.slice none 0 0), (.slice none 0 0), (.slice none 0 0), (.slice none 0 0), (.int .u8 0), (.string ⟨#[]⟩), (.slice none 0 0), (.slice none 0 0), (.int .u8 0), (.string ⟨#[]⟩), (.bool false), (.slice none 0 0), (.bool false), (.slice none 0 0), (.slice none 0 0)]) := by kernel_rfl
@[simp] theorem szOf_66 : szOf Tryz.prog 66 = some 1 := by kernel_rfl
@[simp] theorem bytesOf_66 : bytesOf Tryz.prog 66 = some 8 := by kernel_rfl
@[simp] theorem zeroOf_66 : ((Tryz.prog.info? 66).bind fun x => x.zero) = some (.map none) := by kernel_rfl
@[simp] theorem szOf_72 : szOf Tryz.prog 72 = some 1 := by kernel_rfl
@[simp] theorem bytesOf_72 : bytesOf Tryz.prog 72 = some 8 := by kernel_rfl
@[simp] theorem zeroOf_72 : ((Tryz.prog.info? 72).bind fun x => x.zero) = some .nilFunc := by kernel_rfl
@[simp] theorem szOf_93 : szOf Tryz.prog 93 = some 1 := by kernel_rfl
@[simp] theorem bytesOf_93 : bytesOf Tryz.prog 93 = some 8 := by kernel_rfl
@[simp] theorem zeroOf_93 : ((Tryz.prog.info? 93).bind fun x => x.zero) = some (.pointer none) := by kernel_rfl
@[simp] theorem szOf_94 : szOf Tryz.prog 94 = some 1 := by kernel_rfl
@[simp] theorem bytesOf_94 : bytesOf Tryz.prog 94 = some 8 := by kernel_rfl
@[simp] theorem zeroOf_94 : ((Tryz.prog.info? 94).bind fun x => x.zero) = some (.map none) := by kernel_rfl
@[simp] theorem szOf_95 : szOf Tryz.prog 95 = some 3 := by kernel_rfl
@[simp] theorem bytesOf_95 : bytesOf Tryz.prog 95 = some 40 := by kernel_rfl
@[simp] theorem zeroOf_95 : ((Tryz.prog.info? 95).bind fun x => x.zero) = some (.agg #[(.slice none 0 0), (.map none), (.map none)]) := by kernel_rfl
@[simp] theorem szOf_96 : szOf Tryz.prog 96 = some 3 := by kernel_rfl
@[simp] theorem bytesOf_96 : bytesOf Tryz.prog 96 = some 40 := by kernel_rfl
@[simp] theorem zeroOf_96 : ((Tryz.prog.info? 96).bind fun x => x.zero) = some (.agg #[(.slice none 0 0), (.map none), (.map none)]) := by kernel_rfl
@[simp] theorem szOf_97 : szOf Tryz.prog 97 = some 1 := by kernel_rfl
@[simp] theorem bytesOf_97 : bytesOf Tryz.prog 97 = some 8 := by kernel_rfl
@[simp] theorem zeroOf_97 : ((Tryz.prog.info? 97).bind fun x => x.zero) = some (.map none) := by kernel_rfl
@[simp] theorem szOf_98 : szOf Tryz.prog 98 = some 4 := by kernel_rfl
@[simp] theorem bytesOf_98 : bytesOf Tryz.prog 98 = some 48 := by kernel_rfl
@[simp] theorem zeroOf_98 : ((Tryz.prog.info? 98).bind fun x => x.zero) = some (.agg #[(.slice none 0 0), (.map none), (.map none), (.map none)]) := by kernel_rfl
@[simp] theorem szOf_99 : szOf Tryz.prog 99 = some 4 := by kernel_rfl
@[simp] theorem bytesOf_99 : bytesOf Tryz.prog 99 = some 48 := by kernel_rfl
@[simp] theorem zeroOf_99 : ((Tryz.prog.info? 99).bind fun x => x.zero) = some (.agg #[(.slice none 0 0), (.map none), (.map none), (.map none)]) := by kernel_rfl
@[simp] theorem szOf_103 : szOf Tryz.prog 103 = some 1 := by kernel_rfl
@[simp] theorem bytesOf_103 : bytesOf Tryz.prog 103 = some 8 := by kernel_rfl
@[simp] theorem zeroOf_103 : ((Tryz.prog.info? 103).bind fun x => x.zero) = some .nilFunc := by kernel_rfl
@[simp] theorem szOf_104 : szOf Tryz.prog 104 = some 1 := by kernel_rfl
@[simp] theorem bytesOf_104 : bytesOf Tryz.prog 104 = some 8 := by kernel_rfl
@[simp] theorem zeroOf_104 : ((Tryz.prog.info? 104).bind fun x => x.zero) = some .nilFunc := by kernel_rfl
@[simp] theorem szOf_110 : szOf Tryz.prog 110 = some 1 := by kernel_rfl
@[simp] theorem bytesOf_110 : bytesOf Tryz.prog 110 = some 4 := by kernel_rfl
@[simp] theorem zeroOf_110 : ((Tryz.prog.info? 110).bind fun x => x.zero) = some (.int .u32 0) := by kernel_rfl
@[simp] theorem szOf_116 : szOf Tryz.prog 116 = some 1 := by kernel_rfl
@[simp] theorem bytesOf_116 : bytesOf Tryz.prog 116 = some 8 := by kernel_rfl
@[simp] theorem zeroOf_116 : ((Tryz.prog.info? 116).bind fun x => x.zero) = some (.pointer none) := by kernel_rfl
@[simp] theorem szOf_117 : szOf Tryz.prog 117 = some 1 := by kernel_rfl
@[simp] theorem bytesOf_117 : bytesOf Tryz.prog 117 = some 8 := by kernel_rfl
@[simp] theorem zeroOf_117 : ((Tryz.prog.info? 117).bind fun x => x.zero) = some (.pointer none) := by kernel_rfl
@[simp] theorem szOf_118 : szOf Tryz.prog 118 = some 2 := by kernel_rfl
@[simp] theorem bytesOf_118 : bytesOf Tryz.prog 118 = some 32 := by kernel_rfl
@[simp] theorem zeroOf_118 : ((Tryz.prog.info? 118).bind fun x => x.zero) = some (.agg #[(.slice none 0 0), (.map none)]) := by kernel_rfl
@[simp] theorem szOf_119 : szOf Tryz.prog 119 = some 2 := by kernel_rfl
@[simp] theorem bytesOf_119 : bytesOf Tryz.prog 119 = some 32 := by kernel_rfl
@[simp] theorem zeroOf_119 : ((Tryz.prog.info? 119).bind fun x => x.zero) = some (.agg #[(.slice none 0 0), (.map none)]) := by kernel_rfl
@[simp] theorem szOf_120 : szOf Tryz.prog 120 = some 1 := by kernel_rfl
@[simp] theorem bytesOf_120 : bytesOf Tryz.prog 120 = some 24 := by kernel_rfl
@[simp] theorem zeroOf_120 : ((Tryz.prog.info? 120).bind fun x => x.zero) = some (.slice none 0 0) := by kernel_rfl
@[simp] theorem szOf_128 : szOf Tryz.prog 128 = some 1 := by kernel_rfl
@[simp] theorem bytesOf_128 : bytesOf Tryz.prog 128 = some 24 := by kernel_rfl
@[simp] theorem zeroOf_128 : ((Tryz.prog.info? 128).bind fun x => x.zero) = some (.slice none 0 0) := by kernel_rfl
@[simp] theorem szOf_136 : szOf Tryz.prog 136 = some 1 := by kernel_rfl
@[simp] theorem bytesOf_136 : bytesOf Tryz.prog 136 = some 8 := by kernel_rfl
@[simp] theorem zeroOf_136 : ((Tryz.prog.info? 136).bind fun x => x.zero) = some (.pointer none) := by kernel_rfl
@[simp] theorem szOf_138 : szOf Tryz.prog 138 = some 1 := by kernel_rfl
@[simp] theorem bytesOf_138 : bytesOf Tryz.prog 138 = some 8 := by kernel_rfl
@[simp] theorem zeroOf_138 : ((Tryz.prog.info? 138).bind fun x => x.zero) = some .nilFunc := by kernel_rfl
@[simp] theorem szOf_140 : szOf Tryz.prog 140 = some 2 := by kernel_rfl
@[simp] theorem bytesOf_140 : bytesOf Tryz.prog 140 = some 32 := by kernel_rfl
@[simp] theorem zeroOf_140 : ((Tryz.prog.info? 140).bind fun x => x.zero) = some (.agg #[(.string ⟨#[]⟩), (.string ⟨#[]⟩)]) := by kernel_rfl
@[simp] theorem szOf_141 : szOf Tryz.prog 141 = some 2 := by kernel_rfl
@[simp] theorem bytesOf_141 : bytesOf Tryz.prog 141 = some 32 := by kernel_rfl
@[simp] theorem zeroOf_141 : ((Tryz.prog.info? 141).bind fun x => x.zero) = some (.agg #[(.string ⟨#[]⟩), (.string ⟨#[]⟩)]) := by kernel_rfl
@[simp] theorem szOf_142 : szOf Tryz.prog 142 = some 1 := by kernel_rfl
@[simp] theorem bytesOf_142 : bytesOf Tryz.prog 142 = some 8 := by kernel_rfl
@[simp] theorem zeroOf_142 : ((Tryz.prog.info? 142).bind fun x => x.zero) = some .nilFunc := by kernel_rfl
@[simp] theorem szOf_143 : szOf Tryz.prog 143 = some 1 := by kernel_rfl
@[simp] theorem bytesOf_143 : bytesOf Tryz.prog 143 = some 24 := by kernel_rfl
@[simp] theorem zeroOf_143 : ((Tryz.prog.info? 143).bind fun x => x.zero) = some (.slice none 0 0) := by kernel_rfl
@[simp] theorem szOf_145 : szOf Tryz.prog 145 = some 1 := by kernel_rfl
@[simp] theorem bytesOf_145 : bytesOf Tryz.prog 145 = some 8 := by kernel_rfl
@[simp] theorem zeroOf_145 : ((Tryz.prog.info? 145).bind fun x => x.zero) = some .nilFunc := by kernel_rfl
@[simp] theorem szOf_148 : szOf Tryz.prog 148 = some 1 := by kernel_rfl
@[simp] theorem bytesOf_148 : bytesOf Tryz.prog 148 = some 8 := by kernel_rfl
@[simp] theorem zeroOf_148 : ((Tryz.prog.info? 148).bind fun x => x.zero) = some .nilFunc := by kernel_rfl
@[simp] theorem szOf_160 : szOf Tryz.prog 160 = some 1 := by kernel_rfl
@[simp] theorem bytesOf_160 : bytesOf Tryz.prog 160 = some 8 := by kernel_rfl
@[simp] theorem zeroOf_160 : ((Tryz.prog.info? 160).bind fun x => x.zero) = some .nilFunc := by kernel_rfl
@[simp] theorem szOf_189 : szOf Tryz.prog 189 = some 1 := by kernel_rfl
@[simp] theorem bytesOf_189 : bytesOf Tryz.prog 189 = some 8 := by kernel_rfl
@[simp] theorem zeroOf_189 : ((Tryz.prog.info? 189).bind fun x => x.zero) = some .nilFunc := by kernel_rfl
@[simp] theorem szOf_192 : szOf Tryz.prog 192 = some 1 := by kernel_rfl
@[simp] theorem bytesOf_192 : bytesOf Tryz.prog 192 = some 8 := by kernel_rfl
@[simp] theorem zeroOf_192 : ((Tryz.prog.info? 192).bind fun x => x.zero) = some .nilFunc := by kernel_rfl
@[simp] theorem szOf_202 : szOf Tryz.prog 202 = some 2 := by kernel_rfl
@[simp] theorem bytesOf_202 : bytesOf Tryz.prog 202 = some 32 := by kernel_rfl
@[simp] theorem zeroOf_202 : ((Tryz.prog.info? 202).bind fun x => x.zero) = some (.agg #[(.string ⟨#[]⟩), (.string ⟨#[]⟩)]) := by kernel_rfl
@[simp] theorem szOf_203 : szOf Tryz.prog 203 = some 2 := by kernel_rfl
@[simp] theorem bytesOf_203 : bytesOf Tryz.prog 203 = some 32 := by kernel_rfl
@[simp] theorem zeroOf_203 : ((Tryz.prog.info? 203).bind fun x => x.zero) = some (.agg #[(.string ⟨#[]⟩), (.string ⟨#[]⟩)]) := by kernel_rfl
@[simp] theorem szOf_211 : szOf Tryz.prog 211 = some 1 := by kernel_rfl
@[simp] theorem bytesOf_211 : bytesOf Tryz.prog 211 = some 8 := by kernel_rfl
@[simp] theorem zeroOf_211 : ((Tryz.prog.info? 211).bind fun x => x.zero) = some .nilFunc := by kernel_rfl
@[simp] theorem szOf_279 : szOf Tryz.prog 279 = some 0 := by kernel_rfl
@[simp] theorem bytesOf_279 : bytesOf Tryz.prog 279 = some 0 := by kernel_rfl
@[simp] theorem zeroOf_279 : ((Tryz.prog.info? 279).bind fun x => x.zero) = some (.agg #[]) := by kernel_rfl
@[simp] theorem szOf_280 : szOf Tryz.prog 280 = some 0 := by kernel_rfl
@[simp] theorem bytesOf_280 : bytesOf Tryz.prog 280 = some 0 := by kernel_rfl
@[simp] theorem zeroOf_280 : ((Tryz.prog.info? 280).bind fun x => x.zero) = some (.agg #[]) := by kernel_rfl
@[simp] theorem szOf_281 : szOf Tryz.prog 281 = some 0 := by kernel_rfl
@[simp] theorem bytesOf_281 : bytesOf Tryz.prog 281 = some 0 := by kernel_rfl
@[simp] theorem zeroOf_281 : ((Tryz.prog.info? 281).bind fun x => x.zero) = some (.agg #[]) := by kernel_rfl
@[simp] theorem szOf_282 : szOf Tryz.prog 282 = some 1 := by kernel_rfl
@[simp] theorem bytesOf_282 : bytesOf Tryz.prog 282 = some 1 := by kernel_rfl
@[simp] theorem zeroOf_282 : ((Tryz.prog.info? 282).bind fun x => x.zero) = some (.int .u8 0) := by kernel_rfl
@[simp] theorem szOf_283 : szOf Tryz.prog 283 = some 1 := by kernel_rfl
@[simp] theorem bytesOf_283 : bytesOf Tryz.prog 283 = some 1 := by kernel_rfl
@[simp] theorem zeroOf_283 : ((Tryz.prog.info? 283).bind fun x => x.zero) = some (.int .u8 0) := by kernel_rfl
@[simp] theorem szOf_284 : szOf Tryz.prog 284 = some 1 := by kernel_rfl
@[simp] theorem bytesOf_284 : bytesOf Tryz.prog 284 = some 8 := by kernel_rfl
@[simp] theorem zeroOf_284 : ((Tryz.prog.info? 284).bind fun x => x.zero) = some .nilFunc := by kernel_rfl
@[simp] theorem szOf_285 : szOf Tryz.prog 285 = some 1 := by kernel_rfl
@[simp] theorem bytesOf_285 : bytesOf Tryz.prog 285 = some 4 := by kernel_rfl
@[simp] theorem zeroOf_285 : ((Tryz.prog.info? 285).bind fun x => x.zero) = some (.int .i32 0) := by kernel_rfl
@[simp] theorem szOf_286 : szOf Tryz.prog 286 = some 1 := by kernel_rfl
@[simp] theorem bytesOf_286 : bytesOf Tryz.prog 286 = some 4 := by kernel_rfl
@[simp] theorem zeroOf_286 : ((Tryz.prog.info? 286).bind fun x => x.zero) = some (.int .i32 0) := by kernel_rfl
@[simp] theorem szOf_287 : szOf Tryz.prog 287 = some 11 := by kernel_rfl
@[simp] theorem bytesOf_287 : bytesOf Tryz.prog 287 = some 48 := by kernel_rfl
@[simp] theorem zeroOf_287 : ((Tryz.prog.info? 287).bind fun x => x.zero) = some (.agg #[(.int .u64 0), (.int .u64 0), (.int .u32 0), (.int .u8 0), (.int .u8 0), (.int .u8 0), (.int .u8 0), .nilFunc, (.pointer none), (.int .i32 0), (.int .i32 0)]) := by kernel_rfl
@[simp] theorem szOf_288 : szOf Tryz.prog 288 = some 11 := by kernel_rfl
@[simp] theorem bytesOf_288 : bytesOf Tryz.prog 288 = some 48 := by kernel_rfl
@[simp] theorem zeroOf_288 : ((Tryz.prog.info? 288).bind fun x => x.zero) = some (.agg #[(.int .u64 0), (.int .u64 0), (.int .u32 0), (.int .u8 0), (.int .u8 0), (.int .u8 0), (.int .u8 0), .nilFunc, (.pointer none), (.int .i32 0), (.int .i32 0)]) := by kernel_rfl
@[simp] theorem szOf_289 : szOf Tryz.prog 289 = some 2 := by kernel_rfl
@[simp] theorem bytesOf_289 : bytesOf Tryz.prog 289 = some 32 := by kernel_rfl
@[simp] theorem zeroOf_289 : ((Tryz.prog.info? 289).bind fun x => x.zero) = some (.agg #[(.string ⟨#[]⟩), (.string ⟨#[]⟩)]) := by kernel_rfl
@[simp] theorem szOf_290 : szOf Tryz.prog 290 = some 2 := by kernel_rfl
@[simp] theorem bytesOf_290 : bytesOf Tryz.prog 290 = some 32 := by kernel_rfl
@[simp] theorem zeroOf_290 : ((Tryz.prog.info? 290).bind fun x => x.zero) = some (.agg #[(.string ⟨#[]⟩), (.string ⟨#[]⟩)]) := by kernel_rfl
end
section
open Go.RowKit
mutual
def AV.nrm : AV → AV
 | .sl es _ => .sl (nrmRR es) .no
 | .agg cs => .agg (nrmR cs)
 | .tup cs => .tup (nrmR cs)
 | .ifc t v => .ifc t v.nrm
 | v => v
def nrmR : List AV → List AV
 | [] => []
 | v :: l => v.nrm :: nrmR l
def nrmRR : List (List AV) → List (List AV)
 | [] => []
 | r :: l => nrmR r :: nrmRR l
end
mutual
def AV.pln : AV → Bool
 | .lit _ => true
 | .sl es _ => plnRR es
 | .agg cs => plnR cs
 | .tup cs => plnR cs
 | .fn (.func _) f c => f.isEmpty && c.isEmpty
 | _ => false
def plnR : List AV → Bool
 | [] => true
 | v :: l => v.pln && plnR l
def plnRR : List (List AV) → Bool
 | [] => true
 | r :: l => plnR r && plnRR l
end
theorem nrmR_map (l : List AV) : nrmR l = l.map AV.nrm := by induction l with | nil => rfl | cons a l ih => rw [nrmR, ih]; rfl
theorem nrmRR_map (l : List (List AV)) : nrmRR l = l.map nrmR := by induction l with | nil => rfl | cons a l ih => rw [nrmRR, ih]; rfl
theorem plnR_iff (l : List AV) : plnR l = true ↔ ∀ v ∈ l, v.pln = true := by induction l with | nil => simp [plnR] | cons a l ih => simp [plnR, ih]
theorem plnRR_iff (l : List (List AV)) : plnRR l = true ↔ ∀ v ∈ l, plnR v = true := by induction l with | nil => simp [plnRR] | cons a l ih => simp [plnRR, ih]
theorem AV.nrm_one (v : AV) : v.nrm.one = v.one := by cases v <;> rfl
theorem VR.nrm {ι : List Nat} {Z : Nat → Nat → Prop} {w : World} {d : AV} {u : Value} (h : VR ι Z w d u) : VR ι Z w d.nrm u := by
 induction h with
 | lit v h => exact .lit v h
 | ptr id off b h => exact .ptr id off b h
 | eptr row off b o U h h' ih => exact .eptr row off b o U h h'
 | nils a c tok h g => exact .nils a c .no h (.inl rfl)
 | frs t k c b h1 h2 h3 => exact .nils _ c .no (fun h => by cases h) (.inl rfl)
 | sl b o n c k es tok U h1 h2 h3 h4 h5 h6 h7 h8 ih =>
  have key : ∀ {i : Nat} {e : List AV}, (nrmRR es)[i]? = some e → ∃ e', es[i]? = some e' ∧ e = nrmR e' := fun {i e} he => by
   rw [nrmRR_map, List.getElem?_map, Option.map_eq_some_iff] at he
   obtain ⟨e', h1, h2⟩ := he
   exact ⟨e', h1, h2.symm⟩
  have keyr : ∀ {j : Nat} {e : List AV} {d : AV}, (nrmR e)[j]? = some d → ∃ d', e[j]? = some d' ∧ d = d'.nrm := fun {j e d} hd => by
   rw [nrmR_map, List.getElem?_map, Option.map_eq_some_iff] at hd
   obtain ⟨e', h1, h2⟩ := hd
   exact ⟨e', h1, h2.symm⟩
  refine .sl b o n c k _ .no U (by rw [nrmRR_map, List.length_map]; exact h1) h2 h3 h4 (fun i e he => ?_) (fun i j e d he hd => ?_) trivial fun i j e d he hd => ?_
  · obtain ⟨e', h, rfl⟩ := key he
    rw [nrmR_map, List.length_map]; exact h5 i e' h
  · obtain ⟨e', h, rfl⟩ := key he
    obtain ⟨d', h', rfl⟩ := keyr hd
    rw [AV.nrm_one]; exact h6 i j e' d' h h'
  · obtain ⟨e', h, rfl⟩ := key he
    obtain ⟨d', h', rfl⟩ := keyr hd
    exact ih i j e' d' h h'
 | asl id off n k c b h1 h2 h3 h4 => exact .asl id off n k c b h1 h2 h3 h4
 | mp id b h => exact .mp id b h
 | fn f first cap fs cs h1 h2 h3 h4 => exact .fn f first cap fs cs h1 h2 h3 h4
 | ifc t d u h ih => exact .ifc t _ u ih
 | agg ds cs h1 h2 h3 ih =>
  have key : ∀ {j : Nat} {d : AV}, (nrmR ds)[j]? = some d → ∃ d', ds[j]? = some d' ∧ d = d'.nrm := fun {j d} hd => by
   rw [nrmR_map, List.getElem?_map, Option.map_eq_some_iff] at hd
   obtain ⟨e', h1, h2⟩ := hd
   exact ⟨e', h1, h2.symm⟩
  refine .agg _ cs (by rw [nrmR_map, List.length_map]; exact h1) (fun i d hd => ?_) fun i d u hd hu => ?_
  · obtain ⟨d', h, rfl⟩ := key hd
    rw [AV.nrm_one]; exact h2 i d' h
  · obtain ⟨d', h, rfl⟩ := key hd
    exact ih i d' u h hu
 | tup ds cs h1 h2 ih =>
  have key : ∀ {j : Nat} {d : AV}, (nrmR ds)[j]? = some d → ∃ d', ds[j]? = some d' ∧ d = d'.nrm := fun {j d} hd => by
   rw [nrmR_map, List.getElem?_map, Option.map_eq_some_iff] at hd
   obtain ⟨e', h1, h2⟩ := hd
   exact ⟨e', h1, h2.symm⟩
  refine .tup _ cs (by rw [nrmR_map, List.length_map]; exact h1) fun i d u hd hu => ?_
  obtain ⟨d', h, rfl⟩ := key hd
  exact ih i d' u h hu
end
end Go.Proofs.YteajcnilihgheaaGreatDoor
